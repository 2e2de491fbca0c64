/- The contracts of demesneref14: Begin, Claim, Set. -/
import Derived.Test.YtnadiddaeolanaaRef14
namespace Go.Proofs.Ytnadiddaeolanaa
open Go.RowKit
set_option linter.unusedVariables false
set_option linter.unusedSimpArgs false

theorem owns_block_of {w : World} {g n base : Nat} {l : List Int} (h : w.heap[g]? = some (.cells (cellsOf .u64 l) 27 (0, 0))) (hl : l.length = n) (hb : base ≤ g) (hn : n ≤ 4096) : w.ownsRow base 27 1 (.slice (some ⟨g, 0, none⟩) n n) n (u64s l) :=
  ⟨by rw [u64s_len, hl]; omega, .inr ⟨g, n, _, rfl, hb, h, Nat.le_refl _, by simp only [maxLen]; omega, by rw [cellsOf_size, hl]; omega, by simp only [cellsOf, u64s, Nat.mul_one]; rw [List.take_of_length_le (by simp [hl])]⟩⟩

set_option maxRecDepth 100000 in
set_option maxHeartbeats 2000000 in
theorem ref14_begin (n : Nat) (hn : 1 ≤ n ∧ n ≤ 64) (base : Nat) (w : World) (hb : base ≤ w.heap.size) :
    Calls Try.prog 35 #[.int .i64 n] w fun e w' => ∃ v', e = .returned (stVal n (allN n) v') ∧ Ents w' base v' n (List.replicate n 0) ∧ Keep [] w w' := by
  refine calls_abs fun R hR => ?_
  have mixed : Try.prog.follows .mixedOrders = true := by kernel_rfl
  have hmk := fun w => make_u64 n (by omega) w
  have hfin : ∀ (w' : World) (g : Nat), w'.heap[g]? = some (.cells (cellsOf .u64 (List.replicate n 0)) 27 (0, 0)) → w.heap.size ≤ g → Keep [] w w' → R (.returned (stVal n (allN n) (.slice (some ⟨g, 0, none⟩) n n))) w' := fun w' g h hg K =>
    hR.out _ _ ⟨_, rfl, ⟨owns_block_of h (by simp) (by omega) (by omega), by simp, fun x hx => by rw [List.mem_replicate] at hx; rw [hx.2]; decide⟩, K⟩
  have HFIN := Lib.hid hfin
  clear hfin
  unfold stVal at HFIN
  go_enter Try.func35, Try.ntmps35
  go_wp2_with fail
  obtain ⟨z, hz⟩ : ∃ z, z = w.heap.size := ⟨_, rfl⟩
  simp only [← hz]
  generalize hw1 : World.alloc _ _ = w1
  have b1 : w1.heap[z]? = some (.cells #[.int .i64 0, .int .u64 0, .slice none 0 0] 58 (0, 0)) := by rw [← hw1, hz]; exact alloc_new _ _ _ rfl
  have K1 : Keep [] w w1 := by rw [← hw1]; exact (by repeat (first | (with_reducible exact Keep.refl _ _) | (with_reducible refine Keep.drew ?_) | (with_reducible refine Keep.drewN ?_ _) | (with_reducible refine Keep.alloc ?_ _) | (with_reducible refine Keep.setCell ?_ (by first | (simp; done) | (simp; omega) | (left; dsimp only; omega)) _)))
  have c1 := cell_at b1; have f1 := frozen_at b1
  have HB1 := Lib.hid b1; have HK1 := Lib.hid K1; have HZ := Lib.hid hz
  have l1 := lt_of_block b1
  clear hw1 hz b1 K1
  go_region_with_o (go_at_call 87; refine (ref04_all n (by omega) _).mono ?_; rintro e w2 ⟨rfl, K2⟩; have HK2 := Lib.hid K2; have b2 := K2.get (b := z) (by first | exact HB1.out | exact alloc_keeps HB1.out _) (by simp); have c2 := cell_at b2; have f2 := frozen_at b2; have l2 := lt_of_block b2; have hs2 := K2.size; clear K2 b2)
  · go_wp2_with fail
    refine bodyPost_ret (v := .agg #[.int .i64 n, .int .u64 (allN n : Nat), .slice (some ⟨w2.heap.size, 0, none⟩) n n]) ?_ rfl ?_
    · simp [results, Try.results35, go_sem, c2, l2]
    have hz := HZ.out
    have hk : Keep [] w w2 := HK1.out.trans (Keep.trans (show Keep [] w1 _ from (by repeat (first | (with_reducible exact Keep.refl _ _) | (with_reducible refine Keep.drew ?_) | (with_reducible refine Keep.drewN ?_ _) | (with_reducible refine Keep.alloc ?_ _) | (with_reducible refine Keep.setCell ?_ (by first | (simp; done) | (simp; omega) | (left; dsimp only; omega)) _)))) HK2.out)
    exact HFIN.out _ _ (alloc_new _ _ _ (by simp)) (by omega) (by ((repeat (first | (with_reducible exact hk) | (with_reducible refine Keep.drew ?_) | (with_reducible refine Keep.drewN ?_ _) | (with_reducible refine Keep.alloc ?_ _) | ((with_reducible refine Keep.setCell ?_ ?_ _); rotate_left; focus (first | (simp; done) | (simp; omega) | (left; dsimp only; omega))))); done))
  · have r2 := HK2.out.get (b := w1.heap.size) (alloc_new _ _ _ rfl) (by simp)
    have hlt := lt_of_block r2
    have hne : ¬ w1.heap.size = z := by omega
    go_wp2_with fail
    refine bodyPost_ret (v := .agg #[.int .i64 n, .int .u64 (allN n : Nat), .slice (some ⟨w1.heap.size, 0, none⟩) n n]) ?_ rfl ?_
    · simp [results, Try.results35, go_sem, c2, l2]
    have hz := HZ.out
    have hk : Keep [] w w2 := HK1.out.trans (Keep.trans (show Keep [] w1 _ from (by repeat (first | (with_reducible exact Keep.refl _ _) | (with_reducible refine Keep.drew ?_) | (with_reducible refine Keep.drewN ?_ _) | (with_reducible refine Keep.alloc ?_ _) | (with_reducible refine Keep.setCell ?_ (by first | (simp; done) | (simp; omega) | (left; dsimp only; omega)) _)))) HK2.out)
    exact HFIN.out _ w1.heap.size (by rw [← r2]; exact (Keep.block (S := [z]) (w := w2) (by repeat (first | (with_reducible exact Keep.refl _ _) | (with_reducible refine Keep.drew ?_) | (with_reducible refine Keep.drewN ?_ _) | (with_reducible refine Keep.alloc ?_ _) | (with_reducible refine Keep.setCell ?_ (by first | (simp; done) | (simp; omega) | (left; dsimp only; omega)) _))) _ hlt (by simp; omega))) (by omega) (by ((repeat (first | (with_reducible exact hk) | (with_reducible refine Keep.drew ?_) | (with_reducible refine Keep.drewN ?_ _) | (with_reducible refine Keep.alloc ?_ _) | ((with_reducible refine Keep.setCell ?_ ?_ _); rotate_left; focus (first | (simp; done) | (simp; omega) | (left; dsimp only; omega))))); done))

set_option maxRecDepth 100000 in
set_option maxHeartbeats 2000000 in
theorem ref14_claim {w : World} {base : Nat} {v : Value} {n : Nat} {E : List Int} (h : Ents w base v n E) (m : Nat) (hm : m < 18446744073709551616) (hn : n ≤ 64) (r : Int) :
    Calls Try.prog 37 #[stVal n m v, .int .i64 r] w fun e w' => e = .returned (.tuple #[stVal n (claimV m r) v, .int .i64 (findI m r)]) ∧ Ents w' base v n E ∧ Keep [] w w' := by
  refine calls_abs fun R hR => ?_
  have H := Lib.hid h
  obtain ⟨ao, cap, rfl, hc1, hc2⟩ := owns_val h.own
  clear h
  unfold stVal
  go_enter Try.func37, Try.ntmps37
  go_wp2_with fail
  obtain ⟨z, hz⟩ : ∃ z, z = w.heap.size := ⟨_, rfl⟩
  simp only [← hz]
  generalize hw1 : World.alloc _ _ = w1
  have b1 : w1.heap[z]? = some (.cells #[.int .i64 n, .int .u64 m, .slice ao n cap] 58 (0, 0)) := by rw [← hw1, hz]; exact alloc_keeps (alloc_new _ _ _ rfl) _
  have b2 : w1.heap[z + 1]? = some (.cells #[.int .i64 0, .int .u64 0, .slice none 0 0] 58 (0, 0)) := by rw [← hw1, hz]; exact alloc_new _ _ _ (by simp)
  have K1 : Keep [] w w1 := by rw [← hw1]; exact (by repeat (first | (with_reducible exact Keep.refl _ _) | (with_reducible refine Keep.drew ?_) | (with_reducible refine Keep.drewN ?_ _) | (with_reducible refine Keep.alloc ?_ _) | (with_reducible refine Keep.setCell ?_ (by first | (simp; done) | (simp; omega) | (left; dsimp only; omega)) _)))
  have HK1 := Lib.hid K1; have HZ := Lib.hid hz
  clear hw1 hz
  refine (ref04_find m hm r w1).mono ?_
  rintro e w2 ⟨rfl, K2⟩
  have b1 := K2.get b1 (by simp); have b2 := K2.get b2 (by simp)
  have HK2 := Lib.hid (HK1.out.trans K2); have HB1 := Lib.hid b1; have HB2 := Lib.hid b2
  have c1 := cell_at b1; have c2 := cell_at b2; have f1 := frozen_at b1; have f2 := frozen_at b2; have l1 := lt_of_block b1; have l2 := lt_of_block b2
  clear b1 b2 K1 K2
  cases hf : findN m r with
  | none =>
    have e1 : findI m r = -1 := by unfold findI; rw [hf]
    have e2 : claimV m r = m := by unfold claimV; rw [hf]
    rw [e1, e2] at hR
    rw [e1]
    clear hf e1 e2
    go_wp2_with fail
    refine bodyPost_ret (v := .tuple #[.agg #[.int .i64 n, .int .u64 m, .slice ao n cap], .int .i64 (-1)]) ?_ rfl ?_
    · simp [results, Try.results37, go_sem, c1, c2, l1, l2]
    have hz := HZ.out
    refine hR.out _ _ ⟨rfl, H.out.still ?_, ?_⟩
    all_goals (((repeat (first | (with_reducible exact HK2.out) | (with_reducible refine Keep.drew ?_) | (with_reducible refine Keep.drewN ?_ _) | (with_reducible refine Keep.alloc ?_ _) | ((with_reducible refine Keep.setCell ?_ ?_ _); rotate_left; focus (first | (simp; done) | (simp; omega) | (left; dsimp only; omega))))); done))
  | some a =>
    have e1 : findI m r = a := by unfold findI; rw [hf]
    have e2 : claimV m r = withRun m a r.toNat false := by unfold claimV; rw [hf]
    have hrun := findN_is hf
    have hg : 1 ≤ r ∧ r ≤ 3 ∧ a + r.toNat ≤ 64 := by simp [isRun, goodRun] at hrun; omega
    obtain ⟨q, rfl⟩ : ∃ q : Nat, r = q := ⟨r.toNat, by omega⟩
    simp only [Int.toNat_natCast] at e2 hg
    rw [e1, e2] at hR
    rw [e1]
    have n0 : ¬ (a : Int) < 0 := by omega
    clear hf e1 e2 hrun
    go_wp2_with fail
    refine (ref04_with m hm a q (by omega) false w2).mono ?_
    rintro e w3 ⟨rfl, K3⟩
    have b1 := K3.get HB1.out (by simp); have b2 := K3.get HB2.out (by simp)
    have HK3 := Lib.hid (HK2.out.trans K3)
    have c1 := cell_at b1; have c2 := cell_at b2; have f1 := frozen_at b1; have f2 := frozen_at b2; have l1 := lt_of_block b1; have l2 := lt_of_block b2
    clear b1 b2 K3
    generalize withRun m a q false = m2 at *
    go_wp2_with fail
    refine bodyPost_ret (v := .tuple #[.agg #[.int .i64 n, .int .u64 m2, .slice ao n cap], .int .i64 a]) ?_ rfl ?_
    · simp [results, Try.results37, go_sem, c1, c2, l1, l2]
    have hz := HZ.out
    refine hR.out _ _ ⟨rfl, H.out.still ?_, ?_⟩
    all_goals (((repeat (first | (with_reducible exact HK3.out) | (with_reducible refine Keep.drew ?_) | (with_reducible refine Keep.drewN ?_ _) | (with_reducible refine Keep.alloc ?_ _) | ((with_reducible refine Keep.setCell ?_ ?_ _); rotate_left; focus (first | (simp; done) | (simp; omega) | (left; dsimp only; omega))))); done))

/-- The entries behind Set. -/
def setE (n : Nat) (E : List Int) (k : Int) (e : En) : List Int := if e.may = true ∧ 0 ≤ k ∧ k < n then E.set k.toNat e.word else E
theorem En.word_bounds {e : En} (hu : e.u8) (hm : e.may = true) : 0 ≤ e.word ∧ e.word < 18446744073709551616 := by
  have hb := En.bounds hm
  obtain ⟨⟨u1, u2⟩, ⟨u3, u4⟩, ⟨u5, u6⟩, ⟨u7, u8⟩⟩ := hu
  unfold En.word
  omega
set_option maxRecDepth 100000 in
set_option maxHeartbeats 4000000 in
theorem ref14_set {w : World} {base : Nat} {v : Value} {n : Nat} {E : List Int} (h : Ents w base v n E) (hn : n ≤ 64) (hb : base ≤ w.heap.size) (m : Nat) (k : Int) (e : En) (hu : e.u8) :
    Calls Try.prog 45 #[stVal n m v, .int .i64 k, e.val] w fun x w' => ∃ v', x = .returned (stVal n m v') ∧ Ents w' base v' n (setE n E k e) ∧ Keep [] w w' := by
  refine calls_abs fun R hR => ?_
  have mixed : Try.prog.follows .mixedOrders = true := by kernel_rfl
  have H := Lib.hid h
  obtain ⟨ao, cap, rfl, hc1, hc2⟩ := owns_val h.own
  have hmay := fun w => ref05_may e hu w
  have hword := fun w => ref05_word e hu w
  have hev : e.val = .agg #[.int .u8 e.k, .int .u8 e.c, .int .u8 e.r, .int .u8 e.o] := rfl
  rw [hev] at hmay hword ⊢
  have HMAY := Lib.hid hmay; have HWORD := Lib.hid hword
  have hsame : setE n E k e = E → ∀ w', Keep [] w w' → R (.returned (stVal n m (.slice ao n cap))) w' := fun hs w' K => hR.out _ _ ⟨_, rfl, by rw [hs]; exact H.out.still K, K⟩
  have HSAME := Lib.hid hsame
  have hwb := fun hm => En.word_bounds hu hm
  have HWB := Lib.hid hwb
  clear h hmay hword hev hsame hu hwb
  unfold stVal at HSAME ⊢
  by_cases k1 : k < 0
  · have hs : setE n E k e = E := by unfold setE; rw [if_neg (by omega)]
    go_enter Try.func45, Try.ntmps45
    go_wp2_with fail
    refine bodyPost_ret (v := .agg #[.int .i64 n, .int .u64 m, .slice ao n cap]) ?_ rfl ?_
    · simp [results, Try.results45, go_sem]
    exact HSAME.out hs _ (by repeat (first | (with_reducible exact Keep.refl _ _) | (with_reducible refine Keep.drew ?_) | (with_reducible refine Keep.drewN ?_ _) | (with_reducible refine Keep.alloc ?_ _) | (with_reducible refine Keep.setCell ?_ (by first | (simp; done) | (simp; omega) | (left; dsimp only; omega)) _)))
  by_cases k2 : (n : Int) ≤ k
  · have hs : setE n E k e = E := by unfold setE; rw [if_neg (by omega)]
    go_enter Try.func45, Try.ntmps45
    go_wp2_with fail
    refine bodyPost_ret (v := .agg #[.int .i64 n, .int .u64 m, .slice ao n cap]) ?_ rfl ?_
    · simp [results, Try.results45, go_sem]
    exact HSAME.out hs _ (by repeat (first | (with_reducible exact Keep.refl _ _) | (with_reducible refine Keep.drew ?_) | (with_reducible refine Keep.drewN ?_ _) | (with_reducible refine Keep.alloc ?_ _) | (with_reducible refine Keep.setCell ?_ (by first | (simp; done) | (simp; omega) | (left; dsimp only; omega)) _)))
  obtain ⟨q, rfl⟩ : ∃ q : Nat, k = q := ⟨k.toNat, by omega⟩
  go_enter Try.func45, Try.ntmps45
  go_wp2_with fail
  obtain ⟨z, hz⟩ : ∃ z, z = w.heap.size := ⟨_, rfl⟩
  simp only [← hz] at hb ⊢
  generalize hw1 : World.alloc _ _ = w1
  have b1 : w1.heap[z]? = some (.cells #[.int .i64 n, .int .u64 m, .slice ao n cap] 58 (0, 0)) := by rw [← hw1, hz]; exact alloc_keeps (alloc_keeps (alloc_new _ _ _ rfl) _) _
  have b2 : w1.heap[z + 1]? = some (.cells #[.int .u8 e.k, .int .u8 e.c, .int .u8 e.r, .int .u8 e.o] 61 (0, 0)) := by rw [← hw1, hz]; exact alloc_keeps (alloc_new _ _ _ (by simp)) _
  have b3 : w1.heap[z + 2]? = some (.cells #[.int .i64 0, .int .u64 0, .slice none 0 0] 58 (0, 0)) := by rw [← hw1, hz]; exact alloc_new _ _ _ (by simp)
  have K1 : Keep [] w w1 := by rw [← hw1]; exact (by repeat (first | (with_reducible exact Keep.refl _ _) | (with_reducible refine Keep.drew ?_) | (with_reducible refine Keep.drewN ?_ _) | (with_reducible refine Keep.alloc ?_ _) | (with_reducible refine Keep.setCell ?_ (by first | (simp; done) | (simp; omega) | (left; dsimp only; omega)) _)))
  have HZ := Lib.hid hz
  clear hw1 hz
  refine (HMAY.out w1).mono ?_
  rintro x w2 ⟨rfl, K2⟩
  have b1 := K2.get b1 (by simp); have b2 := K2.get b2 (by simp); have b3 := K2.get b3 (by simp)
  have HK2 := Lib.hid (K1.trans K2); have HB1 := Lib.hid b1; have HB2 := Lib.hid b2; have HB3 := Lib.hid b3
  have c1 := cell_at b1; have c2 := cell_at b2; have c3 := cell_at b3; have f3 := frozen_at b3; have l1 := lt_of_block b1; have l2 := lt_of_block b2; have l3 := lt_of_block b3
  clear b1 b2 b3 K1 K2
  cases hm : e.may with
  | false =>
    have hs : setE n E q e = E := by unfold setE; rw [if_neg (by rw [hm]; simp)]
    go_wp2_with fail
    refine bodyPost_ret (v := .agg #[.int .i64 n, .int .u64 m, .slice ao n cap]) ?_ rfl ?_
    · simp [results, Try.results45, go_sem, c1, c3, l1, l3]
    exact HSAME.out hs _ (by have hz := HZ.out; ((repeat (first | (with_reducible exact HK2.out) | (with_reducible refine Keep.drew ?_) | (with_reducible refine Keep.drewN ?_ _) | (with_reducible refine Keep.alloc ?_ _) | ((with_reducible refine Keep.setCell ?_ ?_ _); rotate_left; focus (first | (simp; done) | (simp; omega) | (left; dsimp only; omega))))); done))
  | true =>
    have hqn : q < n := by omega
    have hs : setE n E q e = E.set q e.word := by unfold setE; rw [if_pos ⟨hm, by omega, by omega⟩]; simp
    have hwb := HWB.out hm
    rw [hs] at hR
    have hsv : ∀ y, y = e.word → ∀ w', Keep [] w2 w' → base ≤ w'.heap.size → Calls Try.prog 95 #[.agg #[.int .i64 n, .int .u64 m, .slice ao n cap], .int .i64 q, .int .u64 y] w' fun x w'' => ∃ v', x = .returned (.agg #[.int .i64 n, .int .u64 m, v']) ∧ Ents w'' base v' n (E.set q e.word) ∧ Keep [] w' w'' := fun y hy w' K hbw => by
      subst hy
      have := ref14_set_ ((H.out.still HK2.out).still K) hn hbw m q hqn e.word hwb
      unfold stVal at this
      exact this
    have HSV := Lib.hid hsv
    clear hs hm hwb HSAME HWB hsv
    have hs2 := HK2.out.size
    generalize hew : e.word = y at *
    go_wp2_with fail
    go_region_with_o (first
      | (go_at_call 99; refine (HWORD.out _).mono ?_; rintro x w3 ⟨rfl, K3⟩; have HK3 := Lib.hid (show Keep [] w2 w3 from by refine Keep.trans (a := w2) ?_ K3; ((repeat (first | (with_reducible exact Keep.refl _ _) | (with_reducible refine Keep.drew ?_) | (with_reducible refine Keep.drewN ?_ _) | (with_reducible refine Keep.alloc ?_ _) | ((with_reducible refine Keep.setCell ?_ ?_ _); rotate_left; focus (first | (simp; done) | (simp; omega) | (left; dsimp only; omega))))); done)); have c13 := cell_at (HK3.out.get HB1.out (by simp)); have hs3 := K3.size; clear K3)
      | (go_at_call 95; refine (HSV.out y rfl _ (by ((repeat (first | (with_reducible exact HK3.out) | (with_reducible refine Keep.drew ?_) | (with_reducible refine Keep.drewN ?_ _) | (with_reducible refine Keep.alloc ?_ _) | ((with_reducible refine Keep.setCell ?_ ?_ _); rotate_left; focus (first | (simp; done) | (simp; omega) | (left; dsimp only; omega))))); done)) (by have := HK3.out.size; simp; omega)).mono ?_; rintro x w4 ⟨v4, rfl, E4, K4⟩; have HK4 := Lib.hid (show Keep [] w2 w4 from by refine Keep.trans (a := w2) ?_ K4; ((repeat (first | (with_reducible exact HK3.out) | (with_reducible refine Keep.drew ?_) | (with_reducible refine Keep.drewN ?_ _) | (with_reducible refine Keep.alloc ?_ _) | ((with_reducible refine Keep.setCell ?_ ?_ _); rotate_left; focus (first | (simp; done) | (simp; omega) | (left; dsimp only; omega))))); done)); have HE4 := Lib.hid E4; obtain ⟨ao4, cap4, hv4, -, -⟩ := owns_val E4.own; clear K4 E4; subst hv4; have b34 := HK4.out.get HB3.out (by simp); have c34 := cell_at b34; have f34 := frozen_at b34; have l34 := lt_of_block b34; have B34 := Lib.hid b34; clear b34))
    all_goals (
      go_wp2_with fail
      refine bodyPost_ret (v := .agg #[.int .i64 n, .int .u64 m, .slice ao4 n cap4]) ?_ rfl ?_
      · simp [results, Try.results45, go_sem, c34, l34]
      have hz := HZ.out
      exact hR.out _ _ ⟨_, rfl, HE4.out.beside B34.out (by decide) (by ((repeat (first | (with_reducible exact Keep.refl _ _) | (with_reducible refine Keep.drew ?_) | (with_reducible refine Keep.drewN ?_ _) | (with_reducible refine Keep.alloc ?_ _) | ((with_reducible refine Keep.setCell ?_ ?_ _); rotate_left; focus (first | (simp; done) | (simp; omega) | (left; dsimp only; omega))))); done)), by have hk := HK2.out.trans HK4.out; ((repeat (first | (with_reducible exact hk) | (with_reducible refine Keep.drew ?_) | (with_reducible refine Keep.drewN ?_ _) | (with_reducible refine Keep.alloc ?_ _) | ((with_reducible refine Keep.setCell ?_ ?_ _); rotate_left; focus (first | (simp; done) | (simp; omega) | (left; dsimp only; omega))))); done)⟩)

end Go.Proofs.Ytnadiddaeolanaa
