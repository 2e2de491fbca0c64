/- The contracts of demesneref14: Back, Waiting. -/
import Derived.Test.YtnadiddaeolanaaRef14b
namespace Go.Proofs.Ytnadiddaeolanaa
open Go.RowKit
set_option linter.unusedVariables false
set_option linter.unusedSimpArgs false

def okE (n : Nat) (k r : Int) : Bool := decide (1 ≤ r ∧ r ≤ 3 ∧ 0 ≤ k ∧ k ≤ n - r)
/-- The entries when those from a block on are nothing. -/
def zeroE (E : List Int) (k r : Nat) : List Int := E.mapIdx fun p x => if k ≤ p ∧ p < k + r then 0 else x
def backE (n : Nat) (E : List Int) (k r : Int) : List Int := if okE n k r then zeroE E k.toNat r.toNat else E
def backM (n m : Nat) (k r : Int) : Nat := if okE n k r then backV m k r else m
theorem zeroE_none (E : List Int) (k : Nat) : zeroE E k 0 = E := by
  unfold zeroE
  apply List.ext_getElem (by simp)
  intro i h1 h2
  simp only [List.getElem_mapIdx]
  rw [if_neg (by omega)]
theorem zeroE_len (E : List Int) (k r : Nat) : (zeroE E k r).length = E.length := by simp [zeroE]
theorem zeroE_step (E : List Int) (k r : Nat) : zeroE E k (r + 1) = (zeroE E k r).set (k + r) 0 := by
  apply List.ext_getElem (by simp [zeroE])
  intro i h1 h2
  rw [List.getElem_set]
  simp only [zeroE, List.getElem_mapIdx]
  by_cases e : k + r = i
  · subst e; rw [if_pos (by omega)]; simp
  · rw [if_neg e]
    by_cases e2 : k ≤ i ∧ i < k + r
    · rw [if_pos (by omega), if_pos e2]
    · rw [if_neg (by omega), if_neg e2]
theorem backM_lt {m : Nat} (hm : m < 18446744073709551616) (n : Nat) (k r : Int) : backM n m k r < 18446744073709551616 := by
  unfold backM
  split
  · exact backV_lt hm k r
  · exact hm

set_option maxRecDepth 100000 in
set_option maxHeartbeats 4000000 in
theorem ref14_back {w : World} {base : Nat} {v : Value} {n : Nat} {E : List Int} (h : Ents w base v n E) (hn : n ≤ 64) (hb : base ≤ w.heap.size) (m : Nat) (hm : m < 18446744073709551616) (k r : Int) :
    Calls Try.prog 39 #[stVal n m v, .int .i64 k, .int .i64 r] w fun x w' => ∃ v', x = .returned (stVal n (backM n m k r) v') ∧ Ents w' base v' n (backE n E k r) ∧ Keep [] w w' := by
  refine calls_abs fun R hR => ?_
  have H := Lib.hid h
  obtain ⟨ao, cap, rfl, hc1, hc2⟩ := owns_val h.own
  clear h
  have hsame : okE n k r = false → ∀ w', Keep [] w w' → R (.returned (stVal n m (.slice ao n cap))) w' := fun hs w' K => hR.out _ _ ⟨_, by unfold backM; rw [hs]; rfl, by unfold backE; rw [hs]; exact H.out.still K, K⟩
  have HSAME := Lib.hid hsame
  clear hsame
  unfold stVal at HSAME ⊢
  by_cases r1 : r < 1
  · have ho : okE n k r = false := by simp [okE]; omega
    go_enter Try.func39, Try.ntmps39
    go_wp2_with fail
    refine bodyPost_ret (v := .agg #[.int .i64 n, .int .u64 m, .slice ao n cap]) ?_ rfl ?_
    · simp [results, Try.results39, go_sem]
    exact HSAME.out ho _ (by repeat (first | (with_reducible exact Keep.refl _ _) | (with_reducible refine Keep.drew ?_) | (with_reducible refine Keep.drewN ?_ _) | (with_reducible refine Keep.alloc ?_ _) | (with_reducible refine Keep.setCell ?_ (by first | (simp; done) | (simp; omega) | (left; dsimp only; omega)) _)))
  by_cases r2 : 3 < r
  · have ho : okE n k r = false := by simp [okE]; omega
    go_enter Try.func39, Try.ntmps39
    go_wp2_with fail
    refine bodyPost_ret (v := .agg #[.int .i64 n, .int .u64 m, .slice ao n cap]) ?_ rfl ?_
    · simp [results, Try.results39, go_sem]
    exact HSAME.out ho _ (by repeat (first | (with_reducible exact Keep.refl _ _) | (with_reducible refine Keep.drew ?_) | (with_reducible refine Keep.drewN ?_ _) | (with_reducible refine Keep.alloc ?_ _) | (with_reducible refine Keep.setCell ?_ (by first | (simp; done) | (simp; omega) | (left; dsimp only; omega)) _)))
  by_cases k1 : k < 0
  · have ho : okE n k r = false := by simp [okE]; omega
    go_enter Try.func39, Try.ntmps39
    go_wp2_with fail
    refine bodyPost_ret (v := .agg #[.int .i64 n, .int .u64 m, .slice ao n cap]) ?_ rfl ?_
    · simp [results, Try.results39, go_sem]
    exact HSAME.out ho _ (by repeat (first | (with_reducible exact Keep.refl _ _) | (with_reducible refine Keep.drew ?_) | (with_reducible refine Keep.drewN ?_ _) | (with_reducible refine Keep.alloc ?_ _) | (with_reducible refine Keep.setCell ?_ (by first | (simp; done) | (simp; omega) | (left; dsimp only; omega)) _)))
  have hwr : IntKind.i64.wrap ((n : Int) - r) = n - r := by rw [IntKind.wrap_i64]; omega
  by_cases k2 : (n : Int) - r < k
  · have ho : okE n k r = false := by simp [okE]; omega
    go_enter Try.func39, Try.ntmps39
    go_wp2_with fail
    refine bodyPost_ret (v := .agg #[.int .i64 n, .int .u64 m, .slice ao n cap]) ?_ rfl ?_
    · simp [results, Try.results39, go_sem]
    exact HSAME.out ho _ (by repeat (first | (with_reducible exact Keep.refl _ _) | (with_reducible refine Keep.drew ?_) | (with_reducible refine Keep.drewN ?_ _) | (with_reducible refine Keep.alloc ?_ _) | (with_reducible refine Keep.setCell ?_ (by first | (simp; done) | (simp; omega) | (left; dsimp only; omega)) _)))
  have hok : okE n k r = true := by simp [okE]; omega
  have hR2 : ∀ v' w', Ents w' base v' n (zeroE E k.toNat r.toNat) → Keep [] w w' → R (.returned (stVal n (backV m k r) v')) w' := fun v' w' he K => hR.out _ _ ⟨v', by unfold backM; rw [if_pos hok], by unfold backE; rw [if_pos hok]; exact he, K⟩
  have HR2 := Lib.hid hR2
  clear hR2 hok HSAME
  obtain ⟨rn, rfl⟩ : ∃ rn : Nat, r = rn := ⟨r.toNat, by omega⟩
  obtain ⟨q, rfl⟩ : ∃ q : Nat, k = q := ⟨k.toNat, by omega⟩
  simp only [Int.toNat_natCast] at HR2
  unfold stVal at HR2
  go_enter Try.func39, Try.ntmps39
  go_wp2_with fail
  obtain ⟨z, hz⟩ : ∃ z, z = w.heap.size := ⟨_, rfl⟩
  simp only [← hz] at hb ⊢
  generalize hw1 : World.alloc _ _ = w1
  have b1 : w1.heap[z]? = some (.cells #[.int .i64 n, .int .u64 m, .slice ao n cap] 58 (0, 0)) := by rw [← hw1, hz]; exact alloc_keeps (alloc_new _ _ _ rfl) _
  have b2 : w1.heap[z + 1]? = some (.cells #[.int .i64 0, .int .u64 0, .slice none 0 0] 58 (0, 0)) := by rw [← hw1, hz]; exact alloc_new _ _ _ (by simp)
  have K1 : Keep [] w w1 := by rw [← hw1]; exact (by repeat (first | (with_reducible exact Keep.refl _ _) | (with_reducible refine Keep.drew ?_) | (with_reducible refine Keep.drewN ?_ _) | (with_reducible refine Keep.alloc ?_ _) | (with_reducible refine Keep.setCell ?_ (by first | (simp; done) | (simp; omega) | (left; dsimp only; omega)) _)))
  have HZ := Lib.hid hz; have HB1 := Lib.hid b1; have HB2 := Lib.hid b2; have HK1 := Lib.hid K1
  clear hw1 hz b1 b2 K1
  go_loopg [7] rn (fun j iv wr => ∃ d : Nat, d + j = rn ∧ iv = .int .i64 (d : Int) ∧ (∃ ao' cap', wr.heap[z]? = some (.cells #[.int .i64 n, .int .u64 m, .slice ao' n cap'] 58 (0, 0)) ∧ Ents wr base (.slice ao' n cap') n (zeroE E q d)) ∧ wr.heap[z + 1]? = some (.cells #[.int .i64 0, .int .u64 0, .slice none 0 0] 58 (0, 0)) ∧ Keep [] w wr)
  case atStart => exact ⟨0, by omega, rfl, ⟨ao, cap, HB1.out, by rw [zeroE_none]; exact H.out.still HK1.out⟩, HB2.out, HK1.out⟩
  case round =>
    obtain ⟨d, hd, rfl, ⟨ao', cap', hb1, hE⟩, hb2, hkr⟩ := hrel
    have c1 := cell_at hb1; have c2 := cell_at hb2; have f1 := frozen_at hb1; have f2 := frozen_at hb2; have l1 := lt_of_block hb1; have l2 := lt_of_block hb2
    have HB1 := Lib.hid hb1; have HB2 := Lib.hid hb2; have HE := Lib.hid hE; have HKR := Lib.hid hkr
    clear hb1 hb2 hE hkr
    by_cases hdn : d < rn
    · have i1 : (d : Int) < (rn : Int) := by omega
      have hwq : IntKind.i64.wrap ((q : Int) + d) = (q + d : Nat) := by rw [IntKind.wrap_i64]; omega
      have hsv := ref14_set_ HE.out hn (by have := HKR.out.size; omega) m (q + d) (by omega) 0 (by decide)
      unfold stVal at hsv
      rw [← zeroE_step] at hsv
      have HSV := Lib.hid hsv
      clear hsv
      go_wp2_with fail
      refine HSV.out.mono ?_
      rintro e w3 ⟨v3, rfl, E3, K3⟩
      obtain ⟨ao3, cap3, rfl, -, -⟩ := owns_val E3.own
      have b1 := K3.get HB1.out (by simp); have b2 := K3.get HB2.out (by simp)
      have c1 := cell_at b1; have f1 := frozen_at b1; have l1 := lt_of_block b1
      have HB31 := Lib.hid b1; have HB32 := Lib.hid b2; have HE3 := Lib.hid E3; have HK3 := Lib.hid (HKR.out.trans K3)
      clear b1 b2 E3 K3
      go_wp2_with fail
      go_roundg (rn - (d + 1))
      case measure => omega
      case rel =>
        refine ⟨d + 1, by omega, by go_num, ⟨ao3, cap3, put_at (put_at (put_at HB31.out 0 _) 1 _) 2 _, HE3.out.beside HB31.out (by decide) (by repeat (first | (with_reducible exact Keep.refl _ _) | (with_reducible refine Keep.drew ?_) | (with_reducible refine Keep.drewN ?_ _) | (with_reducible refine Keep.alloc ?_ _) | (with_reducible refine Keep.setCell ?_ (by first | (simp; done) | (simp; omega) | (left; dsimp only; omega)) _)))⟩, ?_, ?_⟩
        · exact Keep.get (S := [z]) (w := w3) (by repeat (first | (with_reducible exact Keep.refl _ _) | (with_reducible refine Keep.drew ?_) | (with_reducible refine Keep.drewN ?_ _) | (with_reducible refine Keep.alloc ?_ _) | (with_reducible refine Keep.setCell ?_ (by first | (simp; done) | (simp; omega) | (left; dsimp only; omega)) _))) HB32.out (by simp)
        · have hz := HZ.out
          ((repeat (first | (with_reducible exact HK3.out) | (with_reducible refine Keep.drew ?_) | (with_reducible refine Keep.drewN ?_ _) | (with_reducible refine Keep.alloc ?_ _) | ((with_reducible refine Keep.setCell ?_ ?_ _); rotate_left; focus (first | (simp; done) | (simp; omega) | (left; dsimp only; omega))))); done)
    · obtain rfl : d = rn := by omega
      go_wp2_with fail
      refine (ref04_is m hm q d false wr).mono ?_
      rintro e w3 ⟨rfl, K3⟩
      have b1 := K3.get HB1.out (by simp); have b2 := K3.get HB2.out (by simp)
      have c1 := cell_at b1; have f1 := frozen_at b1; have l1 := lt_of_block b1
      have c2 := cell_at b2; have f2 := frozen_at b2; have l2 := lt_of_block b2
      have HB31 := Lib.hid b1; have HB32 := Lib.hid b2; have HE3 := Lib.hid (HE.out.still K3); have HK3 := Lib.hid (HKR.out.trans K3)
      clear b1 b2 K3
      cases hir : isRun m q d false with
      | false =>
        have hbv : backV m q d = m := by unfold backV; rw [hir]; rfl
        rw [hbv] at HR2
        clear hbv hir
        go_wp2_with fail
        refine bodyPost_ret (v := .agg #[.int .i64 n, .int .u64 m, .slice ao' n cap']) ?_ rfl ?_
        · simp [results, Try.results39, go_sem, c1, c2, l1, l2]
        have hz := HZ.out
        exact HR2.out _ _ (HE3.out.beside HB32.out (by decide) (by repeat (first | (with_reducible exact Keep.refl _ _) | (with_reducible refine Keep.drew ?_) | (with_reducible refine Keep.drewN ?_ _) | (with_reducible refine Keep.alloc ?_ _) | (with_reducible refine Keep.setCell ?_ (by first | (simp; done) | (simp; omega) | (left; dsimp only; omega)) _)))) (by ((repeat (first | (with_reducible exact HK3.out) | (with_reducible refine Keep.drew ?_) | (with_reducible refine Keep.drewN ?_ _) | (with_reducible refine Keep.alloc ?_ _) | ((with_reducible refine Keep.setCell ?_ ?_ _); rotate_left; focus (first | (simp; done) | (simp; omega) | (left; dsimp only; omega))))); done))
      | true =>
        have hbv : backV m q d = withRun m q d true := by unfold backV; rw [hir]; rfl
        rw [hbv] at HR2
        clear hbv hir
        go_wp2_with fail
        refine (ref04_with m hm q d (by omega) true w3).mono ?_
        rintro e w4 ⟨rfl, K4⟩
        have b1 := K4.get HB31.out (by simp); have b2 := K4.get HB32.out (by simp)
        have c1 := cell_at b1; have f1 := frozen_at b1; have l1 := lt_of_block b1
        have c2 := cell_at b2; have f2 := frozen_at b2; have l2 := lt_of_block b2
        have HB41 := Lib.hid b1; have HB42 := Lib.hid b2
        have HE4 := Lib.hid (HE3.out.still K4); have HK4 := Lib.hid (HK3.out.trans K4)
        clear b1 b2 K4
        generalize withRun m q d true = m2 at *
        go_wp2_with fail
        refine bodyPost_ret (v := .agg #[.int .i64 n, .int .u64 m2, .slice ao' n cap']) ?_ rfl ?_
        · simp [results, Try.results39, go_sem, c1, c2, l1, l2]
        have hz := HZ.out
        refine HR2.out _ _ (Ents.beside (w := World.setCell w4 ⟨z, 1, none⟩ (.int .u64 m2)) (HE4.out.beside HB41.out (by decide) (by repeat (first | (with_reducible exact Keep.refl _ _) | (with_reducible refine Keep.drew ?_) | (with_reducible refine Keep.drewN ?_ _) | (with_reducible refine Keep.alloc ?_ _) | (with_reducible refine Keep.setCell ?_ (by first | (simp; done) | (simp; omega) | (left; dsimp only; omega)) _)))) (q := z + 1) (Keep.get (S := [z]) (w := w4) (by repeat (first | (with_reducible exact Keep.refl _ _) | (with_reducible refine Keep.drew ?_) | (with_reducible refine Keep.drewN ?_ _) | (with_reducible refine Keep.alloc ?_ _) | (with_reducible refine Keep.setCell ?_ (by first | (simp; done) | (simp; omega) | (left; dsimp only; omega)) _))) HB42.out (by simp)) (by decide) (by repeat (first | (with_reducible exact Keep.refl _ _) | (with_reducible refine Keep.drew ?_) | (with_reducible refine Keep.drewN ?_ _) | (with_reducible refine Keep.alloc ?_ _) | (with_reducible refine Keep.setCell ?_ (by first | (simp; done) | (simp; omega) | (left; dsimp only; omega)) _)))) (by ((repeat (first | (with_reducible exact HK4.out) | (with_reducible refine Keep.drew ?_) | (with_reducible refine Keep.drewN ?_ _) | (with_reducible refine Keep.alloc ?_ _) | ((with_reducible refine Keep.setCell ?_ ?_ _); rotate_left; focus (first | (simp; done) | (simp; omega) | (left; dsimp only; omega))))); done))

/-- One block of Waiting, the map and the entries. -/
def waitES (n : Nat) (o : Int) (s : Nat × List Int) (i : Nat) : Nat × List Int :=
  let e := takeE (s.2.getD i 0)
  if (e.k = 4 ∨ e.k = 5) ∧ e.o = o then (backM n s.1 i e.blocks, backE n s.2 i e.blocks) else s
def waitE (n : Nat) (o : Int) (s : Nat × List Int) (k : Nat) : Nat × List Int := (List.range k).foldl (waitES n o) s
theorem waitE_succ (n : Nat) (o : Int) (s : Nat × List Int) (k : Nat) : waitE n o s (k + 1) = waitES n o (waitE n o s k) k := by simp [waitE, List.range_succ]
theorem waitE_lt {n : Nat} {o : Int} {s : Nat × List Int} (h : s.1 < 18446744073709551616) (k : Nat) : (waitE n o s k).1 < 18446744073709551616 := by
  induction k with
  | zero => exact h
  | succ k ih =>
    rw [waitE_succ]
    unfold waitES
    dsimp only
    split
    · exact backM_lt ih _ _ _
    · exact ih

set_option maxRecDepth 100000 in
set_option maxHeartbeats 4000000 in
theorem ref14_waiting {w : World} {base : Nat} {v : Value} {n : Nat} {E : List Int} (h : Ents w base v n E) (hn : n ≤ 64) (hb : base ≤ w.heap.size) (m : Nat) (hm : m < 18446744073709551616) (o : Int) :
    Calls Try.prog 42 #[stVal n m v, .int .u8 o] w fun x w' => ∃ v', x = .returned (stVal n (waitE n o (m, E) n).1 v') ∧ Ents w' base v' n (waitE n o (m, E) n).2 ∧ Keep [] w w' := by
  refine calls_abs fun R hR => ?_
  have H := Lib.hid h
  obtain ⟨ao, cap, rfl, hc1, hc2⟩ := owns_val h.own
  clear h
  unfold stVal at hR ⊢
  go_enter Try.func42, Try.ntmps42
  go_wp2_with fail
  obtain ⟨z, hz⟩ : ∃ z, z = w.heap.size := ⟨_, rfl⟩
  simp only [← hz] at hb ⊢
  generalize hw1 : World.alloc _ _ = w1
  have b1 : w1.heap[z]? = some (.cells #[.int .i64 n, .int .u64 m, .slice ao n cap] 58 (0, 0)) := by rw [← hw1, hz]; exact alloc_keeps (alloc_new _ _ _ rfl) _
  have b2 : w1.heap[z + 1]? = some (.cells #[.int .i64 0, .int .u64 0, .slice none 0 0] 58 (0, 0)) := by rw [← hw1, hz]; exact alloc_new _ _ _ (by simp)
  have K1 : Keep [] w w1 := by rw [← hw1]; exact (by repeat (first | (with_reducible exact Keep.refl _ _) | (with_reducible refine Keep.drew ?_) | (with_reducible refine Keep.drewN ?_ _) | (with_reducible refine Keep.alloc ?_ _) | (with_reducible refine Keep.setCell ?_ (by first | (simp; done) | (simp; omega) | (left; dsimp only; omega)) _)))
  have HZ := Lib.hid hz; have HB1 := Lib.hid b1; have HB2 := Lib.hid b2; have HK1 := Lib.hid K1
  clear hw1 hz b1 b2 K1
  have HM := Lib.hid hm
  go_loopg [5] n (fun j iv wr => ∃ i : Nat, i + j = n ∧ iv = .int .i64 (i : Int) ∧ (∃ ao' cap', wr.heap[z]? = some (.cells #[.int .i64 n, .int .u64 (waitE n o (m, E) i).1, .slice ao' n cap'] 58 (0, 0)) ∧ Ents wr base (.slice ao' n cap') n (waitE n o (m, E) i).2) ∧ wr.heap[z + 1]? = some (.cells #[.int .i64 0, .int .u64 0, .slice none 0 0] 58 (0, 0)) ∧ Keep [] w wr)
  case atStart => exact ⟨0, by omega, rfl, ⟨ao, cap, HB1.out, H.out.still HK1.out⟩, HB2.out, HK1.out⟩
  case round =>
    obtain ⟨i, hi, rfl, ⟨ao', cap', hb1, hE⟩, hb2, hkr⟩ := hrel
    have hsz := hkr.size
    by_cases hin : i < n
    · have i1 : (i : Int) < (n : Int) := by omega
      have i0 : (0 : Int) ≤ (i : Int) := by omega
      have hlt := waitE_lt (n := n) (o := o) (s := (m, E)) HM.out i
      have hsu := waitE_succ n o (m, E) i
      unfold waitES at hsu
      dsimp only at hsu
      generalize hs2 : waitE n o (m, E) (i + 1) = s2 at *
      generalize waitE n o (m, E) i = s at *
      obtain ⟨sm, sE⟩ := s
      dsimp only at *
      obtain ⟨g0, cap0, hv, hc1', hc2', hge, hltg, hcl, hfr⟩ := owns_some hE.own (by omega)
      cases hv
      have hel : i < sE.length := by rw [hE.len]; exact hin
      have cg := hcl i (.int .u64 (sE.getD i 0)) (by simp [u64s, hel])
      have fg := hfr i
      have hx := hE.words (sE.getD i 0) (by rw [List.getD_eq_getElem?_getD, List.getElem?_eq_getElem hel]; exact List.getElem_mem hel)
      have c1 := cell_at hb1; have c2 := cell_at hb2; have f1 := frozen_at hb1; have f2 := frozen_at hb2; have l1 := lt_of_block hb1; have l2 := lt_of_block hb2
      have HB1 := Lib.hid hb1; have HB2 := Lib.hid hb2; have HE := Lib.hid hE; have HKR := Lib.hid hkr; have HSU := Lib.hid hsu; have HS2 := Lib.hid hs2; have HSZ := Lib.hid hsz; have HGE := Lib.hid hge; have HLTG := Lib.hid hltg; have HLT := Lib.hid hlt
      clear hb1 hb2 hE hkr hsu hs2 hsz hge hltg hcl hfr hlt
      have htk := ref05_take (sE.getD i 0) hx wr
      have hu := takeE_u8 (sE.getD i 0)
      generalize takeE (sE.getD i 0) = d at *
      generalize sE.getD i 0 = x at *
      obtain ⟨k, c, r, oo⟩ := d
      unfold En.val at htk
      dsimp only at htk
      generalize (if isEn x = true then (0 : Int) else 3) = xe at htk
      have HTK := Lib.hid htk
      clear htk
      go_wp2_with fail
      refine HTK.out.mono ?_
      rintro e w3 ⟨rfl, K3⟩
      obtain ⟨-, -, ⟨u5, u6⟩, -⟩ := hu
      dsimp only at u5 u6
      have hwr : IntKind.i64.wrap r = r := by rw [IntKind.wrap_i64]; omega
      have b1 := K3.get HB1.out (by simp); have b2 := K3.get HB2.out (by simp)
      have c1 := cell_at b1; have f1 := frozen_at b1; have l1 := lt_of_block b1; have l2 := lt_of_block b2
      have HB31 := Lib.hid b1; have HB32 := Lib.hid b2; have HE3 := Lib.hid (HE.out.still K3); have HK3 := Lib.hid (HKR.out.trans K3)
      clear b1 b2 K3
      have hbk : ∀ (bk : Int) (w' : World), Keep [] w3 w' → Calls Try.prog 39 #[.agg #[.int .i64 n, .int .u64 sm, .slice (some ⟨g0, 0, none⟩) n cap'], .int .i64 i, .int .i64 bk] w' fun x w'' => ∃ v', x = .returned (.agg #[.int .i64 n, .int .u64 (backM n sm i bk : Nat), v']) ∧ Ents w'' base v' n (backE n sE i bk) ∧ Keep [] w' w'' := fun bk w' K => by
        have := ref14_back (HE3.out.still K) hn (by have := K.size; have := HK3.out.size; omega) sm HLT.out i bk
        unfold stVal at this
        exact this
      have HBK := Lib.hid hbk
      clear hbk
      have hskip : ¬((k = 4 ∨ k = 5) ∧ oo = o) → s2 = (sm, sE) := fun hh => by rw [HSU.out, if_neg hh]
      have htake : ∀ bk, En.blocks ⟨k, c, r, oo⟩ = bk → (k = 4 ∨ k = 5) ∧ oo = o → s2 = (backM n sm i bk, backE n sE i bk) := fun bk hbk hh => by rw [HSU.out, if_pos hh, hbk]
      have HSK := Lib.hid hskip; have HTA := Lib.hid htake
      clear hskip htake HSU
      by_cases ho : oo = o
      · subst ho
        by_cases k4 : k = 4
        · subst k4
          have hs := HTA.out 1 (by simp [En.blocks]) (by simp)
          have HS := Lib.hid hs
          clear hs
          go_wp2_with fail
          refine (HBK.out 1 _ (by repeat (first | (with_reducible exact Keep.refl _ _) | (with_reducible refine Keep.drew ?_) | (with_reducible refine Keep.drewN ?_ _) | (with_reducible refine Keep.alloc ?_ _) | (with_reducible refine Keep.setCell ?_ (by first | (simp; done) | (simp; omega) | (left; dsimp only; omega)) _)))).mono ?_
          rintro e w5 ⟨v5, rfl, E5, K5⟩
          obtain ⟨ao5, cap5, rfl, -, -⟩ := owns_val E5.own
          have b1 := K5.get (alloc_keeps HB31.out _) (by simp); have b2 := K5.get (alloc_keeps HB32.out _) (by simp)
          have c1 := cell_at b1; have f1 := frozen_at b1; have l1 := lt_of_block b1
          have HB51 := Lib.hid b1; have HB52 := Lib.hid b2; have HE5 := Lib.hid E5
          have HK5 := Lib.hid (HK3.out.trans (Keep.trans (show Keep [] w3 _ from (by repeat (first | (with_reducible exact Keep.refl _ _) | (with_reducible refine Keep.drew ?_) | (with_reducible refine Keep.drewN ?_ _) | (with_reducible refine Keep.alloc ?_ _) | (with_reducible refine Keep.setCell ?_ (by first | (simp; done) | (simp; omega) | (left; dsimp only; omega)) _)))) K5))
          clear b1 b2 E5 K5
          generalize backM n sm i 1 = m5 at *
          generalize backE n sE i 1 = E5 at *
          go_wp2_with fail
          go_roundg (n - (i + 1))
          case measure => omega
          case rel =>
            refine ⟨i + 1, by omega, by go_num, by rw [HS2.out, HS.out]; exact ⟨ao5, cap5, put_at (put_at (put_at HB51.out 0 _) 1 _) 2 _, HE5.out.beside HB51.out (by decide) (by repeat (first | (with_reducible exact Keep.refl _ _) | (with_reducible refine Keep.drew ?_) | (with_reducible refine Keep.drewN ?_ _) | (with_reducible refine Keep.alloc ?_ _) | (with_reducible refine Keep.setCell ?_ (by first | (simp; done) | (simp; omega) | (left; dsimp only; omega)) _)))⟩, ?_, ?_⟩
            · exact Keep.get (S := [z]) (w := w5) (by repeat (first | (with_reducible exact Keep.refl _ _) | (with_reducible refine Keep.drew ?_) | (with_reducible refine Keep.drewN ?_ _) | (with_reducible refine Keep.alloc ?_ _) | (with_reducible refine Keep.setCell ?_ (by first | (simp; done) | (simp; omega) | (left; dsimp only; omega)) _))) HB52.out (by simp)
            · have hz := HZ.out
              ((repeat (first | (with_reducible exact HK5.out) | (with_reducible refine Keep.drew ?_) | (with_reducible refine Keep.drewN ?_ _) | (with_reducible refine Keep.alloc ?_ _) | ((with_reducible refine Keep.setCell ?_ ?_ _); rotate_left; focus (first | (simp; done) | (simp; omega) | (left; dsimp only; omega))))); done)
        by_cases k5 : k = 5
        · subst k5
          have hs := HTA.out r (by simp [En.blocks]) (by simp)
          have HS := Lib.hid hs
          clear hs
          go_wp2_with fail
          refine (HBK.out r _ (by repeat (first | (with_reducible exact Keep.refl _ _) | (with_reducible refine Keep.drew ?_) | (with_reducible refine Keep.drewN ?_ _) | (with_reducible refine Keep.alloc ?_ _) | (with_reducible refine Keep.setCell ?_ (by first | (simp; done) | (simp; omega) | (left; dsimp only; omega)) _)))).mono ?_
          rintro e w5 ⟨v5, rfl, E5, K5⟩
          obtain ⟨ao5, cap5, rfl, -, -⟩ := owns_val E5.own
          have b1 := K5.get (alloc_keeps HB31.out _) (by simp); have b2 := K5.get (alloc_keeps HB32.out _) (by simp)
          have c1 := cell_at b1; have f1 := frozen_at b1; have l1 := lt_of_block b1
          have HB51 := Lib.hid b1; have HB52 := Lib.hid b2; have HE5 := Lib.hid E5
          have HK5 := Lib.hid (HK3.out.trans (Keep.trans (show Keep [] w3 _ from (by repeat (first | (with_reducible exact Keep.refl _ _) | (with_reducible refine Keep.drew ?_) | (with_reducible refine Keep.drewN ?_ _) | (with_reducible refine Keep.alloc ?_ _) | (with_reducible refine Keep.setCell ?_ (by first | (simp; done) | (simp; omega) | (left; dsimp only; omega)) _)))) K5))
          clear b1 b2 E5 K5
          generalize backM n sm i r = m5 at *
          generalize backE n sE i r = E5 at *
          go_wp2_with fail
          go_roundg (n - (i + 1))
          case measure => omega
          case rel =>
            refine ⟨i + 1, by omega, by go_num, by rw [HS2.out, HS.out]; exact ⟨ao5, cap5, put_at (put_at (put_at HB51.out 0 _) 1 _) 2 _, HE5.out.beside HB51.out (by decide) (by repeat (first | (with_reducible exact Keep.refl _ _) | (with_reducible refine Keep.drew ?_) | (with_reducible refine Keep.drewN ?_ _) | (with_reducible refine Keep.alloc ?_ _) | (with_reducible refine Keep.setCell ?_ (by first | (simp; done) | (simp; omega) | (left; dsimp only; omega)) _)))⟩, ?_, ?_⟩
            · exact Keep.get (S := [z]) (w := w5) (by repeat (first | (with_reducible exact Keep.refl _ _) | (with_reducible refine Keep.drew ?_) | (with_reducible refine Keep.drewN ?_ _) | (with_reducible refine Keep.alloc ?_ _) | (with_reducible refine Keep.setCell ?_ (by first | (simp; done) | (simp; omega) | (left; dsimp only; omega)) _))) HB52.out (by simp)
            · have hz := HZ.out
              ((repeat (first | (with_reducible exact HK5.out) | (with_reducible refine Keep.drew ?_) | (with_reducible refine Keep.drewN ?_ _) | (with_reducible refine Keep.alloc ?_ _) | ((with_reducible refine Keep.setCell ?_ ?_ _); rotate_left; focus (first | (simp; done) | (simp; omega) | (left; dsimp only; omega))))); done)
        have hs := HSK.out (by rintro ⟨h, -⟩; omega)
        have HS := Lib.hid hs
        clear hs
        have j4 : (k == 4) = false := by simp [k4]
        have j5 : (k == 5) = false := by simp [k5]
        have q4 : (k != 4) = true := by simp [k4]
        have q5 : (k != 5) = true := by simp [k5]
        go_wp2_with fail
        go_roundg (n - (i + 1))
        case measure => omega
        case rel =>
          exact ⟨i + 1, by omega, by go_num, by rw [HS2.out, HS.out]; exact ⟨_, _, alloc_keeps HB31.out _, HE3.out.still (by repeat (first | (with_reducible exact Keep.refl _ _) | (with_reducible refine Keep.drew ?_) | (with_reducible refine Keep.drewN ?_ _) | (with_reducible refine Keep.alloc ?_ _) | (with_reducible refine Keep.setCell ?_ (by first | (simp; done) | (simp; omega) | (left; dsimp only; omega)) _)))⟩, alloc_keeps HB32.out _, by ((repeat (first | (with_reducible exact HK3.out) | (with_reducible refine Keep.drew ?_) | (with_reducible refine Keep.drewN ?_ _) | (with_reducible refine Keep.alloc ?_ _) | ((with_reducible refine Keep.setCell ?_ ?_ _); rotate_left; focus (first | (simp; done) | (simp; omega) | (left; dsimp only; omega))))); done)⟩
      · have hs := HSK.out (by rintro ⟨-, h⟩; exact ho h)
        have HS := Lib.hid hs
        clear hs
        go_wp2_with fail
        go_roundg (n - (i + 1))
        case measure => omega
        case rel =>
          exact ⟨i + 1, by omega, by go_num, by rw [HS2.out, HS.out]; exact ⟨_, _, alloc_keeps HB31.out _, HE3.out.still (by repeat (first | (with_reducible exact Keep.refl _ _) | (with_reducible refine Keep.drew ?_) | (with_reducible refine Keep.drewN ?_ _) | (with_reducible refine Keep.alloc ?_ _) | (with_reducible refine Keep.setCell ?_ (by first | (simp; done) | (simp; omega) | (left; dsimp only; omega)) _)))⟩, alloc_keeps HB32.out _, by ((repeat (first | (with_reducible exact HK3.out) | (with_reducible refine Keep.drew ?_) | (with_reducible refine Keep.drewN ?_ _) | (with_reducible refine Keep.alloc ?_ _) | ((with_reducible refine Keep.setCell ?_ ?_ _); rotate_left; focus (first | (simp; done) | (simp; omega) | (left; dsimp only; omega))))); done)⟩
    · obtain rfl : i = n := by omega
      generalize waitE i o (m, E) i = s at *
      obtain ⟨sm, sE⟩ := s
      dsimp only at *
      have c1 := cell_at hb1; have c2 := cell_at hb2; have f1 := frozen_at hb1; have f2 := frozen_at hb2; have l1 := lt_of_block hb1; have l2 := lt_of_block hb2
      have HB1 := Lib.hid hb1; have HB2 := Lib.hid hb2; have HE := Lib.hid hE; have HKR := Lib.hid hkr
      clear hb1 hb2 hE hkr hsz
      go_wp2_with fail
      refine bodyPost_ret (v := .agg #[.int .i64 i, .int .u64 sm, .slice ao' i cap']) ?_ rfl ?_
      · simp [results, Try.results42, go_sem, c1, c2, l1, l2]
      have hz := HZ.out
      exact hR.out _ _ ⟨_, rfl, HE.out.beside HB2.out (by decide) (by repeat (first | (with_reducible exact Keep.refl _ _) | (with_reducible refine Keep.drew ?_) | (with_reducible refine Keep.drewN ?_ _) | (with_reducible refine Keep.alloc ?_ _) | (with_reducible refine Keep.setCell ?_ (by first | (simp; done) | (simp; omega) | (left; dsimp only; omega)) _))), by ((repeat (first | (with_reducible exact HKR.out) | (with_reducible refine Keep.drew ?_) | (with_reducible refine Keep.drewN ?_ _) | (with_reducible refine Keep.alloc ?_ _) | ((with_reducible refine Keep.setCell ?_ ?_ _); rotate_left; focus (first | (simp; done) | (simp; omega) | (left; dsimp only; omega))))); done)⟩
end Go.Proofs.Ytnadiddaeolanaa
