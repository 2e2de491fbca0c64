/- The contracts of package give: Claim, Entry, Set. -/
import Derived.Test.YtnadiddaeolanaaGive
import Derived.Test.YtnadiddaeolanaaShade2
namespace Go.Proofs.Ytnadiddaeolanaa
open Go.RowKit
set_option linter.unusedVariables false
set_option linter.unusedSimpArgs false

/-- A map behind a claim. -/
def claimV (m : Nat) (r : Int) : Nat := match findN m r with
  | some a => withRun m a r.toNat false
  | none => m
theorem findN_is {m : Nat} {r : Int} {a : Nat} (h : findN m r = some a) : isRun m a r true = true := by
  have := List.find?_some h
  exact this
theorem findN_no {m : Nat} {r : Int} (h : findN m r = none) : isRun m 0 r true = false := by
  unfold findN at h
  rw [List.find?_eq_none] at h
  have := h 0 (by decide)
  simpa using this
theorem claimV_take (m : Nat) (r : Int) : (if isRun m (atOf (findN m r)) r true then withRun m (atOf (findN m r)).toNat r.toNat false else m) = claimV m r := by
  unfold claimV
  cases h : findN m r with
  | some a => simp [atOf, findN_is h]
  | none => simp [atOf, findN_no h]

set_option maxRecDepth 100000 in
set_option maxHeartbeats 2000000 in
theorem give_claim_fn (m : Nat) (hm : m < 18446744073709551616) (r a0 : Int) (i0 : Bool) (p q s : Nat) (w : World) (hpq : p ≠ q) (hps : p ≠ s) (hqs : q ≠ s) (hp : w.heap[p]? = some (.cells #[.int .i64 r] 3 (0, 0))) (hq : w.heap[q]? = some (.cells #[.int .i64 a0] 3 (0, 0))) (hs : w.heap[s]? = some (.cells #[.bool i0] 4 (0, 0))) :
    Calls Try.prog 88 #[.int .u64 m, .pointer (some ⟨p, 0, none⟩), .pointer (some ⟨q, 0, none⟩), .pointer (some ⟨s, 0, none⟩)] w fun e w' => e = .returned (.int .u64 (claimV m r : Nat)) ∧ Keep [q, s] w w' ∧
      w'.heap[q]? = some (.cells #[.int .i64 (atOf (findN m r))] 3 (0, 0)) ∧ w'.heap[s]? = some (.cells #[.bool (findN m r).isSome] 4 (0, 0)) := by
  refine calls_abs fun R hR => ?_
  have cp := cell_at hp
  have HP := Lib.hid hp; have HQ := Lib.hid hq; have HS := Lib.hid hs
  clear hp hq hs
  go_enter Try.func88, Try.ntmps88
  go_wp2_with fail
  refine (bitmap_find m hm r w).mono ?_
  rintro e w2 ⟨rfl, K2⟩
  have hp := K2.get HP.out (by simp); have hq := K2.get HQ.out (by simp); have hs := K2.get HS.out (by simp)
  have cp := cell_at hp; have cq := cell_at hq; have cs := cell_at hs; have fq := frozen_at hq; have fs := frozen_at hs
  have lq := lt_of_block hq; have ls := lt_of_block hs
  have n1 : ¬ q = s := hqs
  have n2 : ¬ s = q := fun e => hqs e.symm
  have n3 : ¬ p = q := hpq
  have n4 : ¬ p = s := hps
  have HK2 := Lib.hid K2; have HQ2 := Lib.hid hq; have HS2 := Lib.hid hs
  have hv := claimV_take m r
  have HV := Lib.hid hv
  clear K2 hp hq hs hv hpq hps hqs
  generalize ha : atOf (findN m r) = av at *
  generalize hi : (findN m r).isSome = iv at *
  clear ha hi
  go_wp2_with fail
  refine (bitmap_take m hm av r _).mono ?_
  rintro e w3 ⟨rfl, hw3⟩
  rw [HV.out]
  have hq3 : w3.heap[q]? = some (.cells #[.int .i64 av] 3 (0, 0)) := by
    rw [hw3]; exact (put_other (put_at HQ2.out 0 _) n1 _).trans (by simp)
  have hs3 : w3.heap[s]? = some (.cells #[.bool iv] 4 (0, 0)) := by
    rw [hw3]; exact (put_at (put_other HS2.out n2 _) 0 _).trans (by simp)
  have K3 : Keep [q, s] w2 w3 := by rw [hw3]; exact (by repeat (first | (with_reducible exact Keep.refl _ _) | (with_reducible refine Keep.drew ?_) | (with_reducible refine Keep.drewN ?_ _) | (with_reducible refine Keep.alloc ?_ _) | (with_reducible refine Keep.setCell ?_ (by first | (simp; done) | (simp; omega) | (left; dsimp only; omega)) _)))
  have HQ3 := Lib.hid hq3; have HS3 := Lib.hid hs3; have HK3 := Lib.hid K3
  clear hw3 hq3 hs3 K3 cp cq cs fq fs
  generalize isRun m av r true = ir
  go_wp2_with fail
  exact hR.out _ _ ⟨rfl, (HK2.out.mono (by simp)).trans HK3.out, HQ3.out, HS3.out⟩

set_option maxRecDepth 100000 in
set_option maxHeartbeats 4000000 in
theorem give_claim {w : World} {b g : Nat} {W : List Int} {t la : Int} (h : Arn w b g W t la) (hW : Words W) (h0 : 0 < W.length) (l : Lay) (r : Int) (m : Nat) (hm : rdz W 0 = m) :
    Calls Try.prog 36 #[.iface 25 (.pointer (some ⟨b, 0, none⟩)), l.val, .int .i64 r] w fun e w' => e = .returned (.tuple #[.int .i64 (if 1 ≤ r ∧ r ≤ 3 then atOf (findN m r) else 0), .bool (decide (1 ≤ r ∧ r ≤ 3) && (findN m r).isSome)]) ∧
      Arn w' b g (if 1 ≤ r ∧ r ≤ 3 then putz W 0 (claimV m r : Nat) else W) (if 1 ≤ r ∧ r ≤ 3 then tz W.length 0 t else t) (if 1 ≤ r ∧ r ≤ 3 then lz W.length 0 la else la) ∧ Keep [b, g] w w' := by
  refine calls_abs fun R hR => ?_
  have hmf : ∀ (fn : Fn) (first cap : Array Value) (w : World), (Instr.makeFunc fn first cap).run Try.prog w = .ok (.func fn first cap) w := fun _ _ _ _ => rfl
  have hinv := mem_update
  simp [go_sem] at hinv
  have hF := Try.call88
  have H := Lib.hid h
  have lb := lt_of_block h.head; have lg := lt_of_block h.row
  clear h
  unfold Lay.val
  by_cases r1 : r < 1
  · have hn : ¬ (1 ≤ r ∧ r ≤ 3) := by omega
    rw [if_neg hn, if_neg hn, if_neg hn, if_neg hn, decide_eq_false hn] at hR
    clear hn
    go_enter Try.func36, Try.ntmps36
    go_wp2_with fail
    exact hR.out _ _ ⟨rfl, H.out.keep (S := []) (by repeat (first | (with_reducible exact Keep.refl _ _) | (with_reducible refine Keep.drew ?_) | (with_reducible refine Keep.drewN ?_ _) | (with_reducible refine Keep.alloc ?_ _) | (with_reducible refine Keep.setCell ?_ (by first | (simp; done) | (simp; omega) | (left; dsimp only; omega)) _))) (by simp) (by simp), (by repeat (first | (with_reducible exact Keep.refl _ _) | (with_reducible refine Keep.drew ?_) | (with_reducible refine Keep.drewN ?_ _) | (with_reducible refine Keep.alloc ?_ _) | (with_reducible refine Keep.setCell ?_ (by first | (simp; done) | (simp; omega) | (left; dsimp only; omega)) _)))⟩
  by_cases r2 : 3 < r
  · have hn : ¬ (1 ≤ r ∧ r ≤ 3) := by omega
    rw [if_neg hn, if_neg hn, if_neg hn, if_neg hn, decide_eq_false hn] at hR
    clear hn
    go_enter Try.func36, Try.ntmps36
    go_wp2_with fail
    exact hR.out _ _ ⟨rfl, H.out.keep (S := []) (by repeat (first | (with_reducible exact Keep.refl _ _) | (with_reducible refine Keep.drew ?_) | (with_reducible refine Keep.drewN ?_ _) | (with_reducible refine Keep.alloc ?_ _) | (with_reducible refine Keep.setCell ?_ (by first | (simp; done) | (simp; omega) | (left; dsimp only; omega)) _))) (by simp) (by simp), (by repeat (first | (with_reducible exact Keep.refl _ _) | (with_reducible refine Keep.drew ?_) | (with_reducible refine Keep.drewN ?_ _) | (with_reducible refine Keep.alloc ?_ _) | (with_reducible refine Keep.setCell ?_ (by first | (simp; done) | (simp; omega) | (left; dsimp only; omega)) _)))⟩
  have hy : 1 ≤ r ∧ r ≤ 3 := by omega
  rw [if_pos hy, if_pos hy, if_pos hy, if_pos hy, decide_eq_true hy] at hR
  have hmlt : m < 18446744073709551616 := by have := hW 0; rw [hm] at this; omega
  clear hy
  go_enter Try.func36, Try.ntmps36
  go_wp2_with fail
  obtain ⟨z, hz⟩ : ∃ z, z = w.heap.size := ⟨_, rfl⟩
  simp only [← hz] at lb lg ⊢
  generalize hw1 : World.alloc _ _ = w1
  have b1 : w1.heap[z + 1]? = some (.cells #[.int .i64 r] 3 (0, 0)) := by rw [← hw1, hz]; exact alloc_keeps (alloc_keeps (alloc_new _ _ _ (by simp)) _) _
  have b2 : w1.heap[z + 2]? = some (.cells #[.int .i64 0] 3 (0, 0)) := by rw [← hw1, hz]; exact alloc_keeps (alloc_new _ _ _ (by simp)) _
  have b3 : w1.heap[z + 3]? = some (.cells #[.bool false] 4 (0, 0)) := by rw [← hw1, hz]; exact alloc_new _ _ _ (by simp)
  have K1 : Keep [] w w1 := by rw [← hw1]; exact (by repeat (first | (with_reducible exact Keep.refl _ _) | (with_reducible refine Keep.drew ?_) | (with_reducible refine Keep.drewN ?_ _) | (with_reducible refine Keep.alloc ?_ _) | (with_reducible refine Keep.setCell ?_ (by first | (simp; done) | (simp; omega) | (left; dsimp only; omega)) _)))
  have hs1 : w1.heap.size = z + 4 := by rw [← hw1, hz]; simp
  have H1 := Lib.hid (H.out.keep K1 (by simp) (by simp))
  have HB1 := Lib.hid b1; have HB2 := Lib.hid b2; have HB3 := Lib.hid b3; have HK1 := Lib.hid K1; have HS1 := Lib.hid hs1; have HZ := Lib.hid hz
  clear hw1 hz b1 b2 b3 K1 hs1
  refine (arena_update_any (b := b) (g := g) (W := W) (t := t) (l := la) (w := w1) H1.out 0 88 hF #[.pointer (some ⟨z + 1, 0, none⟩), .pointer (some ⟨z + 2, 0, none⟩), .pointer (some ⟨z + 3, 0, none⟩)] [z + 2, z + 3] (fun x => if x = z + 2 then .cells #[.int .i64 (atOf (findN m r))] 3 (0, 0) else .cells #[.bool (findN m r).isSome] 4 (0, 0)) (claimV m r : Nat) (by simp; omega) (by simp; omega) (by have := HS1.out; simp; omega) (fun hin wz kz => ?_)).mono ?_
  · rw [hm]
    refine (give_claim_fn m hmlt r 0 false (z + 1) (z + 2) (z + 3) wz (by omega) (by omega) (by omega) (kz.get HB1.out (by simp; omega)) (kz.get HB2.out (by simp; omega)) (kz.get HB3.out (by simp; omega))).mono ?_
    rintro e w6 ⟨rfl, K6, q6, s6⟩
    refine ⟨rfl, K6, fun x hx => ?_⟩
    simp only [List.mem_cons, List.not_mem_nil, or_false] at hx
    rcases hx with rfl | rfl
    · rw [if_pos rfl]; exact q6
    · rw [if_neg (by omega)]; exact s6
  rintro e w2 ⟨rfl, A2, K2, hO, -⟩
  have hin : inr W.length 0 = true := inr_nat h0
  have q2 := hO hin (z + 2) (by simp)
  have s2 := hO hin (z + 3) (by simp)
  rw [if_pos rfl] at q2
  rw [if_neg (by omega)] at s2
  have cq := cell_at q2; have cs := cell_at s2
  have lq := lt_of_block q2; have ls := lt_of_block s2
  have HA2 := Lib.hid A2
  have HK2 : Hid (Keep [b, g] w w2) := (HK1.out.mono (by simp)).fresh K2 (by have := HZ.out; simp; omega)
  clear A2 K2 hO q2 s2 hin
  generalize ha : atOf (findN m r) = av at *
  generalize hi : (findN m r).isSome = iv at *
  have hav : iv = false → av = 0 := fun h => by
    rw [← ha]
    cases hf : findN m r with
    | none => rfl
    | some a => rw [hf, h] at hi; simp at hi
  have HAV := Lib.hid hav
  clear ha hi hav
  cases iv with
  | true =>
    go_wp2_with fail
    exact hR.out _ _ ⟨rfl, HA2.out, HK2.out⟩
  | false =>
    rw [HAV.out rfl] at hR
    clear HAV
    go_wp2_with fail
    exact hR.out _ _ ⟨rfl, HA2.out, HK2.out⟩

/-- The entry of a block. -/
def entryOf (W : List Int) (l : Lay) (i : Int) : En := if l.entry i < 0 then En.zero else takeE (rdz W (l.entry i))
set_option maxRecDepth 100000 in
set_option maxHeartbeats 4000000 in
theorem give_entry {w : World} {b g : Nat} {W : List Int} {t la : Int} (h : Arn w b g W t la) (hW : Words W) (l : Lay) (hl : l.fits) (i : Int) :
    Calls Try.prog 49 #[.iface 25 (.pointer (some ⟨b, 0, none⟩)), l.val, .int .i64 i] w fun e w' => e = .returned (entryOf W l i).val ∧ (∃ t' la', Arn w' b g W t' la') ∧ Keep [b, g] w w' := by
  refine calls_abs fun R hR => ?_
  have hinr := mem_read
  simp [go_sem] at hinr
  have hent := fun w => layout_entry l hl i w
  have hval : l.val = .agg #[.int .i64 l.t, .int .i64 l.g, .int .i64 l.b] := rfl
  rw [hval] at hent ⊢
  have HENT := Lib.hid hent; have H := Lib.hid h
  have lb := lt_of_block h.head; have lg := lt_of_block h.row
  clear hent hval hl h
  go_enter Try.func49, Try.ntmps49
  go_wp2_with fail
  obtain ⟨z, hz⟩ : ∃ z, z = w.heap.size := ⟨_, rfl⟩
  simp only [← hz] at lb lg ⊢
  generalize hw1 : World.alloc _ _ = w1
  have b1 : w1.heap[z + 1]? = some (.cells #[.int .u8 0, .int .u8 0, .int .u8 0, .int .u8 0] 74 (0, 0)) := by rw [← hw1, hz]; exact alloc_new _ _ _ (by simp)
  have K1 : Keep [] w w1 := by rw [← hw1]; exact (by repeat (first | (with_reducible exact Keep.refl _ _) | (with_reducible refine Keep.drew ?_) | (with_reducible refine Keep.drewN ?_ _) | (with_reducible refine Keep.alloc ?_ _) | (with_reducible refine Keep.setCell ?_ (by first | (simp; done) | (simp; omega) | (left; dsimp only; omega)) _)))
  have HZ := Lib.hid hz
  clear hw1 hz
  refine (HENT.out w1).mono ?_
  rintro e w2 ⟨rfl, K2⟩
  have b2 := K2.get b1 (by simp)
  have HK2 := Lib.hid (K1.trans K2)
  have HA2 := Lib.hid (H.out.keep HK2.out (by simp) (by simp))
  have c2 := cell_at b2; have f2 := frozen_at b2; have l2 := lt_of_block b2
  have HB2 := Lib.hid b2
  clear b1 b2 K1 K2
  have hent : entryOf W l i = if l.entry i < 0 then En.zero else takeE (rdz W (l.entry i)) := rfl
  have HE := Lib.hid hent
  clear hent
  generalize l.entry i = at_ at *
  by_cases ha : at_ < 0
  · have he : entryOf W l i = En.zero := by rw [HE.out, if_pos ha]
    rw [he] at hR
    clear he
    go_wp2_with fail
    refine bodyPost_ret (v := En.zero.val) ?_ rfl ?_
    · simp [results, Try.results49, go_sem, c2, f2, En.zero, En.val]
    exact hR.out _ _ ⟨rfl, ⟨_, _, HA2.out.keep (S := [z + 1]) (by repeat (first | (with_reducible exact Keep.refl _ _) | (with_reducible refine Keep.drew ?_) | (with_reducible refine Keep.drewN ?_ _) | (with_reducible refine Keep.alloc ?_ _) | (with_reducible refine Keep.setCell ?_ (by first | (simp; done) | (simp; omega) | (left; dsimp only; omega)) _))) (by simp; omega) (by simp; omega)⟩, by have hz := HZ.out; have hk := HK2.out.mono (S' := [b, g]) (by simp); ((repeat (first | (with_reducible exact hk) | (with_reducible refine Keep.drew ?_) | (with_reducible refine Keep.drewN ?_ _) | (with_reducible refine Keep.alloc ?_ _) | ((with_reducible refine Keep.setCell ?_ ?_ _); rotate_left; focus (first | (simp; done) | (simp; omega) | (left; dsimp only; omega))))); done)⟩
  · have he : entryOf W l i = takeE (rdz W at_) := by rw [HE.out, if_neg ha]
    rw [he] at hR
    clear he
    go_wp2_with fail
    refine (arena_read_any HA2.out at_).mono ?_
    rintro e w3 ⟨rfl, A3, K3⟩
    have HA3 := Lib.hid A3; have HK3 := Lib.hid ((HK2.out.mono (by simp)).trans K3); have HB3 := Lib.hid (K3.get HB2.out (by simp; omega))
    clear A3 K3 c2 f2
    go_wp2_with fail
    refine (table_take (rdz W at_) (hW at_) w3).mono ?_
    rintro e w4 ⟨rfl, K4⟩
    have HA4 := Lib.hid (HA3.out.keep K4 (by simp) (by simp)); have HK4 := Lib.hid (HK3.out.trans (K4.mono (by simp)))
    have b4 := K4.get HB3.out (by simp)
    have c4 := cell_at b4; have f4 := frozen_at b4; have l4 := lt_of_block b4
    clear K4 b4
    generalize (if isEn (rdz W at_) = true then (0 : Int) else 3) = er
    have n1 : ¬ z + 1 = w4.heap.size := by omega
    have n2 : ¬ w4.heap.size = z + 1 := by omega
    unfold En.val at hR ⊢
    generalize takeE (rdz W at_) = d at *
    obtain ⟨k, c, r, o⟩ := d
    dsimp only at hR ⊢
    go_wp2_with fail
    refine bodyPost_ret (v := .agg #[.int .u8 k, .int .u8 c, .int .u8 r, .int .u8 o]) ?_ rfl ?_
    · simp [results, Try.results49, go_sem, c4, f4, n1, n2, l4]
    exact hR.out _ _ ⟨rfl, ⟨_, _, HA4.out.keep (S := [z + 1]) (by repeat (first | (with_reducible exact Keep.refl _ _) | (with_reducible refine Keep.drew ?_) | (with_reducible refine Keep.drewN ?_ _) | (with_reducible refine Keep.alloc ?_ _) | (with_reducible refine Keep.setCell ?_ (by first | (simp; done) | (simp; omega) | (left; dsimp only; omega)) _))) (by simp; omega) (by simp; omega)⟩, by have hz := HZ.out; ((repeat (first | (with_reducible exact HK4.out) | (with_reducible refine Keep.drew ?_) | (with_reducible refine Keep.drewN ?_ _) | (with_reducible refine Keep.alloc ?_ _) | ((with_reducible refine Keep.setCell ?_ ?_ _); rotate_left; focus (first | (simp; done) | (simp; omega) | (left; dsimp only; omega))))); done)⟩

/-- The words behind Set. -/
def setW (W : List Int) (l : Lay) (i : Int) (e : En) : List Int := if e.may = true ∧ 0 ≤ l.entry i then putz W (l.entry i) e.word else W
set_option maxRecDepth 100000 in
set_option maxHeartbeats 4000000 in
theorem give_set {w : World} {b g : Nat} {W : List Int} {t la : Int} (h : Arn w b g W t la) (l : Lay) (hl : l.fits) (i : Int) (e : En) (hu : e.u8) :
    Calls Try.prog 43 #[.iface 25 (.pointer (some ⟨b, 0, none⟩)), l.val, .int .i64 i, e.val] w fun x w' => x = .returned (.tuple #[]) ∧ (∃ la', Arn w' b g (setW W l i e) (if e.may = true ∧ 0 ≤ l.entry i then tz W.length (l.entry i) t else t) la') ∧ Keep [b, g] w w' := by
  refine calls_abs fun R hR => ?_
  have hinw := mem_write
  simp [go_sem] at hinw
  have hent := fun w => layout_entry l hl i w
  have hput := fun w => table_put e hu w
  have hval : l.val = .agg #[.int .i64 l.t, .int .i64 l.g, .int .i64 l.b] := rfl
  have hev : e.val = .agg #[.int .u8 e.k, .int .u8 e.c, .int .u8 e.r, .int .u8 e.o] := rfl
  rw [hval] at hent ⊢
  rw [hev] at hput ⊢
  have HENT := Lib.hid hent; have H := Lib.hid h; have HPUT := Lib.hid hput
  have lb := lt_of_block h.head; have lg := lt_of_block h.row
  have hsw : setW W l i e = if e.may = true ∧ 0 ≤ l.entry i then putz W (l.entry i) e.word else W := rfl
  rw [hsw] at hR
  clear hent hval hl h hput hev hu hsw
  go_enter Try.func43, Try.ntmps43
  go_wp2_with fail
  obtain ⟨z, hz⟩ : ∃ z, z = w.heap.size := ⟨_, rfl⟩
  simp only [← hz] at lb lg ⊢
  generalize hw1 : World.alloc _ _ = w1
  have b1 : w1.heap[z]? = some (.cells #[.int .i64 l.t, .int .i64 l.g, .int .i64 l.b] 53 (0, 0)) := by rw [← hw1, hz]; exact alloc_keeps (alloc_new _ _ _ rfl) _
  have K1 : Keep [] w w1 := by rw [← hw1]; exact (by repeat (first | (with_reducible exact Keep.refl _ _) | (with_reducible refine Keep.drew ?_) | (with_reducible refine Keep.drewN ?_ _) | (with_reducible refine Keep.alloc ?_ _) | (with_reducible refine Keep.setCell ?_ (by first | (simp; done) | (simp; omega) | (left; dsimp only; omega)) _)))
  have HZ := Lib.hid hz
  clear hw1 hz
  refine (HPUT.out w1).mono ?_
  rintro x w2 ⟨rfl, K2⟩
  have b2 := K2.get b1 (by simp)
  have HK2 := Lib.hid (K1.trans K2)
  have c2 := cell_at b2; have l2 := lt_of_block b2
  clear b1 b2 K1 K2
  have he : (if e.may = true then (0 : Int) else 2) = 0 ∨ (if e.may = true then (0 : Int) else 2) = 2 := by split <;> simp
  cases hm : e.may with
  | true =>
    rw [hm] at hR
    rw [if_pos rfl, if_pos rfl]
    clear hm he
    generalize e.word = x at *
    go_wp2_with fail
    refine (HENT.out w2).mono ?_
    rintro y w3 ⟨rfl, K3⟩
    have HK3 := Lib.hid (HK2.out.trans K3)
    have HA3 := Lib.hid (H.out.keep HK3.out (by simp) (by simp))
    clear K3 c2
    generalize l.entry i = at_ at *
    by_cases ha : 0 ≤ at_
    · rw [if_pos ⟨by simp, ha⟩, if_pos ⟨by simp, ha⟩] at hR
      go_wp2_with fail
      refine (arena_write_any HA3.out at_ x).mono ?_
      rintro y w4 ⟨rfl, A4, K4⟩
      have HA4 := Lib.hid A4; have HK4 := Lib.hid ((HK3.out.mono (by simp)).trans K4)
      clear A4 K4
      go_wp2_with fail
      refine bodyPost_end (v := .tuple #[]) ?_ rfl ?_
      · kernel_rfl
      exact hR.out _ _ ⟨rfl, ⟨_, HA4.out⟩, HK4.out⟩
    · rw [if_neg (fun h => ha h.2), if_neg (fun h => ha h.2)] at hR
      go_wp2_with fail
      refine bodyPost_end (v := .tuple #[]) ?_ rfl ?_
      · kernel_rfl
      exact hR.out _ _ ⟨rfl, ⟨_, HA3.out⟩, HK3.out.mono (by simp)⟩
  | false =>
    rw [hm] at hR
    rw [if_neg (by simp), if_neg (by simp)] at hR
    rw [if_neg (by simp), if_neg (by simp)]
    clear hm he
    go_wp2_with fail
    refine (HENT.out w2).mono ?_
    rintro y w3 ⟨rfl, K3⟩
    have HK3 := Lib.hid (HK2.out.trans K3)
    have HA3 := Lib.hid (H.out.keep HK3.out (by simp) (by simp))
    clear K3 c2
    generalize l.entry i = at_ at *
    go_wp2_with fail
    refine bodyPost_end (v := .tuple #[]) ?_ rfl ?_
    · kernel_rfl
    exact hR.out _ _ ⟨rfl, ⟨_, HA3.out⟩, HK3.out.mono (by simp)⟩
end Go.Proofs.Ytnadiddaeolanaa
