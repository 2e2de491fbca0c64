/- The contracts of demesneref07: Push, Pop, Drop. -/
import Derived.Test.YtgdbccficcgbdaaRef07
namespace Go.Proofs.Ytgdbccficcgbdaa
open Go.RowKit Go.Shelf
set_option linter.unusedVariables false
set_option linter.unusedSimpArgs false

theorem RL.shapes {w : World} {U : Nat → Value} {R : Nat → List Int} (h : RL w U R) : ∃ a0 n0 q0 a1 n1 q1 a2 n2 q2 a3 n3 q3, U 0 = .slice a0 n0 q0 ∧ U 1 = .slice a1 n1 q1 ∧ U 2 = .slice a2 n2 q2 ∧ U 3 = .slice a3 n3 q3 := by
  obtain ⟨a0, q0, h0, _⟩ := (h 0 (by omega)).shape
  obtain ⟨a1, q1, h1, _⟩ := (h 1 (by omega)).shape
  obtain ⟨a2, q2, h2, _⟩ := (h 2 (by omega)).shape
  obtain ⟨a3, q3, h3, _⟩ := (h 3 (by omega)).shape
  exact ⟨_, _, _, _, _, _, _, _, _, _, _, _, h0, h1, h2, h3⟩

def popR (R : Nat → List Int) (c : Int) : Nat → List Int := if popE R c = 0 then upd R c.toNat (R c.toNat).tail else R
def popXR (R : Nat → List Int) (c : Int) : Int := if popE R c = 0 then (R c.toNat).headD 0 else 0
def pushR (R : Nat → List Int) (c x : Int) : Nat → List Int := if pushE R c x = 0 then upd R c.toNat (x :: R c.toNat) else R

theorem RL.upd {w : World} {U : Nat → Value} {R : Nat → List Int} (h : RL w U R) (c : Nat) (v : Value) (xs : List Int) (hv : Rd w v xs.length (ints xs)) : RL w (upd U c v) (upd R c xs) := fun d hd => by
  by_cases e : d = c
  · subst e; rw [upd_same, upd_same]; exact hv
  · rw [upd_other _ _ _ _ e, upd_other _ _ _ _ e]; exact h d hd

/-- A slice without its first element. -/
theorem rd_tail {w : World} {b o n cap : Nat} {x : Int} {xs : List Int} (h : Rd w (.slice (some ⟨b, o, none⟩) n cap) n (ints (x :: xs))) (hn : n = xs.length + 1) : Rd w (.slice (some ⟨b, o + 1, none⟩) (n - 1) (cap - 1)) xs.length (ints xs) := by
  subst hn
  obtain ⟨_, _, hv, h1, h2, h3, h4, h5⟩ := h
  cases hv
  refine ⟨_, _, rfl, by omega, by omega, by simp, fun u hu => h4 u (by simp [ints] at hu ⊢; exact .inr hu), fun a ha i u hu => ?_⟩
  cases ha
  have := h5 _ rfl (i + 1) u (by simpa [ints] using hu)
  rw [Addr.add_lit] at this ⊢
  rwa [show o + 1 + i = o + (i + 1) from by omega]

set_option maxRecDepth 100000 in
set_option maxHeartbeats 4000000 in
theorem ref07_push {w : World} {U : Nat → Value} {R : Nat → List Int} (h : RL w U R) (hs : total R ≤ 100000) (c x : Int) :
    Calls Try.prog 60 #[rlVal U, .int .i64 c, .int .i64 x] w fun e w' => ∃ U', e = .returned (.tuple #[rlVal U', .int .i64 (pushE R c x)]) ∧ RL w' U' (pushR R c x) ∧ Keep [] w w' ∧ Fresh4 w w' U U' := by
  refine calls_abs fun R' hR => ?_
  have H := Lib.hid h
  obtain ⟨a0, n0, q0, a1, n1, q1, a2, n2, q2, a3, n3, q3, hu0, hu1, hu2, hu3⟩ := h.shapes
  have hU : (#[Value.slice a0 n0 q0, .slice a1 n1 q1, .slice a2 n2 q2, .slice a3 n3 q3] : Array Value) = #[U 0, U 1, U 2, U 3] := by rw [hu0, hu1, hu2, hu3]
  have HU0 := Lib.hid hu0; have HU1 := Lib.hid hu1; have HU2 := Lib.hid hu2; have HU3 := Lib.hid hu3; clear hu0 hu1 hu2 hu3
  clear h
  unfold rlVal at *
  rw [← hU]
  have HU := Lib.hid hU; clear hU
  by_cases h1 : c < 0
  · have hp : pushE R c x = 2 := by simp [pushE, inC, show ¬ 0 ≤ c from by omega]
    go_enter Try.func60, Try.ntmps60
    go_wp2_with fail
    refine bodyPost_ret (v := .tuple #[.agg #[U 0, U 1, U 2, U 3], .int .i64 2]) ?_ rfl ?_
    · rw [← HU.out]; simp [results, Try.results60, go_sem]
    exact hR.out _ _ ⟨U, by rw [hp], by rw [pushR, if_neg (by omega)]; exact H.out.keep0 (by repeat (first | (with_reducible exact Keep.refl _ _) | (with_reducible refine Keep.drew ?_) | (with_reducible refine Keep.drewN ?_ _) | (with_reducible refine Keep.alloc ?_ _) | (with_reducible refine Keep.setCell ?_ (by first | (simp; done) | (simp; omega) | (left; dsimp only; omega)) _))), (by repeat (first | (with_reducible exact Keep.refl _ _) | (with_reducible refine Keep.drew ?_) | (with_reducible refine Keep.drewN ?_ _) | (with_reducible refine Keep.alloc ?_ _) | (with_reducible refine Keep.setCell ?_ (by first | (simp; done) | (simp; omega) | (left; dsimp only; omega)) _))), Fresh4.refl _ _ _⟩
  by_cases h2 : 3 < c
  · have hp : pushE R c x = 2 := by simp [pushE, inC, show ¬ c < 4 from by omega]
    go_enter Try.func60, Try.ntmps60
    go_wp2_with fail
    refine bodyPost_ret (v := .tuple #[.agg #[U 0, U 1, U 2, U 3], .int .i64 2]) ?_ rfl ?_
    · rw [← HU.out]; simp [results, Try.results60, go_sem]
    exact hR.out _ _ ⟨U, by rw [hp], by rw [pushR, if_neg (by omega)]; exact H.out.keep0 (by repeat (first | (with_reducible exact Keep.refl _ _) | (with_reducible refine Keep.drew ?_) | (with_reducible refine Keep.drewN ?_ _) | (with_reducible refine Keep.alloc ?_ _) | (with_reducible refine Keep.setCell ?_ (by first | (simp; done) | (simp; omega) | (left; dsimp only; omega)) _))), (by repeat (first | (with_reducible exact Keep.refl _ _) | (with_reducible refine Keep.drew ?_) | (with_reducible refine Keep.drewN ?_ _) | (with_reducible refine Keep.alloc ?_ _) | (with_reducible refine Keep.setCell ?_ (by first | (simp; done) | (simp; omega) | (left; dsimp only; omega)) _))), Fresh4.refl _ _ _⟩
  have hic : inC c = true := by simp [inC]; omega
  obtain ⟨k, rfl, hk⟩ := inC_true hic
  by_cases h3 : x < 1
  · have hp : pushE R k x = 2 := by simp [pushE, hic, h3]
    go_enter Try.func60, Try.ntmps60
    go_wp2_with fail
    refine bodyPost_ret (v := .tuple #[.agg #[U 0, U 1, U 2, U 3], .int .i64 2]) ?_ rfl ?_
    · rw [← HU.out]; simp [results, Try.results60, go_sem]
    exact hR.out _ _ ⟨U, by rw [hp], by rw [pushR, if_neg (by omega)]; exact H.out.keep0 (by repeat (first | (with_reducible exact Keep.refl _ _) | (with_reducible refine Keep.drew ?_) | (with_reducible refine Keep.drewN ?_ _) | (with_reducible refine Keep.alloc ?_ _) | (with_reducible refine Keep.setCell ?_ (by first | (simp; done) | (simp; omega) | (left; dsimp only; omega)) _))), (by repeat (first | (with_reducible exact Keep.refl _ _) | (with_reducible refine Keep.drew ?_) | (with_reducible refine Keep.drewN ?_ _) | (with_reducible refine Keep.alloc ?_ _) | (with_reducible refine Keep.setCell ?_ (by first | (simp; done) | (simp; omega) | (left; dsimp only; omega)) _))), Fresh4.refl _ _ _⟩
  go_enter Try.func60, Try.ntmps60
  go_wp2_with fail
  rw [HU.out]
  generalize hw1 : World.alloc (World.alloc w _) _ = w1
  have hb1 : w1.heap[w.heap.size]? = some (.cells #[U 0, U 1, U 2, U 3] 93 (0, 0)) := by rw [← hw1]; exact alloc_keeps (alloc_new w _ _ rfl) _
  have hb2 : w1.heap[w.heap.size + 1]? = some (.cells #[.slice none 0 0, .slice none 0 0, .slice none 0 0, .slice none 0 0] 93 (0, 0)) := by rw [← hw1]; exact alloc_new (w.alloc _) _ _ (by simp)
  have K1 : Keep [] w w1 := by rw [← hw1]; exact (by repeat (first | (with_reducible exact Keep.refl _ _) | (with_reducible refine Keep.drew ?_) | (with_reducible refine Keep.drewN ?_ _) | (with_reducible refine Keep.alloc ?_ _) | (with_reducible refine Keep.setCell ?_ (by first | (simp; done) | (simp; omega) | (left; dsimp only; omega)) _)))
  clear hw1
  refine (ref07_has (H.out.keep0 K1) hs x).mono ?_
  rintro e w2 ⟨rfl, K2⟩
  have hb1' := K2.get hb1 (by simp)
  have hb2' := K2.get hb2 (by simp)
  have HK2 := Lib.hid (K1.trans K2)
  have HB1 := Lib.hid hb1'; have HB2 := Lib.hid hb2'
  rw [← HU.out] at hb1'
  have c1 := cell_at hb1'
  have c2 := cell_at hb2'
  have f1 := frozen_at hb1'
  have f2 := frozen_at hb2'
  have l2 := lt_of_block hb2'
  have l1 := lt_of_block hb1'
  have m1 : ¬ w.heap.size = w2.heap.size := by omega
  have m2 : ¬ w2.heap.size = w.heap.size := by omega
  have m3 : ¬ w.heap.size + 1 = w2.heap.size := by omega
  have m4 : ¬ w2.heap.size = w.heap.size + 1 := by omega
  clear hb1 hb2 K1 K2 hb2'
  cases hh : hasL R x with
  | true =>
    have hp : pushE R k x = 6 := by simp [pushE, hic, h3, hh]
    go_wp2_with fail
    refine bodyPost_ret (v := .tuple #[.agg #[U 0, U 1, U 2, U 3], .int .i64 6]) ?_ rfl ?_
    · rw [← HU.out]; simp [results, Try.results60, go_sem, c2]
    refine hR.out _ _ ⟨U, by rw [hp], ?_, ?_, Fresh4.refl _ _ _⟩
    · rw [pushR, if_neg (by omega)]; exact H.out.keep0 (by ((repeat (first | (with_reducible exact HK2.out) | (with_reducible refine Keep.drew ?_) | (with_reducible refine Keep.drewN ?_ _) | (with_reducible refine Keep.alloc ?_ _) | ((with_reducible refine Keep.setCell ?_ ?_ _); rotate_left; focus (first | (simp; done) | (simp; omega) | (left; dsimp only; omega))))); done))
    · ((repeat (first | (with_reducible exact HK2.out) | (with_reducible refine Keep.drew ?_) | (with_reducible refine Keep.drewN ?_ _) | (with_reducible refine Keep.alloc ?_ _) | ((with_reducible refine Keep.setCell ?_ ?_ _); rotate_left; focus (first | (simp; done) | (simp; omega) | (left; dsimp only; omega))))); done)
  | false =>
    have hp : pushE R k x = 0 := by simp [pushE, hic, h3, hh]
    have hlen := total_row R k hk
    rcases four hk with rfl | rfl | rfl | rfl
    · have hrd : Rd w2 (Value.slice a0 n0 q0) (R 0).length (ints (R 0)) := by rw [← HU0.out]; exact (H.out 0 hk).keep HK2.out (fun _ _ => by simp)
      have HRD := Lib.hid hrd; clear hrd
      have ho : (w2.alloc (.cells #[.int .i64 x] 3)).ownsRow w2.heap.size 3 1 (.slice (some ⟨w2.heap.size, 0, none⟩) 1 1) 1 [.int .i64 x] :=
        ⟨rfl, .inr ⟨w2.heap.size, 1, #[.int .i64 x], rfl, Nat.le_refl _, alloc_new w2 _ w2.heap.size rfl, Nat.le_refl _, by simp [maxLen], rfl, rfl⟩⟩
      have HO := Lib.hid ho; clear ho
      go_wp2_with (at_builtin; go_loud (refine wpList_append_rd _ rfl _ _ _ rfl elem_int w2.heap.size (.slice (some ⟨w2.heap.size, 0, none⟩) 1 1) 1 [.int .i64 x] rfl HO.out (Value.slice a0 n0 q0) (R 0).length (ints (R 0)) rfl (HRD.out.keep (S := []) (by repeat (first | (with_reducible exact Keep.refl _ _) | (with_reducible refine Keep.drew ?_) | (with_reducible refine Keep.drewN ?_ _) | (with_reducible refine Keep.alloc ?_ _) | (with_reducible refine Keep.setCell ?_ (by first | (simp; done) | (simp; omega) | (left; dsimp only; omega)) _))) (fun _ _ => by simp)) (by simp [ints]) (by simp only [maxLen]; omega) (by omega) (by simp) ?_); intro ao' cap' w3 ho hg; go_loud (have hK3 : Keep [] w2 w3 := Keep.grown (w := w2.alloc _) (by repeat (first | (with_reducible exact Keep.refl _ _) | (with_reducible refine Keep.drew ?_) | (with_reducible refine Keep.drewN ?_ _) | (with_reducible refine Keep.alloc ?_ _) | (with_reducible refine Keep.setCell ?_ (by first | (simp; done) | (simp; omega) | (left; dsimp only; omega)) _))) hg (fun g hg => .inl (by simp [Value.ownBlock] at hg; omega)); have b31 := hK3.get HB1.out (by simp); have b32 := hK3.get HB2.out (by simp); rw [← HU.out] at b31; have c1 := cell_at b31; have c2 := cell_at b32; have f1 := frozen_at b31; have f2 := frozen_at b32; have HW := Lib.hid ho; have HK3 := Lib.hid hK3; clear ho hK3 hg b31 b32))
      refine bodyPost_ret (v := .tuple #[rlVal (upd U 0 (.slice ao' (1 + (R 0).length) cap')), .int .i64 0]) ?_ rfl ?_
      · simp [rlVal, upd, HU0.out, HU1.out, HU2.out, HU3.out, results, Try.results60, go_sem, c2]
      have hkf : Keep [] w w3 := HK2.out.trans HK3.out
      refine hR.out _ _ ⟨upd U 0 (.slice ao' (1 + (R 0).length) cap'), by rw [hp]; rfl, ?_, ?_, fun c g hc hg => ?_⟩
      · rw [pushR, if_pos hp]
        refine (H.out.keep0 (by ((repeat (first | (with_reducible exact hkf) | (with_reducible refine Keep.drew ?_) | (with_reducible refine Keep.drewN ?_ _) | (with_reducible refine Keep.alloc ?_ _) | ((with_reducible refine Keep.setCell ?_ ?_ _); rotate_left; focus (first | (simp; done) | (simp; omega) | (left; dsimp only; omega))))); done))).upd 0 _ (x :: R 0) ?_
        rw [show (x :: R 0).length = 1 + (R 0).length from by simp [Nat.add_comm], show ints (x :: R 0) = [.int .i64 x] ++ ints (R 0) from rfl]
        exact (Rd.of_owns HW.out (by simp [ints, Value.oneCell'])).keep (S := [w.heap.size, w.heap.size + 1]) (by repeat (first | (with_reducible exact Keep.refl _ _) | (with_reducible refine Keep.drew ?_) | (with_reducible refine Keep.drewN ?_ _) | (with_reducible refine Keep.alloc ?_ _) | (with_reducible refine Keep.setCell ?_ (by first | (simp; done) | (simp; omega) | (left; dsimp only; omega)) _))) (fun g hg => by have := owns_block HW.out g hg; simp; omega)
      · ((repeat (first | (with_reducible exact hkf) | (with_reducible refine Keep.drew ?_) | (with_reducible refine Keep.drewN ?_ _) | (with_reducible refine Keep.alloc ?_ _) | ((with_reducible refine Keep.setCell ?_ ?_ _); rotate_left; focus (first | (simp; done) | (simp; omega) | (left; dsimp only; omega))))); done)
      · by_cases e : c = 0
        · subst e
          rw [upd_same] at hg
          exact .inr (by have := owns_block HW.out g hg; have := HK2.out.size; simp; omega)
        · rw [upd_other _ _ _ _ e] at hg
          exact .inl ⟨c, hc, hg⟩
    · have hrd : Rd w2 (Value.slice a1 n1 q1) (R 1).length (ints (R 1)) := by rw [← HU1.out]; exact (H.out 1 hk).keep HK2.out (fun _ _ => by simp)
      have HRD := Lib.hid hrd; clear hrd
      have ho : (w2.alloc (.cells #[.int .i64 x] 3)).ownsRow w2.heap.size 3 1 (.slice (some ⟨w2.heap.size, 0, none⟩) 1 1) 1 [.int .i64 x] :=
        ⟨rfl, .inr ⟨w2.heap.size, 1, #[.int .i64 x], rfl, Nat.le_refl _, alloc_new w2 _ w2.heap.size rfl, Nat.le_refl _, by simp [maxLen], rfl, rfl⟩⟩
      have HO := Lib.hid ho; clear ho
      go_wp2_with (at_builtin; go_loud (refine wpList_append_rd _ rfl _ _ _ rfl elem_int w2.heap.size (.slice (some ⟨w2.heap.size, 0, none⟩) 1 1) 1 [.int .i64 x] rfl HO.out (Value.slice a1 n1 q1) (R 1).length (ints (R 1)) rfl (HRD.out.keep (S := []) (by repeat (first | (with_reducible exact Keep.refl _ _) | (with_reducible refine Keep.drew ?_) | (with_reducible refine Keep.drewN ?_ _) | (with_reducible refine Keep.alloc ?_ _) | (with_reducible refine Keep.setCell ?_ (by first | (simp; done) | (simp; omega) | (left; dsimp only; omega)) _))) (fun _ _ => by simp)) (by simp [ints]) (by simp only [maxLen]; omega) (by omega) (by simp) ?_); intro ao' cap' w3 ho hg; go_loud (have hK3 : Keep [] w2 w3 := Keep.grown (w := w2.alloc _) (by repeat (first | (with_reducible exact Keep.refl _ _) | (with_reducible refine Keep.drew ?_) | (with_reducible refine Keep.drewN ?_ _) | (with_reducible refine Keep.alloc ?_ _) | (with_reducible refine Keep.setCell ?_ (by first | (simp; done) | (simp; omega) | (left; dsimp only; omega)) _))) hg (fun g hg => .inl (by simp [Value.ownBlock] at hg; omega)); have b31 := hK3.get HB1.out (by simp); have b32 := hK3.get HB2.out (by simp); rw [← HU.out] at b31; have c1 := cell_at b31; have c2 := cell_at b32; have f1 := frozen_at b31; have f2 := frozen_at b32; have HW := Lib.hid ho; have HK3 := Lib.hid hK3; clear ho hK3 hg b31 b32))
      refine bodyPost_ret (v := .tuple #[rlVal (upd U 1 (.slice ao' (1 + (R 1).length) cap')), .int .i64 0]) ?_ rfl ?_
      · simp [rlVal, upd, HU0.out, HU1.out, HU2.out, HU3.out, results, Try.results60, go_sem, c2]
      have hkf : Keep [] w w3 := HK2.out.trans HK3.out
      refine hR.out _ _ ⟨upd U 1 (.slice ao' (1 + (R 1).length) cap'), by rw [hp]; rfl, ?_, ?_, fun c g hc hg => ?_⟩
      · rw [pushR, if_pos hp]
        refine (H.out.keep0 (by ((repeat (first | (with_reducible exact hkf) | (with_reducible refine Keep.drew ?_) | (with_reducible refine Keep.drewN ?_ _) | (with_reducible refine Keep.alloc ?_ _) | ((with_reducible refine Keep.setCell ?_ ?_ _); rotate_left; focus (first | (simp; done) | (simp; omega) | (left; dsimp only; omega))))); done))).upd 1 _ (x :: R 1) ?_
        rw [show (x :: R 1).length = 1 + (R 1).length from by simp [Nat.add_comm], show ints (x :: R 1) = [.int .i64 x] ++ ints (R 1) from rfl]
        exact (Rd.of_owns HW.out (by simp [ints, Value.oneCell'])).keep (S := [w.heap.size, w.heap.size + 1]) (by repeat (first | (with_reducible exact Keep.refl _ _) | (with_reducible refine Keep.drew ?_) | (with_reducible refine Keep.drewN ?_ _) | (with_reducible refine Keep.alloc ?_ _) | (with_reducible refine Keep.setCell ?_ (by first | (simp; done) | (simp; omega) | (left; dsimp only; omega)) _))) (fun g hg => by have := owns_block HW.out g hg; simp; omega)
      · ((repeat (first | (with_reducible exact hkf) | (with_reducible refine Keep.drew ?_) | (with_reducible refine Keep.drewN ?_ _) | (with_reducible refine Keep.alloc ?_ _) | ((with_reducible refine Keep.setCell ?_ ?_ _); rotate_left; focus (first | (simp; done) | (simp; omega) | (left; dsimp only; omega))))); done)
      · by_cases e : c = 1
        · subst e
          rw [upd_same] at hg
          exact .inr (by have := owns_block HW.out g hg; have := HK2.out.size; simp; omega)
        · rw [upd_other _ _ _ _ e] at hg
          exact .inl ⟨c, hc, hg⟩
    · have hrd : Rd w2 (Value.slice a2 n2 q2) (R 2).length (ints (R 2)) := by rw [← HU2.out]; exact (H.out 2 hk).keep HK2.out (fun _ _ => by simp)
      have HRD := Lib.hid hrd; clear hrd
      have ho : (w2.alloc (.cells #[.int .i64 x] 3)).ownsRow w2.heap.size 3 1 (.slice (some ⟨w2.heap.size, 0, none⟩) 1 1) 1 [.int .i64 x] :=
        ⟨rfl, .inr ⟨w2.heap.size, 1, #[.int .i64 x], rfl, Nat.le_refl _, alloc_new w2 _ w2.heap.size rfl, Nat.le_refl _, by simp [maxLen], rfl, rfl⟩⟩
      have HO := Lib.hid ho; clear ho
      go_wp2_with (at_builtin; go_loud (refine wpList_append_rd _ rfl _ _ _ rfl elem_int w2.heap.size (.slice (some ⟨w2.heap.size, 0, none⟩) 1 1) 1 [.int .i64 x] rfl HO.out (Value.slice a2 n2 q2) (R 2).length (ints (R 2)) rfl (HRD.out.keep (S := []) (by repeat (first | (with_reducible exact Keep.refl _ _) | (with_reducible refine Keep.drew ?_) | (with_reducible refine Keep.drewN ?_ _) | (with_reducible refine Keep.alloc ?_ _) | (with_reducible refine Keep.setCell ?_ (by first | (simp; done) | (simp; omega) | (left; dsimp only; omega)) _))) (fun _ _ => by simp)) (by simp [ints]) (by simp only [maxLen]; omega) (by omega) (by simp) ?_); intro ao' cap' w3 ho hg; go_loud (have hK3 : Keep [] w2 w3 := Keep.grown (w := w2.alloc _) (by repeat (first | (with_reducible exact Keep.refl _ _) | (with_reducible refine Keep.drew ?_) | (with_reducible refine Keep.drewN ?_ _) | (with_reducible refine Keep.alloc ?_ _) | (with_reducible refine Keep.setCell ?_ (by first | (simp; done) | (simp; omega) | (left; dsimp only; omega)) _))) hg (fun g hg => .inl (by simp [Value.ownBlock] at hg; omega)); have b31 := hK3.get HB1.out (by simp); have b32 := hK3.get HB2.out (by simp); rw [← HU.out] at b31; have c1 := cell_at b31; have c2 := cell_at b32; have f1 := frozen_at b31; have f2 := frozen_at b32; have HW := Lib.hid ho; have HK3 := Lib.hid hK3; clear ho hK3 hg b31 b32))
      refine bodyPost_ret (v := .tuple #[rlVal (upd U 2 (.slice ao' (1 + (R 2).length) cap')), .int .i64 0]) ?_ rfl ?_
      · simp [rlVal, upd, HU0.out, HU1.out, HU2.out, HU3.out, results, Try.results60, go_sem, c2]
      have hkf : Keep [] w w3 := HK2.out.trans HK3.out
      refine hR.out _ _ ⟨upd U 2 (.slice ao' (1 + (R 2).length) cap'), by rw [hp]; rfl, ?_, ?_, fun c g hc hg => ?_⟩
      · rw [pushR, if_pos hp]
        refine (H.out.keep0 (by ((repeat (first | (with_reducible exact hkf) | (with_reducible refine Keep.drew ?_) | (with_reducible refine Keep.drewN ?_ _) | (with_reducible refine Keep.alloc ?_ _) | ((with_reducible refine Keep.setCell ?_ ?_ _); rotate_left; focus (first | (simp; done) | (simp; omega) | (left; dsimp only; omega))))); done))).upd 2 _ (x :: R 2) ?_
        rw [show (x :: R 2).length = 1 + (R 2).length from by simp [Nat.add_comm], show ints (x :: R 2) = [.int .i64 x] ++ ints (R 2) from rfl]
        exact (Rd.of_owns HW.out (by simp [ints, Value.oneCell'])).keep (S := [w.heap.size, w.heap.size + 1]) (by repeat (first | (with_reducible exact Keep.refl _ _) | (with_reducible refine Keep.drew ?_) | (with_reducible refine Keep.drewN ?_ _) | (with_reducible refine Keep.alloc ?_ _) | (with_reducible refine Keep.setCell ?_ (by first | (simp; done) | (simp; omega) | (left; dsimp only; omega)) _))) (fun g hg => by have := owns_block HW.out g hg; simp; omega)
      · ((repeat (first | (with_reducible exact hkf) | (with_reducible refine Keep.drew ?_) | (with_reducible refine Keep.drewN ?_ _) | (with_reducible refine Keep.alloc ?_ _) | ((with_reducible refine Keep.setCell ?_ ?_ _); rotate_left; focus (first | (simp; done) | (simp; omega) | (left; dsimp only; omega))))); done)
      · by_cases e : c = 2
        · subst e
          rw [upd_same] at hg
          exact .inr (by have := owns_block HW.out g hg; have := HK2.out.size; simp; omega)
        · rw [upd_other _ _ _ _ e] at hg
          exact .inl ⟨c, hc, hg⟩
    · have hrd : Rd w2 (Value.slice a3 n3 q3) (R 3).length (ints (R 3)) := by rw [← HU3.out]; exact (H.out 3 hk).keep HK2.out (fun _ _ => by simp)
      have HRD := Lib.hid hrd; clear hrd
      have ho : (w2.alloc (.cells #[.int .i64 x] 3)).ownsRow w2.heap.size 3 1 (.slice (some ⟨w2.heap.size, 0, none⟩) 1 1) 1 [.int .i64 x] :=
        ⟨rfl, .inr ⟨w2.heap.size, 1, #[.int .i64 x], rfl, Nat.le_refl _, alloc_new w2 _ w2.heap.size rfl, Nat.le_refl _, by simp [maxLen], rfl, rfl⟩⟩
      have HO := Lib.hid ho; clear ho
      go_wp2_with (at_builtin; go_loud (refine wpList_append_rd _ rfl _ _ _ rfl elem_int w2.heap.size (.slice (some ⟨w2.heap.size, 0, none⟩) 1 1) 1 [.int .i64 x] rfl HO.out (Value.slice a3 n3 q3) (R 3).length (ints (R 3)) rfl (HRD.out.keep (S := []) (by repeat (first | (with_reducible exact Keep.refl _ _) | (with_reducible refine Keep.drew ?_) | (with_reducible refine Keep.drewN ?_ _) | (with_reducible refine Keep.alloc ?_ _) | (with_reducible refine Keep.setCell ?_ (by first | (simp; done) | (simp; omega) | (left; dsimp only; omega)) _))) (fun _ _ => by simp)) (by simp [ints]) (by simp only [maxLen]; omega) (by omega) (by simp) ?_); intro ao' cap' w3 ho hg; go_loud (have hK3 : Keep [] w2 w3 := Keep.grown (w := w2.alloc _) (by repeat (first | (with_reducible exact Keep.refl _ _) | (with_reducible refine Keep.drew ?_) | (with_reducible refine Keep.drewN ?_ _) | (with_reducible refine Keep.alloc ?_ _) | (with_reducible refine Keep.setCell ?_ (by first | (simp; done) | (simp; omega) | (left; dsimp only; omega)) _))) hg (fun g hg => .inl (by simp [Value.ownBlock] at hg; omega)); have b31 := hK3.get HB1.out (by simp); have b32 := hK3.get HB2.out (by simp); rw [← HU.out] at b31; have c1 := cell_at b31; have c2 := cell_at b32; have f1 := frozen_at b31; have f2 := frozen_at b32; have HW := Lib.hid ho; have HK3 := Lib.hid hK3; clear ho hK3 hg b31 b32))
      refine bodyPost_ret (v := .tuple #[rlVal (upd U 3 (.slice ao' (1 + (R 3).length) cap')), .int .i64 0]) ?_ rfl ?_
      · simp [rlVal, upd, HU0.out, HU1.out, HU2.out, HU3.out, results, Try.results60, go_sem, c2]
      have hkf : Keep [] w w3 := HK2.out.trans HK3.out
      refine hR.out _ _ ⟨upd U 3 (.slice ao' (1 + (R 3).length) cap'), by rw [hp]; rfl, ?_, ?_, fun c g hc hg => ?_⟩
      · rw [pushR, if_pos hp]
        refine (H.out.keep0 (by ((repeat (first | (with_reducible exact hkf) | (with_reducible refine Keep.drew ?_) | (with_reducible refine Keep.drewN ?_ _) | (with_reducible refine Keep.alloc ?_ _) | ((with_reducible refine Keep.setCell ?_ ?_ _); rotate_left; focus (first | (simp; done) | (simp; omega) | (left; dsimp only; omega))))); done))).upd 3 _ (x :: R 3) ?_
        rw [show (x :: R 3).length = 1 + (R 3).length from by simp [Nat.add_comm], show ints (x :: R 3) = [.int .i64 x] ++ ints (R 3) from rfl]
        exact (Rd.of_owns HW.out (by simp [ints, Value.oneCell'])).keep (S := [w.heap.size, w.heap.size + 1]) (by repeat (first | (with_reducible exact Keep.refl _ _) | (with_reducible refine Keep.drew ?_) | (with_reducible refine Keep.drewN ?_ _) | (with_reducible refine Keep.alloc ?_ _) | (with_reducible refine Keep.setCell ?_ (by first | (simp; done) | (simp; omega) | (left; dsimp only; omega)) _))) (fun g hg => by have := owns_block HW.out g hg; simp; omega)
      · ((repeat (first | (with_reducible exact hkf) | (with_reducible refine Keep.drew ?_) | (with_reducible refine Keep.drewN ?_ _) | (with_reducible refine Keep.alloc ?_ _) | ((with_reducible refine Keep.setCell ?_ ?_ _); rotate_left; focus (first | (simp; done) | (simp; omega) | (left; dsimp only; omega))))); done)
      · by_cases e : c = 3
        · subst e
          rw [upd_same] at hg
          exact .inr (by have := owns_block HW.out g hg; have := HK2.out.size; simp; omega)
        · rw [upd_other _ _ _ _ e] at hg
          exact .inl ⟨c, hc, hg⟩
end Go.Proofs.Ytgdbccficcgbdaa
