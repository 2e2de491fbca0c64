/- The contract of demesneref07's Pop. -/
import Derived.Test.YtgdbccficcgbdaaRef07b
namespace Go.Proofs.Ytgdbccficcgbdaa
open Go.RowKit Go.Shelf
set_option linter.unusedVariables false
set_option linter.unusedSimpArgs false

theorem RL.shapes2 {w : World} {U : Nat → Value} {R : Nat → List Int} (h : RL w U R) : ∃ a0 q0 a1 q1 a2 q2 a3 q3, U 0 = .slice a0 (R 0).length q0 ∧ U 1 = .slice a1 (R 1).length q1 ∧ U 2 = .slice a2 (R 2).length q2 ∧ U 3 = .slice a3 (R 3).length q3 := by
  obtain ⟨a0, q0, h0, _⟩ := (h 0 (by omega)).shape
  obtain ⟨a1, q1, h1, _⟩ := (h 1 (by omega)).shape
  obtain ⟨a2, q2, h2, _⟩ := (h 2 (by omega)).shape
  obtain ⟨a3, q3, h3, _⟩ := (h 3 (by omega)).shape
  exact ⟨_, _, _, _, _, _, _, _, h0, h1, h2, h3⟩

theorem rd_empty (w : World) (a : Addr) : Rd w (.slice (some a) 0 0) 0 (ints []) :=
  ⟨_, _, rfl, Nat.le_refl _, Nat.zero_le _, by simp, by simp [ints], fun _ _ i u hu => by simp [ints] at hu⟩

set_option maxRecDepth 100000 in
set_option maxHeartbeats 4000000 in
theorem ref07_pop {w : World} {U : Nat → Value} {R : Nat → List Int} (h : RL w U R) (hs : total R ≤ 100000) (c : Int) :
    Calls Try.prog 56 #[rlVal U, .int .i64 c] w fun e w' => ∃ U', e = .returned (.tuple #[rlVal U', .int .i64 (popXR R c), .int .i64 (popE R c)]) ∧ RL w' U' (popR R c) ∧ Keep [] w w' ∧ Fresh4 w w' U U' := by
  refine calls_abs fun R' hR => ?_
  have H := Lib.hid h
  obtain ⟨a0, q0, a1, q1, a2, q2, a3, q3, hu0, hu1, hu2, hu3⟩ := h.shapes2
  have hU : (#[Value.slice a0 (R 0).length q0, .slice a1 (R 1).length q1, .slice a2 (R 2).length q2, .slice a3 (R 3).length q3] : Array Value) = #[U 0, U 1, U 2, U 3] := by rw [hu0, hu1, hu2, hu3]
  have HU0 := Lib.hid hu0; have HU1 := Lib.hid hu1; have HU2 := Lib.hid hu2; have HU3 := Lib.hid hu3; clear hu0 hu1 hu2 hu3
  clear h
  unfold rlVal at *
  rw [← hU]
  have HU := Lib.hid hU; clear hU
  by_cases h1 : c < 0
  · have hp : popE R c = 2 := by simp [popE, inC, show ¬ 0 ≤ c from by omega]
    have hx : popXR R c = 0 := by simp [popXR, hp]
    go_enter Try.func56, Try.ntmps56
    go_wp2_with fail
    refine bodyPost_ret (v := .tuple #[.agg #[U 0, U 1, U 2, U 3], .int .i64 0, .int .i64 2]) ?_ rfl ?_
    · rw [← HU.out]; simp [results, Try.results56, go_sem]
    exact hR.out _ _ ⟨U, by rw [hp, hx], by rw [popR, if_neg (by omega)]; exact H.out.keep0 (by repeat (first | (with_reducible exact Keep.refl _ _) | (with_reducible refine Keep.drew ?_) | (with_reducible refine Keep.drewN ?_ _) | (with_reducible refine Keep.alloc ?_ _) | (with_reducible refine Keep.setCell ?_ (by first | (simp; done) | (simp; omega) | (left; dsimp only; omega)) _))), (by repeat (first | (with_reducible exact Keep.refl _ _) | (with_reducible refine Keep.drew ?_) | (with_reducible refine Keep.drewN ?_ _) | (with_reducible refine Keep.alloc ?_ _) | (with_reducible refine Keep.setCell ?_ (by first | (simp; done) | (simp; omega) | (left; dsimp only; omega)) _))), Fresh4.refl _ _ _⟩
  by_cases h2 : 3 < c
  · have hp : popE R c = 2 := by simp [popE, inC, show ¬ c < 4 from by omega]
    have hx : popXR R c = 0 := by simp [popXR, hp]
    go_enter Try.func56, Try.ntmps56
    go_wp2_with fail
    refine bodyPost_ret (v := .tuple #[.agg #[U 0, U 1, U 2, U 3], .int .i64 0, .int .i64 2]) ?_ rfl ?_
    · rw [← HU.out]; simp [results, Try.results56, go_sem]
    exact hR.out _ _ ⟨U, by rw [hp, hx], by rw [popR, if_neg (by omega)]; exact H.out.keep0 (by repeat (first | (with_reducible exact Keep.refl _ _) | (with_reducible refine Keep.drew ?_) | (with_reducible refine Keep.drewN ?_ _) | (with_reducible refine Keep.alloc ?_ _) | (with_reducible refine Keep.setCell ?_ (by first | (simp; done) | (simp; omega) | (left; dsimp only; omega)) _))), (by repeat (first | (with_reducible exact Keep.refl _ _) | (with_reducible refine Keep.drew ?_) | (with_reducible refine Keep.drewN ?_ _) | (with_reducible refine Keep.alloc ?_ _) | (with_reducible refine Keep.setCell ?_ (by first | (simp; done) | (simp; omega) | (left; dsimp only; omega)) _))), Fresh4.refl _ _ _⟩
  have hic : inC c = true := by simp [inC]; omega
  obtain ⟨k, rfl, hk⟩ := inC_true hic
  have hlen := total_row R k hk
  rcases four hk with rfl | rfl | rfl | rfl
  · have hcs : R 0 = [] ∨ ∃ y ys, R 0 = y :: ys := by cases R 0 <;> simp
    rcases hcs with hr | ⟨y, ys, hr⟩
    · have hp : popE R 0 = 5 := by simp [popE, inC, hr]
      have hx : popXR R 0 = 0 := by simp [popXR, hp]
      have hl0 : (R 0).length = 0 := by rw [hr]; rfl
      clear hr
      go_enter Try.func56, Try.ntmps56
      go_wp2_with fail
      refine bodyPost_ret (v := .tuple #[.agg #[U 0, U 1, U 2, U 3], .int .i64 0, .int .i64 5]) ?_ rfl ?_
      · rw [← HU.out]; simp [results, Try.results56, go_sem, hl0]
      exact hR.out _ _ ⟨U, by rw [show ((0 : Nat) : Int) = 0 from rfl, hp, hx], by rw [show ((0 : Nat) : Int) = 0 from rfl, popR, if_neg (by omega)]; exact H.out.keep0 (by repeat (first | (with_reducible exact Keep.refl _ _) | (with_reducible refine Keep.drew ?_) | (with_reducible refine Keep.drewN ?_ _) | (with_reducible refine Keep.alloc ?_ _) | (with_reducible refine Keep.setCell ?_ (by first | (simp; done) | (simp; omega) | (left; dsimp only; omega)) _))), (by repeat (first | (with_reducible exact Keep.refl _ _) | (with_reducible refine Keep.drew ?_) | (with_reducible refine Keep.drewN ?_ _) | (with_reducible refine Keep.alloc ?_ _) | (with_reducible refine Keep.setCell ?_ (by first | (simp; done) | (simp; omega) | (left; dsimp only; omega)) _))), Fresh4.refl _ _ _⟩
    · have hp : popE R 0 = 0 := by simp [popE, inC, hr]
      have hx : popXR R 0 = y := by simp [popXR, hp, hr]
      have hl : (R 0).length = ys.length + 1 := by rw [hr]; rfl
      have hrd := H.out 0 hk
      have hu := HU0.out
      rw [hu, hr] at hrd
      simp only [List.length_cons] at hrd hu
      obtain ⟨b4, o4, rfl, hb4, hc4⟩ := hrd.some (by simp [ints])
      have e4 := hc4 0 (.int .i64 y) (by simp [ints])
      simp only [Nat.add_zero] at e4
      have hle := hrd.len
      have htl := rd_tail hrd rfl
      have HTL := Lib.hid htl
      have HY := Lib.hid hr
      clear hc4 hrd htl
      have k0 : (0 : Int) < ((ys.length + 1 : Nat) : Int) := by omega
      have k1 : (1 : Int) ≤ ((ys.length + 1 : Nat) : Int) := by omega
      have k2 : ((ys.length + 1 : Nat) : Int) ≤ (q0 : Int) := by omega
      have k3 : (1 : Int) ≤ (q0 : Int) := by omega
      have k4 : (((ys.length + 1 : Nat) : Int) == 0) = false := by simp; omega
      rw [hl]
      clear hu hr hl
      generalize hm : ys.length + 1 = m at *
      have HM := Lib.hid hm; clear hm
      by_cases hq : q0 = 1
      · subst hq
        have hm1 : m = 1 := by have := HM.out; omega
        have hys : ys = [] := by have := HM.out; exact List.eq_nil_of_length_eq_zero (by omega)
        clear k2 k3
        go_enter Try.func56, Try.ntmps56
        go_wp2_with fail
        refine bodyPost_ret (v := .tuple #[rlVal (upd U 0 (.slice (some ⟨b4, o4, none⟩) 0 0)), .int .i64 y, .int .i64 0]) ?_ rfl ?_
        · simp [rlVal, upd, HU0.out, HU1.out, HU2.out, HU3.out, results, Try.results56, go_sem, hm1]
        refine hR.out _ _ ⟨upd U 0 (.slice (some ⟨b4, o4, none⟩) 0 0), by rw [show ((0 : Nat) : Int) = 0 from rfl, hp, hx]; rfl, ?_, (by repeat (first | (with_reducible exact Keep.refl _ _) | (with_reducible refine Keep.drew ?_) | (with_reducible refine Keep.drewN ?_ _) | (with_reducible refine Keep.alloc ?_ _) | (with_reducible refine Keep.setCell ?_ (by first | (simp; done) | (simp; omega) | (left; dsimp only; omega)) _))), fun c g hc hg => ?_⟩
        · rw [show ((0 : Nat) : Int) = 0 from rfl, popR, if_pos hp]
          refine (H.out.keep0 (by repeat (first | (with_reducible exact Keep.refl _ _) | (with_reducible refine Keep.drew ?_) | (with_reducible refine Keep.drewN ?_ _) | (with_reducible refine Keep.alloc ?_ _) | (with_reducible refine Keep.setCell ?_ (by first | (simp; done) | (simp; omega) | (left; dsimp only; omega)) _)))).upd 0 _ _ ?_
          rw [show (R (0 : Int).toNat).tail = [] from by rw [show (0 : Int).toNat = 0 from rfl, HY.out]; exact hys]
          exact rd_empty _ _
        · by_cases e : c = 0
          · subst e
            rw [upd_same] at hg
            exact .inl ⟨0, hk, by rw [HU0.out]; exact hg⟩
          · rw [upd_other _ _ _ _ e] at hg
            exact .inl ⟨c, hc, hg⟩
      · have hq1 : ¬ 1 = q0 := fun h => hq h.symm
        go_enter Try.func56, Try.ntmps56
        go_wp2_with fail
        refine bodyPost_ret (v := .tuple #[rlVal (upd U 0 (.slice (some ⟨b4, o4 + 1, none⟩) (m - 1) (q0 - 1))), .int .i64 y, .int .i64 0]) ?_ rfl ?_
        · simp [rlVal, upd, HU0.out, HU1.out, HU2.out, HU3.out, results, Try.results56, go_sem]
        refine hR.out _ _ ⟨upd U 0 (.slice (some ⟨b4, o4 + 1, none⟩) (m - 1) (q0 - 1)), by rw [show ((0 : Nat) : Int) = 0 from rfl, hp, hx]; rfl, ?_, (by repeat (first | (with_reducible exact Keep.refl _ _) | (with_reducible refine Keep.drew ?_) | (with_reducible refine Keep.drewN ?_ _) | (with_reducible refine Keep.alloc ?_ _) | (with_reducible refine Keep.setCell ?_ (by first | (simp; done) | (simp; omega) | (left; dsimp only; omega)) _))), fun c g hc hg => ?_⟩
        · rw [show ((0 : Nat) : Int) = 0 from rfl, popR, if_pos hp]
          refine (H.out.keep0 (by repeat (first | (with_reducible exact Keep.refl _ _) | (with_reducible refine Keep.drew ?_) | (with_reducible refine Keep.drewN ?_ _) | (with_reducible refine Keep.alloc ?_ _) | (with_reducible refine Keep.setCell ?_ (by first | (simp; done) | (simp; omega) | (left; dsimp only; omega)) _)))).upd 0 _ _ ?_
          rw [show (R (0 : Int).toNat).tail = ys from by rw [show (0 : Int).toNat = 0 from rfl, HY.out]; rfl]
          exact HTL.out.keep (S := []) (by repeat (first | (with_reducible exact Keep.refl _ _) | (with_reducible refine Keep.drew ?_) | (with_reducible refine Keep.drewN ?_ _) | (with_reducible refine Keep.alloc ?_ _) | (with_reducible refine Keep.setCell ?_ (by first | (simp; done) | (simp; omega) | (left; dsimp only; omega)) _))) (fun _ _ => by simp)
        · by_cases e : c = 0
          · subst e
            rw [upd_same] at hg
            exact .inl ⟨0, hk, by rw [HU0.out]; exact hg⟩
          · rw [upd_other _ _ _ _ e] at hg
            exact .inl ⟨c, hc, hg⟩
  · have hcs : R 1 = [] ∨ ∃ y ys, R 1 = y :: ys := by cases R 1 <;> simp
    rcases hcs with hr | ⟨y, ys, hr⟩
    · have hp : popE R 1 = 5 := by simp [popE, inC, hr]
      have hx : popXR R 1 = 0 := by simp [popXR, hp]
      have hl0 : (R 1).length = 0 := by rw [hr]; rfl
      clear hr
      go_enter Try.func56, Try.ntmps56
      go_wp2_with fail
      refine bodyPost_ret (v := .tuple #[.agg #[U 0, U 1, U 2, U 3], .int .i64 0, .int .i64 5]) ?_ rfl ?_
      · rw [← HU.out]; simp [results, Try.results56, go_sem, hl0]
      exact hR.out _ _ ⟨U, by rw [show ((1 : Nat) : Int) = 1 from rfl, hp, hx], by rw [show ((1 : Nat) : Int) = 1 from rfl, popR, if_neg (by omega)]; exact H.out.keep0 (by repeat (first | (with_reducible exact Keep.refl _ _) | (with_reducible refine Keep.drew ?_) | (with_reducible refine Keep.drewN ?_ _) | (with_reducible refine Keep.alloc ?_ _) | (with_reducible refine Keep.setCell ?_ (by first | (simp; done) | (simp; omega) | (left; dsimp only; omega)) _))), (by repeat (first | (with_reducible exact Keep.refl _ _) | (with_reducible refine Keep.drew ?_) | (with_reducible refine Keep.drewN ?_ _) | (with_reducible refine Keep.alloc ?_ _) | (with_reducible refine Keep.setCell ?_ (by first | (simp; done) | (simp; omega) | (left; dsimp only; omega)) _))), Fresh4.refl _ _ _⟩
    · have hp : popE R 1 = 0 := by simp [popE, inC, hr]
      have hx : popXR R 1 = y := by simp [popXR, hp, hr]
      have hl : (R 1).length = ys.length + 1 := by rw [hr]; rfl
      have hrd := H.out 1 hk
      have hu := HU1.out
      rw [hu, hr] at hrd
      simp only [List.length_cons] at hrd hu
      obtain ⟨b4, o4, rfl, hb4, hc4⟩ := hrd.some (by simp [ints])
      have e4 := hc4 0 (.int .i64 y) (by simp [ints])
      simp only [Nat.add_zero] at e4
      have hle := hrd.len
      have htl := rd_tail hrd rfl
      have HTL := Lib.hid htl
      have HY := Lib.hid hr
      clear hc4 hrd htl
      have k0 : (0 : Int) < ((ys.length + 1 : Nat) : Int) := by omega
      have k1 : (1 : Int) ≤ ((ys.length + 1 : Nat) : Int) := by omega
      have k2 : ((ys.length + 1 : Nat) : Int) ≤ (q1 : Int) := by omega
      have k3 : (1 : Int) ≤ (q1 : Int) := by omega
      have k4 : (((ys.length + 1 : Nat) : Int) == 0) = false := by simp; omega
      rw [hl]
      clear hu hr hl
      generalize hm : ys.length + 1 = m at *
      have HM := Lib.hid hm; clear hm
      by_cases hq : q1 = 1
      · subst hq
        have hm1 : m = 1 := by have := HM.out; omega
        have hys : ys = [] := by have := HM.out; exact List.eq_nil_of_length_eq_zero (by omega)
        clear k2 k3
        go_enter Try.func56, Try.ntmps56
        go_wp2_with fail
        refine bodyPost_ret (v := .tuple #[rlVal (upd U 1 (.slice (some ⟨b4, o4, none⟩) 0 0)), .int .i64 y, .int .i64 0]) ?_ rfl ?_
        · simp [rlVal, upd, HU0.out, HU1.out, HU2.out, HU3.out, results, Try.results56, go_sem, hm1]
        refine hR.out _ _ ⟨upd U 1 (.slice (some ⟨b4, o4, none⟩) 0 0), by rw [show ((1 : Nat) : Int) = 1 from rfl, hp, hx]; rfl, ?_, (by repeat (first | (with_reducible exact Keep.refl _ _) | (with_reducible refine Keep.drew ?_) | (with_reducible refine Keep.drewN ?_ _) | (with_reducible refine Keep.alloc ?_ _) | (with_reducible refine Keep.setCell ?_ (by first | (simp; done) | (simp; omega) | (left; dsimp only; omega)) _))), fun c g hc hg => ?_⟩
        · rw [show ((1 : Nat) : Int) = 1 from rfl, popR, if_pos hp]
          refine (H.out.keep0 (by repeat (first | (with_reducible exact Keep.refl _ _) | (with_reducible refine Keep.drew ?_) | (with_reducible refine Keep.drewN ?_ _) | (with_reducible refine Keep.alloc ?_ _) | (with_reducible refine Keep.setCell ?_ (by first | (simp; done) | (simp; omega) | (left; dsimp only; omega)) _)))).upd 1 _ _ ?_
          rw [show (R (1 : Int).toNat).tail = [] from by rw [show (1 : Int).toNat = 1 from rfl, HY.out]; exact hys]
          exact rd_empty _ _
        · by_cases e : c = 1
          · subst e
            rw [upd_same] at hg
            exact .inl ⟨1, hk, by rw [HU1.out]; exact hg⟩
          · rw [upd_other _ _ _ _ e] at hg
            exact .inl ⟨c, hc, hg⟩
      · have hq1 : ¬ 1 = q1 := fun h => hq h.symm
        go_enter Try.func56, Try.ntmps56
        go_wp2_with fail
        refine bodyPost_ret (v := .tuple #[rlVal (upd U 1 (.slice (some ⟨b4, o4 + 1, none⟩) (m - 1) (q1 - 1))), .int .i64 y, .int .i64 0]) ?_ rfl ?_
        · simp [rlVal, upd, HU0.out, HU1.out, HU2.out, HU3.out, results, Try.results56, go_sem]
        refine hR.out _ _ ⟨upd U 1 (.slice (some ⟨b4, o4 + 1, none⟩) (m - 1) (q1 - 1)), by rw [show ((1 : Nat) : Int) = 1 from rfl, hp, hx]; rfl, ?_, (by repeat (first | (with_reducible exact Keep.refl _ _) | (with_reducible refine Keep.drew ?_) | (with_reducible refine Keep.drewN ?_ _) | (with_reducible refine Keep.alloc ?_ _) | (with_reducible refine Keep.setCell ?_ (by first | (simp; done) | (simp; omega) | (left; dsimp only; omega)) _))), fun c g hc hg => ?_⟩
        · rw [show ((1 : Nat) : Int) = 1 from rfl, popR, if_pos hp]
          refine (H.out.keep0 (by repeat (first | (with_reducible exact Keep.refl _ _) | (with_reducible refine Keep.drew ?_) | (with_reducible refine Keep.drewN ?_ _) | (with_reducible refine Keep.alloc ?_ _) | (with_reducible refine Keep.setCell ?_ (by first | (simp; done) | (simp; omega) | (left; dsimp only; omega)) _)))).upd 1 _ _ ?_
          rw [show (R (1 : Int).toNat).tail = ys from by rw [show (1 : Int).toNat = 1 from rfl, HY.out]; rfl]
          exact HTL.out.keep (S := []) (by repeat (first | (with_reducible exact Keep.refl _ _) | (with_reducible refine Keep.drew ?_) | (with_reducible refine Keep.drewN ?_ _) | (with_reducible refine Keep.alloc ?_ _) | (with_reducible refine Keep.setCell ?_ (by first | (simp; done) | (simp; omega) | (left; dsimp only; omega)) _))) (fun _ _ => by simp)
        · by_cases e : c = 1
          · subst e
            rw [upd_same] at hg
            exact .inl ⟨1, hk, by rw [HU1.out]; exact hg⟩
          · rw [upd_other _ _ _ _ e] at hg
            exact .inl ⟨c, hc, hg⟩
  · have hcs : R 2 = [] ∨ ∃ y ys, R 2 = y :: ys := by cases R 2 <;> simp
    rcases hcs with hr | ⟨y, ys, hr⟩
    · have hp : popE R 2 = 5 := by simp [popE, inC, hr]
      have hx : popXR R 2 = 0 := by simp [popXR, hp]
      have hl0 : (R 2).length = 0 := by rw [hr]; rfl
      clear hr
      go_enter Try.func56, Try.ntmps56
      go_wp2_with fail
      refine bodyPost_ret (v := .tuple #[.agg #[U 0, U 1, U 2, U 3], .int .i64 0, .int .i64 5]) ?_ rfl ?_
      · rw [← HU.out]; simp [results, Try.results56, go_sem, hl0]
      exact hR.out _ _ ⟨U, by rw [show ((2 : Nat) : Int) = 2 from rfl, hp, hx], by rw [show ((2 : Nat) : Int) = 2 from rfl, popR, if_neg (by omega)]; exact H.out.keep0 (by repeat (first | (with_reducible exact Keep.refl _ _) | (with_reducible refine Keep.drew ?_) | (with_reducible refine Keep.drewN ?_ _) | (with_reducible refine Keep.alloc ?_ _) | (with_reducible refine Keep.setCell ?_ (by first | (simp; done) | (simp; omega) | (left; dsimp only; omega)) _))), (by repeat (first | (with_reducible exact Keep.refl _ _) | (with_reducible refine Keep.drew ?_) | (with_reducible refine Keep.drewN ?_ _) | (with_reducible refine Keep.alloc ?_ _) | (with_reducible refine Keep.setCell ?_ (by first | (simp; done) | (simp; omega) | (left; dsimp only; omega)) _))), Fresh4.refl _ _ _⟩
    · have hp : popE R 2 = 0 := by simp [popE, inC, hr]
      have hx : popXR R 2 = y := by simp [popXR, hp, hr]
      have hl : (R 2).length = ys.length + 1 := by rw [hr]; rfl
      have hrd := H.out 2 hk
      have hu := HU2.out
      rw [hu, hr] at hrd
      simp only [List.length_cons] at hrd hu
      obtain ⟨b4, o4, rfl, hb4, hc4⟩ := hrd.some (by simp [ints])
      have e4 := hc4 0 (.int .i64 y) (by simp [ints])
      simp only [Nat.add_zero] at e4
      have hle := hrd.len
      have htl := rd_tail hrd rfl
      have HTL := Lib.hid htl
      have HY := Lib.hid hr
      clear hc4 hrd htl
      have k0 : (0 : Int) < ((ys.length + 1 : Nat) : Int) := by omega
      have k1 : (1 : Int) ≤ ((ys.length + 1 : Nat) : Int) := by omega
      have k2 : ((ys.length + 1 : Nat) : Int) ≤ (q2 : Int) := by omega
      have k3 : (1 : Int) ≤ (q2 : Int) := by omega
      have k4 : (((ys.length + 1 : Nat) : Int) == 0) = false := by simp; omega
      rw [hl]
      clear hu hr hl
      generalize hm : ys.length + 1 = m at *
      have HM := Lib.hid hm; clear hm
      by_cases hq : q2 = 1
      · subst hq
        have hm1 : m = 1 := by have := HM.out; omega
        have hys : ys = [] := by have := HM.out; exact List.eq_nil_of_length_eq_zero (by omega)
        clear k2 k3
        go_enter Try.func56, Try.ntmps56
        go_wp2_with fail
        refine bodyPost_ret (v := .tuple #[rlVal (upd U 2 (.slice (some ⟨b4, o4, none⟩) 0 0)), .int .i64 y, .int .i64 0]) ?_ rfl ?_
        · simp [rlVal, upd, HU0.out, HU1.out, HU2.out, HU3.out, results, Try.results56, go_sem, hm1]
        refine hR.out _ _ ⟨upd U 2 (.slice (some ⟨b4, o4, none⟩) 0 0), by rw [show ((2 : Nat) : Int) = 2 from rfl, hp, hx]; rfl, ?_, (by repeat (first | (with_reducible exact Keep.refl _ _) | (with_reducible refine Keep.drew ?_) | (with_reducible refine Keep.drewN ?_ _) | (with_reducible refine Keep.alloc ?_ _) | (with_reducible refine Keep.setCell ?_ (by first | (simp; done) | (simp; omega) | (left; dsimp only; omega)) _))), fun c g hc hg => ?_⟩
        · rw [show ((2 : Nat) : Int) = 2 from rfl, popR, if_pos hp]
          refine (H.out.keep0 (by repeat (first | (with_reducible exact Keep.refl _ _) | (with_reducible refine Keep.drew ?_) | (with_reducible refine Keep.drewN ?_ _) | (with_reducible refine Keep.alloc ?_ _) | (with_reducible refine Keep.setCell ?_ (by first | (simp; done) | (simp; omega) | (left; dsimp only; omega)) _)))).upd 2 _ _ ?_
          rw [show (R (2 : Int).toNat).tail = [] from by rw [show (2 : Int).toNat = 2 from rfl, HY.out]; exact hys]
          exact rd_empty _ _
        · by_cases e : c = 2
          · subst e
            rw [upd_same] at hg
            exact .inl ⟨2, hk, by rw [HU2.out]; exact hg⟩
          · rw [upd_other _ _ _ _ e] at hg
            exact .inl ⟨c, hc, hg⟩
      · have hq1 : ¬ 1 = q2 := fun h => hq h.symm
        go_enter Try.func56, Try.ntmps56
        go_wp2_with fail
        refine bodyPost_ret (v := .tuple #[rlVal (upd U 2 (.slice (some ⟨b4, o4 + 1, none⟩) (m - 1) (q2 - 1))), .int .i64 y, .int .i64 0]) ?_ rfl ?_
        · simp [rlVal, upd, HU0.out, HU1.out, HU2.out, HU3.out, results, Try.results56, go_sem]
        refine hR.out _ _ ⟨upd U 2 (.slice (some ⟨b4, o4 + 1, none⟩) (m - 1) (q2 - 1)), by rw [show ((2 : Nat) : Int) = 2 from rfl, hp, hx]; rfl, ?_, (by repeat (first | (with_reducible exact Keep.refl _ _) | (with_reducible refine Keep.drew ?_) | (with_reducible refine Keep.drewN ?_ _) | (with_reducible refine Keep.alloc ?_ _) | (with_reducible refine Keep.setCell ?_ (by first | (simp; done) | (simp; omega) | (left; dsimp only; omega)) _))), fun c g hc hg => ?_⟩
        · rw [show ((2 : Nat) : Int) = 2 from rfl, popR, if_pos hp]
          refine (H.out.keep0 (by repeat (first | (with_reducible exact Keep.refl _ _) | (with_reducible refine Keep.drew ?_) | (with_reducible refine Keep.drewN ?_ _) | (with_reducible refine Keep.alloc ?_ _) | (with_reducible refine Keep.setCell ?_ (by first | (simp; done) | (simp; omega) | (left; dsimp only; omega)) _)))).upd 2 _ _ ?_
          rw [show (R (2 : Int).toNat).tail = ys from by rw [show (2 : Int).toNat = 2 from rfl, HY.out]; rfl]
          exact HTL.out.keep (S := []) (by repeat (first | (with_reducible exact Keep.refl _ _) | (with_reducible refine Keep.drew ?_) | (with_reducible refine Keep.drewN ?_ _) | (with_reducible refine Keep.alloc ?_ _) | (with_reducible refine Keep.setCell ?_ (by first | (simp; done) | (simp; omega) | (left; dsimp only; omega)) _))) (fun _ _ => by simp)
        · by_cases e : c = 2
          · subst e
            rw [upd_same] at hg
            exact .inl ⟨2, hk, by rw [HU2.out]; exact hg⟩
          · rw [upd_other _ _ _ _ e] at hg
            exact .inl ⟨c, hc, hg⟩
  · have hcs : R 3 = [] ∨ ∃ y ys, R 3 = y :: ys := by cases R 3 <;> simp
    rcases hcs with hr | ⟨y, ys, hr⟩
    · have hp : popE R 3 = 5 := by simp [popE, inC, hr]
      have hx : popXR R 3 = 0 := by simp [popXR, hp]
      have hl0 : (R 3).length = 0 := by rw [hr]; rfl
      clear hr
      go_enter Try.func56, Try.ntmps56
      go_wp2_with fail
      refine bodyPost_ret (v := .tuple #[.agg #[U 0, U 1, U 2, U 3], .int .i64 0, .int .i64 5]) ?_ rfl ?_
      · rw [← HU.out]; simp [results, Try.results56, go_sem, hl0]
      exact hR.out _ _ ⟨U, by rw [show ((3 : Nat) : Int) = 3 from rfl, hp, hx], by rw [show ((3 : Nat) : Int) = 3 from rfl, popR, if_neg (by omega)]; exact H.out.keep0 (by repeat (first | (with_reducible exact Keep.refl _ _) | (with_reducible refine Keep.drew ?_) | (with_reducible refine Keep.drewN ?_ _) | (with_reducible refine Keep.alloc ?_ _) | (with_reducible refine Keep.setCell ?_ (by first | (simp; done) | (simp; omega) | (left; dsimp only; omega)) _))), (by repeat (first | (with_reducible exact Keep.refl _ _) | (with_reducible refine Keep.drew ?_) | (with_reducible refine Keep.drewN ?_ _) | (with_reducible refine Keep.alloc ?_ _) | (with_reducible refine Keep.setCell ?_ (by first | (simp; done) | (simp; omega) | (left; dsimp only; omega)) _))), Fresh4.refl _ _ _⟩
    · have hp : popE R 3 = 0 := by simp [popE, inC, hr]
      have hx : popXR R 3 = y := by simp [popXR, hp, hr]
      have hl : (R 3).length = ys.length + 1 := by rw [hr]; rfl
      have hrd := H.out 3 hk
      have hu := HU3.out
      rw [hu, hr] at hrd
      simp only [List.length_cons] at hrd hu
      obtain ⟨b4, o4, rfl, hb4, hc4⟩ := hrd.some (by simp [ints])
      have e4 := hc4 0 (.int .i64 y) (by simp [ints])
      simp only [Nat.add_zero] at e4
      have hle := hrd.len
      have htl := rd_tail hrd rfl
      have HTL := Lib.hid htl
      have HY := Lib.hid hr
      clear hc4 hrd htl
      have k0 : (0 : Int) < ((ys.length + 1 : Nat) : Int) := by omega
      have k1 : (1 : Int) ≤ ((ys.length + 1 : Nat) : Int) := by omega
      have k2 : ((ys.length + 1 : Nat) : Int) ≤ (q3 : Int) := by omega
      have k3 : (1 : Int) ≤ (q3 : Int) := by omega
      have k4 : (((ys.length + 1 : Nat) : Int) == 0) = false := by simp; omega
      rw [hl]
      clear hu hr hl
      generalize hm : ys.length + 1 = m at *
      have HM := Lib.hid hm; clear hm
      by_cases hq : q3 = 1
      · subst hq
        have hm1 : m = 1 := by have := HM.out; omega
        have hys : ys = [] := by have := HM.out; exact List.eq_nil_of_length_eq_zero (by omega)
        clear k2 k3
        go_enter Try.func56, Try.ntmps56
        go_wp2_with fail
        refine bodyPost_ret (v := .tuple #[rlVal (upd U 3 (.slice (some ⟨b4, o4, none⟩) 0 0)), .int .i64 y, .int .i64 0]) ?_ rfl ?_
        · simp [rlVal, upd, HU0.out, HU1.out, HU2.out, HU3.out, results, Try.results56, go_sem, hm1]
        refine hR.out _ _ ⟨upd U 3 (.slice (some ⟨b4, o4, none⟩) 0 0), by rw [show ((3 : Nat) : Int) = 3 from rfl, hp, hx]; rfl, ?_, (by repeat (first | (with_reducible exact Keep.refl _ _) | (with_reducible refine Keep.drew ?_) | (with_reducible refine Keep.drewN ?_ _) | (with_reducible refine Keep.alloc ?_ _) | (with_reducible refine Keep.setCell ?_ (by first | (simp; done) | (simp; omega) | (left; dsimp only; omega)) _))), fun c g hc hg => ?_⟩
        · rw [show ((3 : Nat) : Int) = 3 from rfl, popR, if_pos hp]
          refine (H.out.keep0 (by repeat (first | (with_reducible exact Keep.refl _ _) | (with_reducible refine Keep.drew ?_) | (with_reducible refine Keep.drewN ?_ _) | (with_reducible refine Keep.alloc ?_ _) | (with_reducible refine Keep.setCell ?_ (by first | (simp; done) | (simp; omega) | (left; dsimp only; omega)) _)))).upd 3 _ _ ?_
          rw [show (R (3 : Int).toNat).tail = [] from by rw [show (3 : Int).toNat = 3 from rfl, HY.out]; exact hys]
          exact rd_empty _ _
        · by_cases e : c = 3
          · subst e
            rw [upd_same] at hg
            exact .inl ⟨3, hk, by rw [HU3.out]; exact hg⟩
          · rw [upd_other _ _ _ _ e] at hg
            exact .inl ⟨c, hc, hg⟩
      · have hq1 : ¬ 1 = q3 := fun h => hq h.symm
        go_enter Try.func56, Try.ntmps56
        go_wp2_with fail
        refine bodyPost_ret (v := .tuple #[rlVal (upd U 3 (.slice (some ⟨b4, o4 + 1, none⟩) (m - 1) (q3 - 1))), .int .i64 y, .int .i64 0]) ?_ rfl ?_
        · simp [rlVal, upd, HU0.out, HU1.out, HU2.out, HU3.out, results, Try.results56, go_sem]
        refine hR.out _ _ ⟨upd U 3 (.slice (some ⟨b4, o4 + 1, none⟩) (m - 1) (q3 - 1)), by rw [show ((3 : Nat) : Int) = 3 from rfl, hp, hx]; rfl, ?_, (by repeat (first | (with_reducible exact Keep.refl _ _) | (with_reducible refine Keep.drew ?_) | (with_reducible refine Keep.drewN ?_ _) | (with_reducible refine Keep.alloc ?_ _) | (with_reducible refine Keep.setCell ?_ (by first | (simp; done) | (simp; omega) | (left; dsimp only; omega)) _))), fun c g hc hg => ?_⟩
        · rw [show ((3 : Nat) : Int) = 3 from rfl, popR, if_pos hp]
          refine (H.out.keep0 (by repeat (first | (with_reducible exact Keep.refl _ _) | (with_reducible refine Keep.drew ?_) | (with_reducible refine Keep.drewN ?_ _) | (with_reducible refine Keep.alloc ?_ _) | (with_reducible refine Keep.setCell ?_ (by first | (simp; done) | (simp; omega) | (left; dsimp only; omega)) _)))).upd 3 _ _ ?_
          rw [show (R (3 : Int).toNat).tail = ys from by rw [show (3 : Int).toNat = 3 from rfl, HY.out]; rfl]
          exact HTL.out.keep (S := []) (by repeat (first | (with_reducible exact Keep.refl _ _) | (with_reducible refine Keep.drew ?_) | (with_reducible refine Keep.drewN ?_ _) | (with_reducible refine Keep.alloc ?_ _) | (with_reducible refine Keep.setCell ?_ (by first | (simp; done) | (simp; omega) | (left; dsimp only; omega)) _))) (fun _ _ => by simp)
        · by_cases e : c = 3
          · subst e
            rw [upd_same] at hg
            exact .inl ⟨3, hk, by rw [HU3.out]; exact hg⟩
          · rw [upd_other _ _ _ _ e] at hg
            exact .inl ⟨c, hc, hg⟩
end Go.Proofs.Ytgdbccficcgbdaa
