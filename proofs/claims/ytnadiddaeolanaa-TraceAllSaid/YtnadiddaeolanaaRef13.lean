/- The contracts of demesneref13. -/
import Derived.Test.YtnadiddaeolanaaRef01
import Derived.Test.YtnadiddaeolanaaShade
namespace Go.Proofs.Ytnadiddaeolanaa
open Go.RowKit
set_option linter.unusedVariables false
set_option linter.unusedSimpArgs false

set_option maxRecDepth 100000 in
set_option maxHeartbeats 4000000 in
theorem ref13_tell (x c : Int) (hx : 0 ≤ x ∧ x < 18446744073709551616) (w : World) :
    Calls Try.prog 26 #[.int .u64 x, .int .u8 c] w fun e w' => e = .returned (.int .u8 (tellOf x c)) ∧ Keep [] w w' := by
  refine calls_abs fun R hR => ?_
  go_enter Try.func26, Try.ntmps26
  go_wp2_with fail
  refine (ref01_take x hx w).mono ?_
  rintro e w2 ⟨rfl, K2⟩
  have HK2 := Lib.hid K2; clear K2
  cases hi : isHd x with
  | false =>
    rw [show takeH x = Hd.zero from by simp [takeH, hi]]
    unfold Hd.val Hd.zero
    go_wp2_with fail
    exact hR.out _ _ ⟨by simp [tellOf, hi], by ((repeat (first | (with_reducible exact HK2.out) | (with_reducible refine Keep.drew ?_) | (with_reducible refine Keep.drewN ?_ _) | (with_reducible refine Keep.alloc ?_ _) | ((with_reducible refine Keep.setCell ?_ ?_ _); rotate_left; focus (first | (simp; done) | (simp; omega) | (left; dsimp only; omega))))); done)⟩
  | true =>
    rw [show takeH x = hdOf x from by simp [takeH, hi]]
    unfold Hd.val
    have hd : tellOf x c = if (hdOf x).kind = 3 ∧ c ≤ 1 then (if (hdOf x).colour = c then (if (hdOf x).grey then 2 else 3) else 1) else 0 := by simp [tellOf, hi]
    rw [hd] at hR
    clear hd
    generalize hdOf x = h at *
    obtain ⟨kind, colour, grey, marked, owner, refs, size⟩ := h
    dsimp only at hR ⊢
    by_cases q1 : kind = 3
    · have q1' : (kind == 3) = true := by simp [q1]
      have q1'' : (kind != 3) = false := by simp [q1]
      by_cases q2 : 1 < c
      · go_wp2_with fail
        exact hR.out _ _ ⟨by simp [show ¬ c ≤ 1 from by omega], by ((repeat (first | (with_reducible exact HK2.out) | (with_reducible refine Keep.drew ?_) | (with_reducible refine Keep.drewN ?_ _) | (with_reducible refine Keep.alloc ?_ _) | ((with_reducible refine Keep.setCell ?_ ?_ _); rotate_left; focus (first | (simp; done) | (simp; omega) | (left; dsimp only; omega))))); done)⟩
      · by_cases q3 : colour = c
        · have q3' : (colour == c) = true := by simp [q3]
          have q3'' : (colour != c) = false := by simp [q3]
          cases grey with
          | true =>
            go_wp2_with fail
            exact hR.out _ _ ⟨by simp [show c ≤ 1 from by omega, q1, q3], by ((repeat (first | (with_reducible exact HK2.out) | (with_reducible refine Keep.drew ?_) | (with_reducible refine Keep.drewN ?_ _) | (with_reducible refine Keep.alloc ?_ _) | ((with_reducible refine Keep.setCell ?_ ?_ _); rotate_left; focus (first | (simp; done) | (simp; omega) | (left; dsimp only; omega))))); done)⟩
          | false =>
            go_wp2_with fail
            exact hR.out _ _ ⟨by simp [show c ≤ 1 from by omega, q1, q3], by ((repeat (first | (with_reducible exact HK2.out) | (with_reducible refine Keep.drew ?_) | (with_reducible refine Keep.drewN ?_ _) | (with_reducible refine Keep.alloc ?_ _) | ((with_reducible refine Keep.setCell ?_ ?_ _); rotate_left; focus (first | (simp; done) | (simp; omega) | (left; dsimp only; omega))))); done)⟩
        · have q3' : (colour == c) = false := by simp [q3]
          have q3'' : (colour != c) = true := by simp [q3]
          go_wp2_with fail
          exact hR.out _ _ ⟨by simp [show c ≤ 1 from by omega, q1, q3], by ((repeat (first | (with_reducible exact HK2.out) | (with_reducible refine Keep.drew ?_) | (with_reducible refine Keep.drewN ?_ _) | (with_reducible refine Keep.alloc ?_ _) | ((with_reducible refine Keep.setCell ?_ ?_ _); rotate_left; focus (first | (simp; done) | (simp; omega) | (left; dsimp only; omega))))); done)⟩
    · have q1' : (kind == 3) = false := by simp [q1]
      have q1'' : (kind != 3) = true := by simp [q1]
      go_wp2_with fail
      exact hR.out _ _ ⟨by simp [q1], by ((repeat (first | (with_reducible exact HK2.out) | (with_reducible refine Keep.drew ?_) | (with_reducible refine Keep.drewN ?_ _) | (with_reducible refine Keep.alloc ?_ _) | ((with_reducible refine Keep.setCell ?_ ?_ _); rotate_left; focus (first | (simp; done) | (simp; omega) | (left; dsimp only; omega))))); done)⟩

theorem isHd_may {x : Int} (h : isHd x = true) : (hdOf x).may = true := by
  unfold isHd at h
  simp at h
  exact h.1
theorem may_three {h : Hd} (hm : h.may = true) (hk : h.kind = 3) (c : Int) (g : Bool) (hc : c ≤ 1) : ({ h with colour := c, grey := g } : Hd).may = true := by
  obtain ⟨kind, colour, grey, marked, owner, refs, size⟩ := h
  dsimp only at hk
  subst hk
  have hb := Hd.may_bounds hm
  unfold Hd.may at hm ⊢
  dsimp only at hm hb ⊢
  rw [if_neg (by omega), if_neg (by omega), if_neg (by omega)] at hm
  rw [if_neg (by omega), if_neg (by omega), if_neg (by omega)]
  exact hm

/-- A white word, shaded. -/
theorem turnedOf_white {x c : Int} (ht : tellOf x c = 1) : turnedOf x c true = (turnedH x c true).word := by
  unfold tellOf at ht
  split at ht
  · rename_i h
    unfold turnedOf turnedH
    rw [show takeH x = hdOf x from by simp [takeH, h.1], if_pos (may_three (isHd_may h.1) h.2.1 c true h.2.2)]
  · omega
theorem turnedOf_black {x : Int} (hi : isHd x = true) (hk : (hdOf x).kind = 3) : turnedOf x (hdOf x).colour false = ({ hdOf x with grey := false } : Hd).word := by
  unfold turnedOf turnedH
  rw [show takeH x = hdOf x from by simp [takeH, hi], if_pos (may_three (isHd_may hi) hk _ false (Hd.may_bounds (isHd_may hi)).2.1)]

set_option maxRecDepth 100000 in
set_option maxHeartbeats 4000000 in
theorem ref13_shaded (x c : Int) (hx : 0 ≤ x ∧ x < 18446744073709551616) (hc : 0 ≤ c ∧ c ≤ 255) (w : World) :
    Calls Try.prog 29 #[.int .u64 x, .int .u8 c] w fun e w' => e = .returned (.tuple #[.int .u64 (if tellOf x c = 1 then turnedOf x c true else x), .bool (decide (tellOf x c = 1 ∨ tellOf x c = 2))]) ∧ Keep [] w w' := by
  refine calls_abs fun R hR => ?_
  go_enter Try.func29, Try.ntmps29
  go_wp2_with fail
  refine (ref13_tell x c hx w).mono ?_
  rintro e w2 ⟨rfl, K2⟩
  have HK2 := Lib.hid K2; clear K2
  by_cases q : tellOf x c = 1
  · rw [turnedOf_white q] at hR
    rw [q] at hR ⊢
    go_wp2_with fail
    refine (ref01_take x hx w2).mono ?_
    rintro e w3 ⟨rfl, K3⟩
    have HU := Lib.hid (turnedH_u8 x c true hx.1 hc)
    unfold turnedH at hR HU
    generalize takeH x = h at *
    obtain ⟨kind, colour, grey, marked, owner, refs, size⟩ := h
    unfold Hd.val
    dsimp only at hR HU ⊢
    generalize (if isHd x = true then (0 : Int) else 3) = er
    have HK3 := Lib.hid K3; clear K3
    go_wp2_with fail
    refine (ref01_word ⟨kind, c, true, marked, owner, refs, size⟩ HU.out _).mono ?_
    rintro e w4 ⟨rfl, K4⟩
    have HK4 := Lib.hid K4; clear K4
    generalize (Hd.mk kind c true marked owner refs size).word = pw at hR ⊢
    go_wp2_with fail
    refine hR.out _ _ ⟨by simp, HK2.out.trans (Keep.trans ?_ HK4.out)⟩
    ((repeat (first | (with_reducible exact HK3.out) | (with_reducible refine Keep.drew ?_) | (with_reducible refine Keep.drewN ?_ _) | (with_reducible refine Keep.alloc ?_ _) | ((with_reducible refine Keep.setCell ?_ ?_ _); rotate_left; focus (first | (simp; done) | (simp; omega) | (left; dsimp only; omega))))); done)
  · have q1 : (tellOf x c == 1) = false := by simp [q]
    have q2 : (tellOf x c != 1) = true := by simp [q]
    have q3 : (tellOf x c == 2) = decide (tellOf x c = 1 ∨ tellOf x c = 2) := by rw [Bool.eq_iff_iff]; simp [q]
    rw [if_neg q] at hR
    go_wp2_with fail
    exact hR.out _ _ ⟨by simp [q]; done, HK2.out⟩

set_option maxRecDepth 100000 in
set_option maxHeartbeats 4000000 in
theorem ref13_blackened (x : Int) (hx : 0 ≤ x ∧ x < 18446744073709551616) (w : World) :
    Calls Try.prog 31 #[.int .u64 x] w fun e w' => e = .returned (.int .u64 (blackOf x)) ∧ Keep [] w w' := by
  refine calls_abs fun R hR => ?_
  go_enter Try.func31, Try.ntmps31
  go_wp2_with fail
  refine (ref01_take x hx w).mono ?_
  rintro e w2 ⟨rfl, K2⟩
  have HK2 := Lib.hid K2; clear K2
  cases hi : isHd x with
  | false =>
    rw [show takeH x = Hd.zero from by simp [takeH, hi]]
    unfold Hd.val Hd.zero
    go_wp2_with fail
    exact hR.out _ _ ⟨by simp [blackOf, hi], by ((repeat (first | (with_reducible exact HK2.out) | (with_reducible refine Keep.drew ?_) | (with_reducible refine Keep.drewN ?_ _) | (with_reducible refine Keep.alloc ?_ _) | ((with_reducible refine Keep.setCell ?_ ?_ _); rotate_left; focus (first | (simp; done) | (simp; omega) | (left; dsimp only; omega))))); done)⟩
  | true =>
    rw [show takeH x = hdOf x from by simp [takeH, hi]]
    by_cases q1 : (hdOf x).kind = 3
    · have hb : blackOf x = ({ hdOf x with grey := false } : Hd).word := by rw [← turnedOf_black hi q1]; simp [blackOf, hi, q1]
      rw [hb] at hR
      have HU : Hid (({ hdOf x with grey := false } : Hd).u8) := hdOf_u8 x hx.1
      clear hb
      generalize hdOf x = h at *
      obtain ⟨kind, colour, grey, marked, owner, refs, size⟩ := h
      unfold Hd.val
      dsimp only at hR HU q1 ⊢
      subst q1
      go_wp2_with fail
      refine (ref01_word ⟨3, colour, false, marked, owner, refs, size⟩ HU.out _).mono ?_
      rintro e w3 ⟨rfl, K3⟩
      have HK3 := Lib.hid K3; clear K3
      generalize (Hd.mk 3 colour false marked owner refs size).word = pw at hR ⊢
      go_wp2_with fail
      refine hR.out _ _ ⟨by simp, Keep.trans ?_ HK3.out⟩
      ((repeat (first | (with_reducible exact HK2.out) | (with_reducible refine Keep.drew ?_) | (with_reducible refine Keep.drewN ?_ _) | (with_reducible refine Keep.alloc ?_ _) | ((with_reducible refine Keep.setCell ?_ ?_ _); rotate_left; focus (first | (simp; done) | (simp; omega) | (left; dsimp only; omega))))); done)
    · unfold Hd.val
      have q1' : ((hdOf x).kind == 3) = false := by simp [q1]
      have q1'' : ((hdOf x).kind != 3) = true := by simp [q1]
      go_wp2_with fail
      exact hR.out _ _ ⟨by simp [blackOf, hi, q1], by ((repeat (first | (with_reducible exact HK2.out) | (with_reducible refine Keep.drew ?_) | (with_reducible refine Keep.drewN ?_ _) | (with_reducible refine Keep.alloc ?_ _) | ((with_reducible refine Keep.setCell ?_ ?_ _); rotate_left; focus (first | (simp; done) | (simp; omega) | (left; dsimp only; omega))))); done)⟩
end Go.Proofs.Ytnadiddaeolanaa
