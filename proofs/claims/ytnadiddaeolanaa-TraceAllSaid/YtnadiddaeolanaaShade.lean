/- The contracts of package shade: the functions of words. -/
import Derived.Test.YtnadiddaeolanaaWord3
namespace Go.Proofs.Ytnadiddaeolanaa
open Go.RowKit
set_option linter.unusedVariables false
set_option linter.unusedSimpArgs false

def tellOf (x c : Int) : Int := if isHd x = true ∧ (hdOf x).kind = 3 ∧ c ≤ 1 then (if (hdOf x).colour = c then (if (hdOf x).grey then 2 else 3) else 1) else 0
def turnedH (x c : Int) (g : Bool) : Hd := { takeH x with colour := c, grey := g }
def turnedOf (x c : Int) (g : Bool) : Int := if (turnedH x c g).may then (turnedH x c g).word else 0
def blackOf (x : Int) : Int := if isHd x = true ∧ (hdOf x).kind = 3 then turnedOf x (hdOf x).colour false else x

theorem takeH_u8 (x : Int) (hx : 0 ≤ x) : (takeH x).u8 := by
  unfold takeH
  split
  · exact hdOf_u8 x hx
  · exact ⟨⟨by decide, by decide⟩, ⟨by decide, by decide⟩, ⟨by decide, by decide⟩, ⟨by decide, by decide⟩, ⟨by decide, by decide⟩⟩
theorem turnedH_u8 (x c : Int) (g : Bool) (hx : 0 ≤ x) (hc : 0 ≤ c ∧ c ≤ 255) : (turnedH x c g).u8 := by
  obtain ⟨h1, h2, h3, h4, h5⟩ := takeH_u8 x hx
  exact ⟨h1, hc, h3, h4, h5⟩

set_option maxRecDepth 100000 in
set_option maxHeartbeats 4000000 in
theorem shade_tell (x c : Int) (hx : 0 ≤ x ∧ x < 18446744073709551616) (w : World) :
    Calls Try.prog 25 #[.int .u64 x, .int .u8 c] w fun e w' => e = .returned (.int .u8 (tellOf x c)) ∧ Keep [] w w' := by
  refine calls_abs fun R hR => ?_
  go_enter Try.func25, Try.ntmps25
  go_wp2_with fail
  refine (word_take x hx w).mono ?_
  rintro e w2 ⟨rfl, K2⟩
  have HK2 := Lib.hid K2; clear K2
  cases hi : isHd x with
  | false =>
    rw [show takeH x = Hd.zero from by simp [takeH, hi]]
    unfold Hd.val Hd.zero
    go_wp2_with fail
    exact hR.out _ _ ⟨by simp [tellOf, hi], by ((repeat (first | (with_reducible exact HK2.out) | (with_reducible refine Keep.drew ?_) | (with_reducible refine Keep.drewN ?_ _) | (with_reducible refine Keep.alloc ?_ _) | ((with_reducible refine Keep.setCell ?_ ?_ _); rotate_left; focus (first | (simp; done) | (simp; omega) | (left; dsimp only; omega))))); done)⟩
  | true =>
    rw [show takeH x = hdOf x from by simp [takeH, hi]]
    unfold Hd.val
    have hd : tellOf x c = if (hdOf x).kind = 3 ∧ c ≤ 1 then (if (hdOf x).colour = c then (if (hdOf x).grey then 2 else 3) else 1) else 0 := by simp [tellOf, hi]
    rw [hd] at hR
    clear hd
    generalize hdOf x = h at *
    obtain ⟨kind, colour, grey, marked, owner, refs, size⟩ := h
    dsimp only at hR ⊢
    by_cases q1 : kind = 3
    · have q1' : (kind == 3) = true := by simp [q1]
      have q1'' : (kind != 3) = false := by simp [q1]
      by_cases q2 : 1 < c
      · go_wp2_with fail
        exact hR.out _ _ ⟨by simp [show ¬ c ≤ 1 from by omega], by ((repeat (first | (with_reducible exact HK2.out) | (with_reducible refine Keep.drew ?_) | (with_reducible refine Keep.drewN ?_ _) | (with_reducible refine Keep.alloc ?_ _) | ((with_reducible refine Keep.setCell ?_ ?_ _); rotate_left; focus (first | (simp; done) | (simp; omega) | (left; dsimp only; omega))))); done)⟩
      · by_cases q3 : colour = c
        · have q3' : (colour == c) = true := by simp [q3]
          have q3'' : (colour != c) = false := by simp [q3]
          cases grey with
          | true =>
            go_wp2_with fail
            exact hR.out _ _ ⟨by simp [show c ≤ 1 from by omega, q1, q3], by ((repeat (first | (with_reducible exact HK2.out) | (with_reducible refine Keep.drew ?_) | (with_reducible refine Keep.drewN ?_ _) | (with_reducible refine Keep.alloc ?_ _) | ((with_reducible refine Keep.setCell ?_ ?_ _); rotate_left; focus (first | (simp; done) | (simp; omega) | (left; dsimp only; omega))))); done)⟩
          | false =>
            go_wp2_with fail
            exact hR.out _ _ ⟨by simp [show c ≤ 1 from by omega, q1, q3], by ((repeat (first | (with_reducible exact HK2.out) | (with_reducible refine Keep.drew ?_) | (with_reducible refine Keep.drewN ?_ _) | (with_reducible refine Keep.alloc ?_ _) | ((with_reducible refine Keep.setCell ?_ ?_ _); rotate_left; focus (first | (simp; done) | (simp; omega) | (left; dsimp only; omega))))); done)⟩
        · have q3' : (colour == c) = false := by simp [q3]
          have q3'' : (colour != c) = true := by simp [q3]
          go_wp2_with fail
          exact hR.out _ _ ⟨by simp [show c ≤ 1 from by omega, q1, q3], by ((repeat (first | (with_reducible exact HK2.out) | (with_reducible refine Keep.drew ?_) | (with_reducible refine Keep.drewN ?_ _) | (with_reducible refine Keep.alloc ?_ _) | ((with_reducible refine Keep.setCell ?_ ?_ _); rotate_left; focus (first | (simp; done) | (simp; omega) | (left; dsimp only; omega))))); done)⟩
    · have q1' : (kind == 3) = false := by simp [q1]
      have q1'' : (kind != 3) = true := by simp [q1]
      go_wp2_with fail
      exact hR.out _ _ ⟨by simp [q1], by ((repeat (first | (with_reducible exact HK2.out) | (with_reducible refine Keep.drew ?_) | (with_reducible refine Keep.drewN ?_ _) | (with_reducible refine Keep.alloc ?_ _) | ((with_reducible refine Keep.setCell ?_ ?_ _); rotate_left; focus (first | (simp; done) | (simp; omega) | (left; dsimp only; omega))))); done)⟩

set_option maxRecDepth 100000 in
set_option maxHeartbeats 4000000 in
theorem shade_turned (x c : Int) (g : Bool) (hx : 0 ≤ x ∧ x < 18446744073709551616) (hc : 0 ≤ c ∧ c ≤ 255) (w : World) :
    Calls Try.prog 76 #[.int .u64 x, .int .u8 c, .bool g] w fun e w' => e = .returned (.int .u64 (turnedOf x c g)) ∧ Keep [] w w' := by
  refine calls_abs fun R hR => ?_
  go_enter Try.func76, Try.ntmps76
  go_wp2_with fail
  refine (word_take x hx w).mono ?_
  rintro e w2 ⟨rfl, K2⟩
  have HK2 := Lib.hid K2; clear K2
  have hu := turnedH_u8 x c g hx.1 hc
  have HU := Lib.hid hu
  have hd : turnedOf x c g = if (turnedH x c g).may then (turnedH x c g).word else 0 := rfl
  rw [hd] at hR
  unfold turnedH at hR HU
  clear hd hu
  generalize takeH x = h at *
  obtain ⟨kind, colour, grey, marked, owner, refs, size⟩ := h
  unfold Hd.val
  dsimp only at hR HU ⊢
  generalize (if isHd x = true then (0 : Int) else 3) = er
  go_wp2_with fail
  refine (word_put ⟨kind, c, g, marked, owner, refs, size⟩ HU.out _).mono ?_
  rintro e w3 ⟨rfl, K3⟩
  have HK3 := Lib.hid K3; clear K3
  generalize (if (Hd.mk kind c g marked owner refs size).may = true then (Hd.mk kind c g marked owner refs size).word else 0) = pw at hR ⊢
  generalize (if (Hd.mk kind c g marked owner refs size).may = true then (0 : Int) else 2) = pe
  go_wp2_with fail
  refine hR.out _ _ ⟨by simp, Keep.trans ?_ HK3.out⟩
  ((repeat (first | (with_reducible exact HK2.out) | (with_reducible refine Keep.drew ?_) | (with_reducible refine Keep.drewN ?_ _) | (with_reducible refine Keep.alloc ?_ _) | ((with_reducible refine Keep.setCell ?_ ?_ _); rotate_left; focus (first | (simp; done) | (simp; omega) | (left; dsimp only; omega))))); done)

set_option maxRecDepth 100000 in
set_option maxHeartbeats 4000000 in
theorem shade_fn (x c : Int) (hx : 0 ≤ x ∧ x < 18446744073709551616) (hc : 0 ≤ c ∧ c ≤ 255) (b : Nat) (w : World) (hb : w.heap[b]? = some (.cells #[.int .u8 c] 5 (0, 0))) :
    Calls Try.prog 77 #[.int .u64 x, .pointer (some ⟨b, 0, none⟩)] w fun e w' => e = .returned (.int .u64 (if tellOf x c = 1 then turnedOf x c true else x)) ∧ Keep [] w w' := by
  refine calls_abs fun R hR => ?_
  have c1 := cell_at hb
  go_enter Try.func77, Try.ntmps77
  go_wp2_with fail
  refine (shade_tell x c hx w).mono ?_
  rintro e w2 ⟨rfl, K2⟩
  have c2 := cell_at (K2.get hb (by simp))
  have HK2 := Lib.hid K2; clear K2
  by_cases q : tellOf x c = 1
  · rw [q] at hR ⊢
    go_wp2_with fail
    refine (shade_turned x c true hx hc w2).mono ?_
    rintro e w3 ⟨rfl, K3⟩
    have HK3 := Lib.hid K3; clear K3
    go_wp2_with fail
    exact hR.out _ _ ⟨by simp, HK2.out.trans HK3.out⟩
  · have q1 : (tellOf x c == 1) = false := by simp [q]
    have q2 : (tellOf x c != 1) = true := by simp [q]
    go_wp2_with fail
    exact hR.out _ _ ⟨by simp [q], HK2.out⟩

set_option maxRecDepth 100000 in
set_option maxHeartbeats 4000000 in
theorem shade_black_fn (x : Int) (hx : 0 ≤ x ∧ x < 18446744073709551616) (w : World) :
    Calls Try.prog 75 #[.int .u64 x] w fun e w' => e = .returned (.int .u64 (blackOf x)) ∧ Keep [] w w' := by
  refine calls_abs fun R hR => ?_
  go_enter Try.func75, Try.ntmps75
  go_wp2_with fail
  refine (word_take x hx w).mono ?_
  rintro e w2 ⟨rfl, K2⟩
  have HK2 := Lib.hid K2; clear K2
  cases hi : isHd x with
  | false =>
    rw [show takeH x = Hd.zero from by simp [takeH, hi]]
    unfold Hd.val Hd.zero
    go_wp2_with fail
    exact hR.out _ _ ⟨by simp [blackOf, hi], by ((repeat (first | (with_reducible exact HK2.out) | (with_reducible refine Keep.drew ?_) | (with_reducible refine Keep.drewN ?_ _) | (with_reducible refine Keep.alloc ?_ _) | ((with_reducible refine Keep.setCell ?_ ?_ _); rotate_left; focus (first | (simp; done) | (simp; omega) | (left; dsimp only; omega))))); done)⟩
  | true =>
    rw [show takeH x = hdOf x from by simp [takeH, hi]]
    unfold Hd.val
    by_cases q1 : (hdOf x).kind = 3
    · have q1' : ((hdOf x).kind == 3) = true := by simp [q1]
      have q1'' : ((hdOf x).kind != 3) = false := by simp [q1]
      go_wp2_with fail
      refine (shade_turned x (hdOf x).colour false hx (hdOf_u8 x hx.1).2.1 _).mono ?_
      rintro e w3 ⟨rfl, K3⟩
      have HK3 := Lib.hid K3; clear K3
      go_wp2_with fail
      refine hR.out _ _ ⟨by simp [blackOf, hi, q1], Keep.trans ?_ HK3.out⟩
      ((repeat (first | (with_reducible exact HK2.out) | (with_reducible refine Keep.drew ?_) | (with_reducible refine Keep.drewN ?_ _) | (with_reducible refine Keep.alloc ?_ _) | ((with_reducible refine Keep.setCell ?_ ?_ _); rotate_left; focus (first | (simp; done) | (simp; omega) | (left; dsimp only; omega))))); done)
    · have q1' : ((hdOf x).kind == 3) = false := by simp [q1]
      have q1'' : ((hdOf x).kind != 3) = true := by simp [q1]
      go_wp2_with fail
      exact hR.out _ _ ⟨by simp [blackOf, hi, q1], by ((repeat (first | (with_reducible exact HK2.out) | (with_reducible refine Keep.drew ?_) | (with_reducible refine Keep.drewN ?_ _) | (with_reducible refine Keep.alloc ?_ _) | ((with_reducible refine Keep.setCell ?_ ?_ _); rotate_left; focus (first | (simp; done) | (simp; omega) | (left; dsimp only; omega))))); done)⟩
end Go.Proofs.Ytnadiddaeolanaa
