/- The laws of stage 13: wakes; ShadeNil. -/
import Derived.Test.YtnadiddaeolanaaRef13
import Derived.Test.YtnadiddaeolanaaShade2
import Derived.Test.YtnadiddaeolanaaOpen
namespace Go.Proofs.Ytnadiddaeolanaa
open Go.RowKit
set_option linter.unusedVariables false
set_option linter.unusedSimpArgs false

theorem words_one {x : Int} (h : 0 ≤ x ∧ x < 18446744073709551616) : Words [x] := fun j => by
  cases hi : inr [x].length j with
  | false => rw [rdz_out hi]; decide
  | true =>
    obtain ⟨i, rfl, hlt⟩ := inr_true hi
    obtain rfl : i = 0 := by simp at hlt; omega
    exact h

set_option maxRecDepth 100000 in
set_option maxHeartbeats 4000000 in
theorem law13_wakes (w : World) :
    Calls Try.prog 20 #[] w fun e w' => e = .returned (.bool true) ∧ Keep [] w w' := by
  refine calls_abs fun R hR => ?_
  go_enter Try.func20, Try.ntmps20
  go_wp2_with fail
  refine (arena_new 1 1 rfl (by omega) (by omega) _).mono ?_
  rintro e w1 ⟨b, g, rfl, A1, K1, hb, hg⟩
  have HA1 := Lib.hid A1; have HK1 := Lib.hid K1; have HB := Lib.hid hb; have HG := Lib.hid hg; clear A1 K1 hb hg
  go_wp2_with fail
  refine (word_put ⟨3, 0, false, false, 0, 0, 1⟩ ⟨⟨by decide, by decide⟩, ⟨by decide, by decide⟩, ⟨by decide, by decide⟩, ⟨by decide, by decide⟩, ⟨by decide, by decide⟩⟩ _).mono ?_
  rintro e w2 ⟨rfl, K2⟩
  have hp : (if (Hd.mk 3 0 false false 0 0 1).may = true then (Hd.mk 3 0 false false 0 0 1).word else 0) = 262147 := by decide
  have hp2 : (if (Hd.mk 3 0 false false 0 0 1).may = true then (0 : Int) else 2) = 0 := by decide
  rw [hp, hp2]
  have HA2 := Lib.hid (HA1.out.keep K2 (by simp) (by simp))
  have HK2 := Lib.hid (HK1.out.trans K2)
  clear hp hp2 K2
  go_wp2_with fail
  refine (arena_write HA2.out 0 0 rfl (by simp) 262147).mono ?_
  rintro e w3 ⟨rfl, A3, K3⟩
  have HA3 : Hid (Arn w3 b g [262147] _ _) := A3
  have HK3 := Lib.hid (HK2.out.fresh K3 (by have := HB.out; have := HG.out; simp; omega))
  clear A3 K3
  go_wp2_with fail
  refine (shade_shade HA3.out (words_one (by decide)) 0 1 (by omega) (by omega)).mono ?_
  rintro e w4 ⟨rfl, A4, K4⟩
  have HA4 : Hid (Arn w4 b g [262159] _ _) := A4
  have HK4 := Lib.hid (HK3.out.fresh K4 (by have := HB.out; have := HG.out; simp; omega))
  rw [show (decide (tellOf (rdz [262147] 0) 1 = 1 ∨ tellOf (rdz [262147] 0) 1 = 2)) = true from by decide]
  clear A4 K4
  go_wp2_with fail
  refine (shade_shade HA4.out (words_one (by decide)) 0 1 (by omega) (by omega)).mono ?_
  rintro e w5 ⟨rfl, A5, K5⟩
  have HA5 : Hid (Arn w5 b g [262159] _ _) := A5
  have HK5 := Lib.hid (HK4.out.fresh K5 (by have := HB.out; have := HG.out; simp; omega))
  rw [show (decide (tellOf (rdz [262159] 0) 1 = 1 ∨ tellOf (rdz [262159] 0) 1 = 2)) = true from by decide]
  clear A5 K5
  go_wp2_with fail
  refine (shade_blacken HA5.out (words_one (by decide)) 0).mono ?_
  rintro e w6 ⟨rfl, A6, K6⟩
  have HA6 : Hid (Arn w6 b g [262151] _ _) := A6
  have HK6 := Lib.hid (HK5.out.fresh K6 (by have := HB.out; have := HG.out; simp; omega))
  clear A6 K6
  go_wp2_with fail
  refine (shade_shade HA6.out (words_one (by decide)) 0 1 (by omega) (by omega)).mono ?_
  rintro e w7 ⟨rfl, A7, K7⟩
  have HA7 : Hid (Arn w7 b g [262151] _ _) := A7
  have HK7 := Lib.hid (HK6.out.fresh K7 (by have := HB.out; have := HG.out; simp; omega))
  rw [show (decide (tellOf (rdz [262151] 0) 1 = 1 ∨ tellOf (rdz [262151] 0) 1 = 2)) = false from by decide]
  clear A7 K7
  go_wp2_with fail
  refine (arena_read HA7.out 0 0 rfl (by simp)).mono ?_
  rintro e w8 ⟨rfl, A8, K8⟩
  have HK8 := Lib.hid (HK7.out.fresh K8 (by have := HB.out; have := HG.out; simp; omega))
  clear A8 K8
  go_wp2_with fail
  refine (word_take 262151 (by decide) _).mono ?_
  rintro e w9 ⟨rfl, K9⟩
  rw [show (takeH 262151).val = .agg #[.int .u8 3, .int .u8 1, .bool false, .bool false, .int .u8 0, .int .u8 0, .int .u8 1] from by kernel_rfl, show (if isHd 262151 = true then (0 : Int) else 3) = 0 from by decide]
  have HK9 := Lib.hid (HK8.out.trans K9)
  clear K9
  go_wp2_with fail
  refine (shade_tell 262147 1 (by decide) _).mono ?_
  rintro e w10 ⟨rfl, K10⟩
  rw [show tellOf 262147 1 = 1 from by decide]
  have HK10 := Lib.hid K10
  clear K10
  go_wp2_with fail
  refine hR.out _ _ ⟨rfl, Keep.trans ?_ HK10.out⟩
  ((repeat (first | (with_reducible exact HK9.out) | (with_reducible refine Keep.drew ?_) | (with_reducible refine Keep.drewN ?_ _) | (with_reducible refine Keep.alloc ?_ _) | ((with_reducible refine Keep.setCell ?_ ?_ _); rotate_left; focus (first | (simp; done) | (simp; omega) | (left; dsimp only; omega))))); done)

set_option maxRecDepth 100000 in
theorem shade_nil_law (n c : Int) (w : World) :
    Calls Try.prog 4 #[.int .i64 n, .int .u8 c] w fun e w' => e = .returned (.bool true) ∧ Keep [] w w' := by
  refine calls_abs fun R hR => ?_
  go_enter Try.func4, Try.ntmps4
  go_wp2_with fail
  refine (shade_blacken_nil n w).mono ?_
  rintro e w1 ⟨rfl, rfl⟩
  go_wp2_with fail
  refine (shade_shade_nil n c w1).mono ?_
  rintro e w2 ⟨rfl, K2⟩
  go_wp2_with fail
  refine (law13_wakes w2).mono ?_
  rintro e w3 ⟨rfl, K3⟩
  go_wp2_with fail
  exact hR.out _ _ ⟨rfl, K2.trans K3⟩
end Go.Proofs.Ytnadiddaeolanaa
