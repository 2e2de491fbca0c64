/- The walk of ShadeTells. -/
import Derived.Test.YtnadiddaeolanaaLaw13
import Derived.OpenShut
import Derived.Deep.DeepCutAuto
import Derived.Deep.CutBlock
namespace Go.Proofs.Ytnadiddaeolanaa
open Go.RowKit Go.ChangeShapes Go.WideShapes
set_option linter.unusedVariables false
set_option linter.unusedSimpArgs false

theorem word_bounds {h : Hd} (hu : h.u8) (hm : h.may = true) : 0 ≤ h.word ∧ h.word < 18446744073709551616 := by
  obtain ⟨b1, b2, b3, b4, b5⟩ := Hd.may_bounds hm
  obtain ⟨h1, h2, h3, h4, h5⟩ := hu
  unfold Hd.word
  split <;> split <;> omega
theorem turnedOf_bounds (x c : Int) (g : Bool) (hx : 0 ≤ x) (hc : 0 ≤ c ∧ c ≤ 255) : 0 ≤ turnedOf x c g ∧ turnedOf x c g < 18446744073709551616 := by
  unfold turnedOf
  split
  · rename_i hm; exact word_bounds (turnedH_u8 x c g hx hc) hm
  · decide
theorem shadeOf_bounds (x c : Int) (hx : 0 ≤ x ∧ x < 18446744073709551616) (hc : 0 ≤ c ∧ c ≤ 255) : 0 ≤ shadeOf x c ∧ shadeOf x c < 18446744073709551616 := by
  unfold shadeOf
  split
  · exact turnedOf_bounds x c true hx.1 hc
  · exact hx
theorem words_mid {x : Int} (h : 0 ≤ x ∧ x < 18446744073709551616) : Words [0, x, 0] := fun j => by
  cases hi : inr [0, x, 0].length j with
  | false => rw [rdz_out hi]; decide
  | true =>
    obtain ⟨i, rfl, hlt⟩ := inr_true hi
    have : i = 0 ∨ i = 1 ∨ i = 2 := by simp at hlt; omega
    rcases this with rfl | rfl | rfl
    · exact (by decide : (0 : Int) ≤ 0 ∧ (0 : Int) < 18446744073709551616)
    · exact h
    · exact (by decide : (0 : Int) ≤ 0 ∧ (0 : Int) < 18446744073709551616)

theorem tell_zero (c : Int) : tellOf 0 c = 0 := by simp [tellOf, show (hdOf 0).kind = 0 from by decide]
theorem black_zero : blackOf 0 = 0 := by decide
theorem shade_zero (c : Int) : shadeOf 0 c = 0 := by simp [shadeOf, tell_zero]

/-- Of a place other than the middle one there is nothing but zeros. -/
theorem mid_other {x n : Int} (hn : n ≠ 1) : rdz [0, x, 0] n = 0 ∧ putz [0, x, 0] n 0 = [0, x, 0] := by
  cases hi : inr [0, x, 0].length n with
  | false => exact ⟨rdz_out hi, by unfold putz; rw [hi]; simp⟩
  | true =>
    obtain ⟨i, rfl, hlt⟩ := inr_true hi
    have : i = 0 ∨ i = 1 ∨ i = 2 := by simp at hlt; omega
    rcases this with rfl | rfl | rfl
    · exact ⟨rfl, rfl⟩
    · exact absurd rfl hn
    · exact ⟨rfl, rfl⟩

def gotOf (x c n : Int) : Bool := decide (n = 1 ∧ (tellOf x c = 1 ∨ tellOf x c = 2))
def leftOf (x c n : Int) : Int := if n = 1 then shadeOf x c else x
def touchesOf (x c n : Int) : Int := if c ≤ 1 ∧ 0 ≤ n ∧ n < 3 then (if n = 1 ∧ tellOf x c = 1 then 2 else 1) else 0

theorem tell_high {x c : Int} (hc : ¬ c ≤ 1) : tellOf x c = 0 := by simp [tellOf, hc]

set_option maxRecDepth 100000 in
/-- Shade at whatever place of three words, with whatever colour. -/
theorem shade_case {w : World} {b g : Nat} {x l : Int} (h : Arn w b g [0, x, 0] 1 l) (hx : 0 ≤ x ∧ x < 18446744073709551616) (n c : Int) (hc : 0 ≤ c) :
    Calls Try.prog 19 #[.iface 25 (.pointer (some ⟨b, 0, none⟩)), .int .i64 n, .int .u8 c] w fun e w' => e = .returned (.bool (gotOf x c n)) ∧
      (∃ l', Arn w' b g [0, leftOf x c n, 0] (1 + touchesOf x c n) l') ∧ Keep [b, g] w w' := by
  by_cases h1 : c ≤ 1
  · refine (shade_shade h (words_mid hx) n c hc h1).mono ?_
    rintro e w' ⟨rfl, A, K⟩
    by_cases h2 : n = 1
    · subst h2
      have e1 : rdz [0, x, 0] 1 = x := rfl
      have e2 : ∀ v, putz [0, x, 0] 1 v = [0, v, 0] := fun v => rfl
      rw [e1, e2] at A
      rw [e1]
      refine ⟨by simp [gotOf], ⟨lz [0, x, 0].length 1 l, ?_⟩, K⟩
      have e3 : (if tellOf x c = 1 then tz [0, x, 0].length 1 (tz [0, x, 0].length 1 1) else tz [0, x, 0].length 1 1) = 1 + touchesOf x c 1 := by
        have t1 : tz [0, x, 0].length 1 (tz [0, x, 0].length 1 1) = 3 := rfl
        have t2 : tz [0, x, 0].length 1 1 = 2 := rfl
        rw [t1, t2]
        unfold touchesOf
        by_cases q : tellOf x c = 1 <;> simp [q, h1]
      rw [← e3]
      exact A
    · obtain ⟨e1, e2⟩ := mid_other (x := x) h2
      rw [e1, shade_zero, e2, tell_zero] at A
      rw [e1, tell_zero]
      refine ⟨by simp [gotOf, h2], ⟨lz [0, x, 0].length n l, ?_⟩, K⟩
      have e3 : tz [0, x, 0].length n 1 = 1 + touchesOf x c n := by
        unfold touchesOf tz
        by_cases q : 0 ≤ n ∧ n < 3
        · rw [if_pos (by simp [inr]; omega), if_pos ⟨h1, q.1, q.2⟩, if_neg (by simp [h2])]
          decide
        · rw [if_neg (by simp [inr]; omega), if_neg (by omega)]
          decide
      rw [← e3]
      simpa [leftOf, h2] using A
  · refine (shade_shade_high (.pointer (some ⟨b, 0, none⟩)) n c (by omega) w).mono ?_
    rintro e w' ⟨rfl, K⟩
    refine ⟨by simp [gotOf, tell_high h1], ⟨l, ?_⟩, K.mono (by simp)⟩
    have := h.keep K (by simp) (by simp)
    simpa [touchesOf, h1, leftOf, shadeOf, tell_high h1] using this

set_option maxRecDepth 100000 in
set_option maxHeartbeats 4000000 in
theorem shade_tells_law (x c n : Int) (hx : 0 ≤ x ∧ x < 18446744073709551616) (hc : 0 ≤ c ∧ c ≤ 255) (w : World) :
    Calls Try.prog 6 #[.int .u64 x, .int .u8 c, .int .i64 n] w fun e w' => e = .returned (.bool true) ∧ Keep [] w w' := by
  refine calls_abs fun R hR => ?_
  go_enter Try.func6, Try.ntmps6
  go_wp2_with fail
  refine (shade_tell x c hx w).mono ?_
  rintro e w1 ⟨rfl, K1⟩
  have HK1 := Lib.hid K1; clear K1
  go_wp2_with fail
  refine (ref13_tell x c hx w1).mono ?_
  rintro e w2 ⟨rfl, K2⟩
  have HK2 := Lib.hid (HK1.out.trans K2); clear K2
  go_wp2_with fail
  refine (arena_new 3 3 rfl (by omega) (by omega) _).mono ?_
  rintro e w3 ⟨b, g, rfl, A3, K3, hb, hg⟩
  have HA3 := Lib.hid A3
  have HK3 := Lib.hid (HK2.out.trans K3)
  have HB : Hid (w.heap.size ≤ b) := Nat.le_trans HK2.out.size hb
  have HG : Hid (w.heap.size ≤ g) := Nat.le_trans HK2.out.size hg
  clear A3 K3 hb hg
  go_wp2_with fail
  refine (arena_write HA3.out 1 1 rfl (by simp) x).mono ?_
  rintro e w4 ⟨rfl, A4, K4⟩
  have HA4 : Hid (Arn w4 b g [0, x, 0] 1 1) := A4
  have HK4 := Lib.hid (HK3.out.fresh K4 (by have := HB.out; have := HG.out; simp; omega))
  clear A4 K4
  go_wp2_with fail
  refine (arena_touched HA4.out).mono ?_
  rintro e w5 ⟨rfl, rfl⟩
  go_wp2_with fail
  refine (shade_case HA4.out hx n c hc.1).mono ?_
  rintro e w6 ⟨rfl, ⟨l6, A6⟩, K6⟩
  have HA6 := Lib.hid A6
  have HK6 := Lib.hid (HK4.out.fresh K6 (by have := HB.out; have := HG.out; simp; omega))
  have htb : 0 ≤ touchesOf x c n ∧ touchesOf x c n ≤ 2 := by unfold touchesOf; split <;> (try split) <;> omega
  have hsub : IntKind.u64.wrap (1 + touchesOf x c n - 1) = touchesOf x c n := by rw [IntKind.wrap_u64]; omega
  clear A6 K6
  go_wp2_with fail
  refine (arena_touched HA6.out).mono ?_
  rintro e w7 ⟨rfl, rfl⟩
  go_upto_if 47 with (fail)
  go_cut [12, 13] (fun want is wx => want = .int .u64 (leftOf x c n) ∧ is = .bool (gotOf x c n) ∧ Keep [] w7 wx)
  case first =>
    by_cases hn : n = 1
    · have hn1 : (n == 1) = true := by simp [hn]
      go_wp2_with fail
      refine (ref13_shaded x c hx hc w7).mono ?_
      rintro e w8 ⟨rfl, K8⟩
      have HK8 := Lib.hid K8; clear K8
      rw [show (if tellOf x c = 1 then turnedOf x c true else x) = leftOf x c n from by simp [leftOf, hn, shadeOf], show decide (tellOf x c = 1 ∨ tellOf x c = 2) = gotOf x c n from by simp [gotOf, hn]]
      clear hn
      go_wp2_with fail
      go_meet
      case rel => exact ⟨rfl, rfl, HK8.out⟩
    · have hn1 : (n == 1) = false := by simp [hn]
      go_wp2_with fail
      refine (ref13_shaded 0 c (by decide) hc w7).mono ?_
      rintro e w8 ⟨rfl, K8⟩
      have HK8 := Lib.hid K8; clear K8
      rw [show decide (tellOf 0 c = 1 ∨ tellOf 0 c = 2) = gotOf x c n from by simp [gotOf, hn, tell_zero]]
      generalize (if tellOf 0 c = 1 then turnedOf 0 c true else 0) = z0
      have hx1 : Hid (x = leftOf x c n) := by simp [leftOf, hn, Hid]
      clear hn
      go_wp2_with fail
      go_meet
      case rel => exact ⟨by rw [← hx1.out], rfl, HK8.out⟩
  case rest =>
    obtain ⟨rfl, rfl, hk8⟩ := hcut
    have HA8 := Lib.hid (HA6.out.keep hk8 (by simp) (by simp)); have HK8 := Lib.hid (HK6.out.trans hk8); clear hk8
    have hyb : 0 ≤ leftOf x c n ∧ leftOf x c n < 18446744073709551616 := by unfold leftOf; split; exact shadeOf_bounds x c hx hc; exact hx
    generalize hy : leftOf x c n = y at *
    generalize gotOf x c n = got at *
    by_cases hc1 : c ≤ 1
    · have c2 : c < 2 := by omega
      by_cases hn : n = 1
      · subst hn
        by_cases ht : tellOf x c = 1
        · have hto : touchesOf x c 1 = 2 := by simp [touchesOf, hc1, ht]
          rw [hto] at HA8 ⊢
          have ht1 : (tellOf x c == 1) = true := by simp [ht]
          clear ht
          go_wp2_with fail
          refine (ref13_tell x c hx _).mono ?_
          rintro e w9 ⟨rfl, K9⟩
          have HA9 := Lib.hid (HA8.out.keep K9 (by simp) (by simp)); have HK9 := Lib.hid (HK8.out.trans K9); clear K9
          go_wp2_with fail
          refine (arena_read HA9.out 1 1 rfl (by simp)).mono ?_
          rintro e w10 ⟨rfl, A10, K10⟩
          have HA10 : Hid (Arn w10 b g [0, y, 0] _ _) := A10
          have HK10 := Lib.hid (HK9.out.fresh K10 (by have := HB.out; have := HG.out; simp; omega))
          clear A10 K10
          go_wp2_with fail
          refine (arena_read HA10.out 0 0 rfl (by simp)).mono ?_
          rintro e w11 ⟨rfl, A11, K11⟩
          have HA11 : Hid (Arn w11 b g [0, y, 0] _ _) := A11
          have HK11 := Lib.hid (HK10.out.fresh K11 (by have := HB.out; have := HG.out; simp; omega))
          clear A11 K11
          go_wp2_with fail
          refine (arena_read HA11.out 2 2 rfl (by simp)).mono ?_
          rintro e w12 ⟨rfl, A12, K12⟩
          have HA12 : Hid (Arn w12 b g [0, y, 0] _ _) := A12
          have HK12 := Lib.hid (HK11.out.fresh K12 (by have := HB.out; have := HG.out; simp; omega))
          clear A12 K12
          go_wp2_with fail
          refine (shade_blacken HA12.out (words_mid hyb) 1).mono ?_
          rintro e w13 ⟨rfl, A13, K13⟩
          have HK13 := Lib.hid (HK12.out.fresh K13 (by have := HB.out; have := HG.out; simp; omega))
          clear K13
          have HA13 : Hid (Arn w13 b g [0, blackOf y, 0] _ _) := A13
          clear A13
          go_wp2_with fail
          refine (ref13_blackened y hyb w13).mono ?_
          rintro e w14 ⟨rfl, K14⟩
          have HA14 := Lib.hid (HA13.out.keep K14 (by simp) (by simp)); have HK14 := Lib.hid (HK13.out.trans K14); clear K14
          go_wp2_with fail
          refine (arena_read HA14.out 1 1 rfl (by simp)).mono ?_
          rintro e w15 ⟨rfl, A15, K15⟩
          have HK15 := Lib.hid (HK14.out.fresh K15 (by have := HB.out; have := HG.out; simp; omega))
          clear A15 K15
          go_wp2_with fail
          refine (law13_wakes _).mono ?_
          rintro e w16 ⟨rfl, K16⟩
          go_wp2_with fail
          exact hR.out _ _ ⟨rfl, HK15.out.trans K16⟩
        · have hto : touchesOf x c 1 = 1 := by simp [touchesOf, hc1, ht]
          rw [hto] at HA8 ⊢
          have ht1 : (tellOf x c == 1) = false := by simp [ht]
          clear ht
          go_wp2_with fail
          refine (ref13_tell x c hx _).mono ?_
          rintro e w9 ⟨rfl, K9⟩
          have HA9 := Lib.hid (HA8.out.keep K9 (by simp) (by simp)); have HK9 := Lib.hid (HK8.out.trans K9); clear K9
          go_wp2_with fail
          refine (arena_read HA9.out 1 1 rfl (by simp)).mono ?_
          rintro e w10 ⟨rfl, A10, K10⟩
          have HA10 : Hid (Arn w10 b g [0, y, 0] _ _) := A10
          have HK10 := Lib.hid (HK9.out.fresh K10 (by have := HB.out; have := HG.out; simp; omega))
          clear A10 K10
          go_wp2_with fail
          refine (arena_read HA10.out 0 0 rfl (by simp)).mono ?_
          rintro e w11 ⟨rfl, A11, K11⟩
          have HA11 : Hid (Arn w11 b g [0, y, 0] _ _) := A11
          have HK11 := Lib.hid (HK10.out.fresh K11 (by have := HB.out; have := HG.out; simp; omega))
          clear A11 K11
          go_wp2_with fail
          refine (arena_read HA11.out 2 2 rfl (by simp)).mono ?_
          rintro e w12 ⟨rfl, A12, K12⟩
          have HA12 : Hid (Arn w12 b g [0, y, 0] _ _) := A12
          have HK12 := Lib.hid (HK11.out.fresh K12 (by have := HB.out; have := HG.out; simp; omega))
          clear A12 K12
          go_wp2_with fail
          refine (shade_blacken HA12.out (words_mid hyb) 1).mono ?_
          rintro e w13 ⟨rfl, A13, K13⟩
          have HK13 := Lib.hid (HK12.out.fresh K13 (by have := HB.out; have := HG.out; simp; omega))
          clear K13
          have HA13 : Hid (Arn w13 b g [0, blackOf y, 0] _ _) := A13
          clear A13
          go_wp2_with fail
          refine (ref13_blackened y hyb w13).mono ?_
          rintro e w14 ⟨rfl, K14⟩
          have HA14 := Lib.hid (HA13.out.keep K14 (by simp) (by simp)); have HK14 := Lib.hid (HK13.out.trans K14); clear K14
          go_wp2_with fail
          refine (arena_read HA14.out 1 1 rfl (by simp)).mono ?_
          rintro e w15 ⟨rfl, A15, K15⟩
          have HK15 := Lib.hid (HK14.out.fresh K15 (by have := HB.out; have := HG.out; simp; omega))
          clear A15 K15
          go_wp2_with fail
          refine (law13_wakes _).mono ?_
          rintro e w16 ⟨rfl, K16⟩
          go_wp2_with fail
          exact hR.out _ _ ⟨rfl, HK15.out.trans K16⟩
      · have hn1 : (n == 1) = false := by simp [hn]
        by_cases n0 : 0 ≤ n
        · by_cases n3 : n < 3
          · have hto : touchesOf x c n = 1 := by simp [touchesOf, hc1, n0, n3, hn]
            rw [hto] at HA8 ⊢
            have HA9 := HA8; have HK9 := HK8
            go_wp2_with fail
            refine (arena_read HA9.out 1 1 rfl (by simp)).mono ?_
            rintro e w10 ⟨rfl, A10, K10⟩
            have HA10 : Hid (Arn w10 b g [0, y, 0] _ _) := A10
            have HK10 := Lib.hid (HK9.out.fresh K10 (by have := HB.out; have := HG.out; simp; omega))
            clear A10 K10
            go_wp2_with fail
            refine (arena_read HA10.out 0 0 rfl (by simp)).mono ?_
            rintro e w11 ⟨rfl, A11, K11⟩
            have HA11 : Hid (Arn w11 b g [0, y, 0] _ _) := A11
            have HK11 := Lib.hid (HK10.out.fresh K11 (by have := HB.out; have := HG.out; simp; omega))
            clear A11 K11
            go_wp2_with fail
            refine (arena_read HA11.out 2 2 rfl (by simp)).mono ?_
            rintro e w12 ⟨rfl, A12, K12⟩
            have HA12 : Hid (Arn w12 b g [0, y, 0] _ _) := A12
            have HK12 := Lib.hid (HK11.out.fresh K12 (by have := HB.out; have := HG.out; simp; omega))
            clear A12 K12
            go_wp2_with fail
            refine (shade_blacken HA12.out (words_mid hyb) n).mono ?_
            rintro e w13 ⟨rfl, A13, K13⟩
            have HK13 := Lib.hid (HK12.out.fresh K13 (by have := HB.out; have := HG.out; simp; omega))
            clear K13
            obtain ⟨q1, q2⟩ := mid_other (x := y) hn
            rw [q1, black_zero, q2] at A13
            have HA13 := Lib.hid A13
            clear A13
            go_wp2_with fail
            refine (arena_read HA13.out 1 1 rfl (by simp)).mono ?_
            rintro e w15 ⟨rfl, A15, K15⟩
            have HK15 := Lib.hid (HK13.out.fresh K15 (by have := HB.out; have := HG.out; simp; omega))
            clear A15 K15
            go_wp2_with fail
            refine (law13_wakes _).mono ?_
            rintro e w16 ⟨rfl, K16⟩
            go_wp2_with fail
            exact hR.out _ _ ⟨rfl, HK15.out.trans K16⟩
          · have hto : touchesOf x c n = 0 := by simp [touchesOf, n3]
            rw [hto] at HA8 ⊢
            have HA9 := HA8; have HK9 := HK8
            go_wp2_with fail
            refine (arena_read HA9.out 1 1 rfl (by simp)).mono ?_
            rintro e w10 ⟨rfl, A10, K10⟩
            have HA10 : Hid (Arn w10 b g [0, y, 0] _ _) := A10
            have HK10 := Lib.hid (HK9.out.fresh K10 (by have := HB.out; have := HG.out; simp; omega))
            clear A10 K10
            go_wp2_with fail
            refine (arena_read HA10.out 0 0 rfl (by simp)).mono ?_
            rintro e w11 ⟨rfl, A11, K11⟩
            have HA11 : Hid (Arn w11 b g [0, y, 0] _ _) := A11
            have HK11 := Lib.hid (HK10.out.fresh K11 (by have := HB.out; have := HG.out; simp; omega))
            clear A11 K11
            go_wp2_with fail
            refine (arena_read HA11.out 2 2 rfl (by simp)).mono ?_
            rintro e w12 ⟨rfl, A12, K12⟩
            have HA12 : Hid (Arn w12 b g [0, y, 0] _ _) := A12
            have HK12 := Lib.hid (HK11.out.fresh K12 (by have := HB.out; have := HG.out; simp; omega))
            clear A12 K12
            go_wp2_with fail
            refine (shade_blacken HA12.out (words_mid hyb) n).mono ?_
            rintro e w13 ⟨rfl, A13, K13⟩
            have HK13 := Lib.hid (HK12.out.fresh K13 (by have := HB.out; have := HG.out; simp; omega))
            clear K13
            obtain ⟨q1, q2⟩ := mid_other (x := y) hn
            rw [q1, black_zero, q2] at A13
            have HA13 := Lib.hid A13
            clear A13
            go_wp2_with fail
            refine (arena_read HA13.out 1 1 rfl (by simp)).mono ?_
            rintro e w15 ⟨rfl, A15, K15⟩
            have HK15 := Lib.hid (HK13.out.fresh K15 (by have := HB.out; have := HG.out; simp; omega))
            clear A15 K15
            go_wp2_with fail
            refine (law13_wakes _).mono ?_
            rintro e w16 ⟨rfl, K16⟩
            go_wp2_with fail
            exact hR.out _ _ ⟨rfl, HK15.out.trans K16⟩
        · have hto : touchesOf x c n = 0 := by simp [touchesOf, n0]
          rw [hto] at HA8 ⊢
          have HA9 := HA8; have HK9 := HK8
          go_wp2_with fail
          refine (arena_read HA9.out 1 1 rfl (by simp)).mono ?_
          rintro e w10 ⟨rfl, A10, K10⟩
          have HA10 : Hid (Arn w10 b g [0, y, 0] _ _) := A10
          have HK10 := Lib.hid (HK9.out.fresh K10 (by have := HB.out; have := HG.out; simp; omega))
          clear A10 K10
          go_wp2_with fail
          refine (arena_read HA10.out 0 0 rfl (by simp)).mono ?_
          rintro e w11 ⟨rfl, A11, K11⟩
          have HA11 : Hid (Arn w11 b g [0, y, 0] _ _) := A11
          have HK11 := Lib.hid (HK10.out.fresh K11 (by have := HB.out; have := HG.out; simp; omega))
          clear A11 K11
          go_wp2_with fail
          refine (arena_read HA11.out 2 2 rfl (by simp)).mono ?_
          rintro e w12 ⟨rfl, A12, K12⟩
          have HA12 : Hid (Arn w12 b g [0, y, 0] _ _) := A12
          have HK12 := Lib.hid (HK11.out.fresh K12 (by have := HB.out; have := HG.out; simp; omega))
          clear A12 K12
          go_wp2_with fail
          refine (shade_blacken HA12.out (words_mid hyb) n).mono ?_
          rintro e w13 ⟨rfl, A13, K13⟩
          have HK13 := Lib.hid (HK12.out.fresh K13 (by have := HB.out; have := HG.out; simp; omega))
          clear K13
          obtain ⟨q1, q2⟩ := mid_other (x := y) hn
          rw [q1, black_zero, q2] at A13
          have HA13 := Lib.hid A13
          clear A13
          go_wp2_with fail
          refine (arena_read HA13.out 1 1 rfl (by simp)).mono ?_
          rintro e w15 ⟨rfl, A15, K15⟩
          have HK15 := Lib.hid (HK13.out.fresh K15 (by have := HB.out; have := HG.out; simp; omega))
          clear A15 K15
          go_wp2_with fail
          refine (law13_wakes _).mono ?_
          rintro e w16 ⟨rfl, K16⟩
          go_wp2_with fail
          exact hR.out _ _ ⟨rfl, HK15.out.trans K16⟩
    · have c2 : ¬ c < 2 := by omega
      have hto : touchesOf x c n = 0 := by simp [touchesOf, hc1]
      rw [hto] at HA8 ⊢
      by_cases hn : n = 1
      · subst hn
        have HA9 := HA8; have HK9 := HK8
        go_wp2_with fail
        refine (arena_read HA9.out 1 1 rfl (by simp)).mono ?_
        rintro e w10 ⟨rfl, A10, K10⟩
        have HA10 : Hid (Arn w10 b g [0, y, 0] _ _) := A10
        have HK10 := Lib.hid (HK9.out.fresh K10 (by have := HB.out; have := HG.out; simp; omega))
        clear A10 K10
        go_wp2_with fail
        refine (arena_read HA10.out 0 0 rfl (by simp)).mono ?_
        rintro e w11 ⟨rfl, A11, K11⟩
        have HA11 : Hid (Arn w11 b g [0, y, 0] _ _) := A11
        have HK11 := Lib.hid (HK10.out.fresh K11 (by have := HB.out; have := HG.out; simp; omega))
        clear A11 K11
        go_wp2_with fail
        refine (arena_read HA11.out 2 2 rfl (by simp)).mono ?_
        rintro e w12 ⟨rfl, A12, K12⟩
        have HA12 : Hid (Arn w12 b g [0, y, 0] _ _) := A12
        have HK12 := Lib.hid (HK11.out.fresh K12 (by have := HB.out; have := HG.out; simp; omega))
        clear A12 K12
        go_wp2_with fail
        refine (shade_blacken HA12.out (words_mid hyb) 1).mono ?_
        rintro e w13 ⟨rfl, A13, K13⟩
        have HK13 := Lib.hid (HK12.out.fresh K13 (by have := HB.out; have := HG.out; simp; omega))
        clear K13
        have HA13 : Hid (Arn w13 b g [0, blackOf y, 0] _ _) := A13
        clear A13
        go_wp2_with fail
        refine (ref13_blackened y hyb w13).mono ?_
        rintro e w14 ⟨rfl, K14⟩
        have HA14 := Lib.hid (HA13.out.keep K14 (by simp) (by simp)); have HK14 := Lib.hid (HK13.out.trans K14); clear K14
        go_wp2_with fail
        refine (arena_read HA14.out 1 1 rfl (by simp)).mono ?_
        rintro e w15 ⟨rfl, A15, K15⟩
        have HK15 := Lib.hid (HK14.out.fresh K15 (by have := HB.out; have := HG.out; simp; omega))
        clear A15 K15
        go_wp2_with fail
        refine (law13_wakes _).mono ?_
        rintro e w16 ⟨rfl, K16⟩
        go_wp2_with fail
        exact hR.out _ _ ⟨rfl, HK15.out.trans K16⟩
      · have hn1 : (n == 1) = false := by simp [hn]
        have HA9 := HA8; have HK9 := HK8
        go_wp2_with fail
        refine (arena_read HA9.out 1 1 rfl (by simp)).mono ?_
        rintro e w10 ⟨rfl, A10, K10⟩
        have HA10 : Hid (Arn w10 b g [0, y, 0] _ _) := A10
        have HK10 := Lib.hid (HK9.out.fresh K10 (by have := HB.out; have := HG.out; simp; omega))
        clear A10 K10
        go_wp2_with fail
        refine (arena_read HA10.out 0 0 rfl (by simp)).mono ?_
        rintro e w11 ⟨rfl, A11, K11⟩
        have HA11 : Hid (Arn w11 b g [0, y, 0] _ _) := A11
        have HK11 := Lib.hid (HK10.out.fresh K11 (by have := HB.out; have := HG.out; simp; omega))
        clear A11 K11
        go_wp2_with fail
        refine (arena_read HA11.out 2 2 rfl (by simp)).mono ?_
        rintro e w12 ⟨rfl, A12, K12⟩
        have HA12 : Hid (Arn w12 b g [0, y, 0] _ _) := A12
        have HK12 := Lib.hid (HK11.out.fresh K12 (by have := HB.out; have := HG.out; simp; omega))
        clear A12 K12
        go_wp2_with fail
        refine (shade_blacken HA12.out (words_mid hyb) n).mono ?_
        rintro e w13 ⟨rfl, A13, K13⟩
        have HK13 := Lib.hid (HK12.out.fresh K13 (by have := HB.out; have := HG.out; simp; omega))
        clear K13
        obtain ⟨q1, q2⟩ := mid_other (x := y) hn
        rw [q1, black_zero, q2] at A13
        have HA13 := Lib.hid A13
        clear A13
        go_wp2_with fail
        refine (arena_read HA13.out 1 1 rfl (by simp)).mono ?_
        rintro e w15 ⟨rfl, A15, K15⟩
        have HK15 := Lib.hid (HK13.out.fresh K15 (by have := HB.out; have := HG.out; simp; omega))
        clear A15 K15
        go_wp2_with fail
        refine (law13_wakes _).mono ?_
        rintro e w16 ⟨rfl, K16⟩
        go_wp2_with fail
        exact hR.out _ _ ⟨rfl, HK15.out.trans K16⟩

set_option maxRecDepth 100000 in
theorem lawShadeTells_walk {H : Type} {enc : TypeId × Value → H} {base : Nat} (W : World) {v0 v1 v2 : Value} {d0 d1 d2 : DataW H} {p0 p1 p2 : List MemPlace}
    (ok0 : Value.okWide Try.prog W .any base 27 v0) (h0 : DataW.Trod enc Try.prog W 0 (fun _ => true) true 27 v0 d0 p0)
    (ok1 : Value.okWide Try.prog W .any base 5 v1) (h1 : DataW.Trod enc Try.prog W 0 (fun _ => true) true 5 v1 d1 p1)
    (ok2 : Value.okWide Try.prog W .any base 3 v2) (h2 : DataW.Trod enc Try.prog W 0 (fun _ => true) true 3 v2 d2 p2) :
    Calls Try.prog 6 #[v0, v1, v2] W fun e w' => e = .returned (.bool true) ∧ Below W.heap.size W w' := by
  obtain ⟨a0, rfl, rfl, rfl, w0⟩ := open_int Try.underlying27 ok0 h0
  obtain ⟨a1, rfl, rfl, rfl, w1⟩ := open_int Try.underlying5 ok1 h1
  obtain ⟨a2, rfl, rfl, rfl, w2⟩ := open_int Try.underlying3 ok2 h2
  have b0 := bounds_u64 w0
  have b1 := bounds_u8 w1
  refine (shade_tells_law a0 a1 a2 ⟨by omega, by omega⟩ ⟨by omega, by omega⟩ W).mono ?_
  rintro e w' ⟨rfl, K⟩
  exact ⟨rfl, K.below (Nat.le_refl _) (by simp)⟩
end Go.Proofs.Ytnadiddaeolanaa
