/- The walk of RootsBack. -/
import Derived.Test.YtgdbccficcgbdaaRootsLaw
import Derived.Test.YtgdbccficcgbdaaOpen2
import Derived.WalkSmall
namespace Go.Proofs.Ytgdbccficcgbdaa
open Go.RowKit Go.ChangeShapes Go.WideShapes
set_option linter.unusedVariables false
set_option linter.unusedSimpArgs false

/-- The list's first k numbers. -/
def firsts (F : Nat → Nat → Int) (k : Nat) : List Int := (List.range k).map (fun i => F i 0)
theorem firsts_succ (F : Nat → Nat → Int) (k : Nat) : firsts F (k + 1) = firsts F k ++ [F k 0] := by simp [firsts, List.range_succ]
theorem firsts_len (F : Nat → Nat → Int) (k : Nat) : (firsts F k).length = k := by simp [firsts]

def BackInv (w w1 : World) (b n z : Nat) (keep : Int) (F : Nat → Nat → Int) (i : Value) (wr : World) : Prop :=
  ∃ (k : Nat) (S : List Int), k ≤ n ∧ i = .int .i64 k ∧ S.length = 8 ∧ S[z]? = some keep ∧ Rts wr b S (firsts F k) ∧ Keep [] w wr
def BackInv2 (w : World) (b n z : Nat) (keep : Int) (F : Nat → Nat → Int) (i : Value) (wr : World) : Prop :=
  ∃ (q : Int) (S : List Int), -1 ≤ q ∧ q < n ∧ i = .int .i64 q ∧ S.length = 8 ∧ S[z]? = some keep ∧ Rts wr b S (firsts F (q + 1).toNat) ∧ Keep [] w wr

theorem roots_get_eq {w : World} {b : Nat} {S K : List Int} (h : Rts w b S K) (i : Nat) (x : Int) (hx : S[i]? = some x) : Calls Try.prog 43 #[.pointer (some ⟨b, 0, none⟩), .int .i64 i] w fun e w' => e = .returned (.tuple #[.int .i64 x, .int .i64 0]) ∧ w' = w := by
  obtain ⟨hi, hx⟩ := List.getElem?_eq_some_iff.1 hx
  subst hx
  exact roots_get h i i rfl hi

set_option maxRecDepth 100000 in
set_option maxHeartbeats 2000000 in
theorem roots_back_law (ao : Option Addr) (n cap : Nat) (F : Nat → Nat → Int) (a b c keep : Nat) (w : World) (ha : a ≤ 255) (hb : b ≤ 255) (hc : c ≤ 255) (hk : keep ≤ 65535)
    (hA : Recs w (.slice ao n cap) n [.u16] F) : Calls Try.prog 9 #[.slice ao n cap, .int .u8 a, .int .u8 b, .int .u8 c, .int .u16 keep] w fun e w' => e = .returned (.bool true) ∧ Below w.heap.size w w' := by
  refine calls_abs fun R hR => ?_
  have HA := Lib.hid hA
  have hnm : n ≤ 9223372036854775807 := by
    obtain ⟨cs, hr, _⟩ := hA
    obtain ⟨_, _, hv, h1, h2, _⟩ := hr
    simp only [maxLen] at h2
    omega
  clear hA
  by_cases hbig : 16 < n
  · have h16 : (16 : Int) < (n : Int) := by omega
    go_enter Try.func9, Try.ntmps9
    go_wp2_with (go_at_call 38; refine (roots_wakes _).mono ?_; rintro e w' ⟨rfl, hk⟩)
    exact hR.out _ _ ⟨rfl, hk.below_self⟩
  have h16 : ¬ (16 : Int) < (n : Int) := by omega
  go_enter Try.func9, Try.ntmps9
  go_wp2_with fail
  refine (roots_new 8 8 rfl (by omega) (by omega) _).mono ?_
  rintro e w1 ⟨p, rfl, S1, K1, hb⟩
  have HS1 := Lib.hid S1; have HK1 := Lib.hid K1; clear S1 K1
  obtain ⟨x, hxa⟩ : ∃ x : Nat, (a : Int) % 8 = x := ⟨a % 8, by omega⟩
  obtain ⟨y, hyb⟩ : ∃ y : Nat, (b : Int) % 8 = y := ⟨b % 8, by omega⟩
  obtain ⟨z, hzc⟩ : ∃ z : Nat, (c : Int) % 8 = z := ⟨c % 8, by omega⟩
  have hx8 : x < 8 := by omega
  have hy8 : y < 8 := by omega
  have hz8 : z < 8 := by omega
  by_cases hxz : x = z
  · subst hxz
    go_wp2_with (go_at_call 38; refine (roots_wakes _).mono ?_; rintro e w' ⟨rfl, hk⟩)
    exact hR.out _ _ ⟨rfl, (HK1.out.trans hk).below_self⟩
  have xz : ((x : Int) == (z : Int)) = false := by rw [beq_eq_false_iff_ne]; omega
  by_cases hyz : y = z
  · subst hyz
    go_wp2_with (go_at_call 38; refine (roots_wakes _).mono ?_; rintro e w' ⟨rfl, hk⟩)
    exact hR.out _ _ ⟨rfl, (HK1.out.trans hk).below_self⟩
  have yz : ((y : Int) == (z : Int)) = false := by rw [beq_eq_false_iff_ne]; omega
  have hxz' : ¬ z = x := fun e => hxz e.symm
  have hyz' : ¬ z = y := fun e => hyz e.symm
  go_wp2_with fail
  refine (roots_set HS1.out z keep z rfl (by simpa using hz8) (by omega)).mono ?_
  rintro e w2 ⟨rfl, S2, K2⟩
  have hS2 : ((List.replicate 8 (0 : Int)).set z keep).length = 8 := by simp
  have hz2 : ((List.replicate 8 (0 : Int)).set z keep)[z]? = some (keep : Int) := by simp [hz8]
  generalize (List.replicate 8 (0 : Int)).set z keep = S at S2 hS2 hz2
  have KA : Keep [] w w2 := HK1.out.fresh K2 (by simp; omega)
  have HS2 := Lib.hid S2; have HKA := Lib.hid KA; clear S2 KA K2
  have HZ := Lib.hid hz2; have HL := Lib.hid hS2; clear hz2 hS2
  go_wp2_with fail
  go_loopw [16] (fun i wr => BackInv w w1 p n z keep F i wr) (fun i _ => n - (intOf i).toNat)
  case atStart => exact ⟨0, S, by omega, rfl, HL.out, HZ.out, HS2.out, HKA.out⟩
  case round =>
    obtain ⟨k, S, hkn', rfl, hSl, hSz, hS, hKw⟩ := hrel
    have H := Lib.hid hS; have HK := Lib.hid hKw; have HSl := Lib.hid hSl; have HSz := Lib.hid hSz
    clear hS hKw hSl hSz
    by_cases hkn : k < n
    · obtain ⟨ab, aof, rfl, hab, hcells⟩ := HA.out.cell hkn (by simp)
      have c0 := HK.out.cell (hcells 0 .u16 rfl).1 (by simp)
      have wf := (hcells 0 .u16 rfl).2
      have hb := lit_wf_u16 wf
      simp only [List.length_singleton, Nat.mul_one, Nat.add_zero] at c0
      generalize hf : F k 0 = f at c0 hb
      clear hcells wf
      go_wp2_with fail
      refine (roots_set H.out x f x rfl (by rw [HSl.out]; exact hx8) (by omega)).mono ?_
      rintro e w3 ⟨rfl, S3, K3⟩
      have HS3 := Lib.hid S3; have HK3 := Lib.hid K3; clear S3 K3
      go_wp2_with fail
      refine (roots_push HS3.out x x rfl (by rw [List.length_set, HSl.out]; exact hx8) (by rw [firsts_len]; omega)).mono ?_
      rintro e w4 ⟨rfl, S4, K4⟩
      have HS4 := Lib.hid S4; have HK4 := Lib.hid K4; clear S4 K4
      go_wp2_with fail
      go_roundw
      case rel => exact ⟨k + 1, S.set x f, by omega, by go_num, by rw [List.length_set]; exact HSl.out, by rw [List.getElem?_set, if_neg hxz]; exact HSz.out, by have := HS4.out; rw [firsts_succ, hf]; simpa using this, HK.out.fresh (HK3.out.trans HK4.out) (by simp; omega)⟩
      case measure => simp [intOf]; omega
    · have hkn2 : k = n := by omega
      subst hkn2
      go_wp2_with fail
      have HZ := HSz.out
      by_cases hn16 : k = 16
      · refine (roots_push_full H.out x x rfl (by rw [HSl.out]; exact hx8) (by rw [firsts_len]; exact hn16)).mono ?_
        rintro e w3 ⟨rfl, rfl⟩
        have HL5 := HSl; have HZ5 := HSz; have HS5 := H; have HK5 := HK
        have n16 : ((k : Int) == 16) = true := by simp; omega
        go_wp2_with fail
        go_loopw [18] (fun i wr => BackInv2 w p k z keep F i wr) (fun i _ => (intOf i + 1).toNat)
        case atStart => exact ⟨(k : Int) - 1, S, by omega, by omega, (by first | rfl | (subst hn16; rfl)), HL5.out, HZ5.out, by have := HS5.out; rw [show ((k : Int) - 1 + 1).toNat = k by omega]; exact this, HK5.out⟩
        case round =>
          obtain ⟨q, S, hq1, hq2, rfl, hSl, hSz, hS, hKw⟩ := hrel
          have H := Lib.hid hS; have HK := Lib.hid hKw; have HSl := Lib.hid hSl; have HSz := Lib.hid hSz
          clear hS hKw hSl hSz
          by_cases hq : 0 ≤ q
          · obtain ⟨j, rfl⟩ : ∃ j : Nat, q = j := ⟨q.toNat, by omega⟩
            have hjk : j < k := by omega
            obtain ⟨ab, aof, rfl, hab, hcells⟩ := HA.out.cell hjk (by simp)
            have c0 := HK.out.cell (hcells 0 .u16 rfl).1 (by simp)
            have wf := (hcells 0 .u16 rfl).2
            have hb := lit_wf_u16 wf
            simp only [List.length_singleton, Nat.mul_one, Nat.add_zero] at c0
            have H' := Lib.hid (show Rts _ p S (firsts F j ++ [F j 0]) by have := H.out; rw [show ((j : Int) + 1).toNat = j + 1 by omega, firsts_succ] at this; exact this)
            generalize hf : F j 0 = f at c0 hb H'
            have nj : (j : Int) < (k : Int) := by omega
            clear hcells wf
            go_wp2_with fail
            refine (roots_pop H'.out y y rfl (by rw [HSl.out]; exact hy8)).mono ?_
            rintro e w6 ⟨rfl, S6, K6⟩
            have HS6 := Lib.hid S6; have HK6 := Lib.hid K6; have K6' := HK.out.fresh K6 (by simp; omega); have c6 := K6.cell c0 (by simp; omega); have HK6' := Lib.hid K6'; clear S6 K6 K6'
            go_wp2_with fail
            refine (roots_get_eq HS6.out y f (by rw [List.getElem?_set, if_pos rfl, if_pos (by rw [HSl.out]; exact hy8)])).mono ?_
            rintro e w7 ⟨rfl, rfl⟩
            go_wp2_with fail
            refine (roots_get_eq HS6.out z keep (by rw [List.getElem?_set, if_neg hyz]; exact HSz.out)).mono ?_
            rintro e w7 ⟨rfl, rfl⟩
            go_wp2_with fail
            refine (roots_depth HS6.out).mono ?_
            rintro e w7 ⟨rfl, rfl⟩
            rw [firsts_len]
            go_wp2_with fail
            go_roundw
            case rel => exact ⟨(j : Int) - 1, S.set y f, by omega, by omega, by go_num, by rw [List.length_set]; exact HSl.out, by rw [List.getElem?_set, if_neg hyz]; exact HSz.out, by have := HS6.out; rw [show ((j : Int) - 1 + 1).toNat = j by omega]; exact this, HK6'.out⟩
            case measure => simp [intOf] <;> omega
          · have hq3 : q = -1 := by omega
            subst hq3
            go_wp2_with fail
            refine (roots_pop_none H.out y y rfl (by rw [HSl.out]; exact hy8)).mono ?_
            rintro e w6 ⟨rfl, rfl⟩
            go_wp2_with (go_at_call 38; refine (roots_wakes _).mono ?_; rintro e w' ⟨rfl, hk⟩)
            exact hR.out _ _ ⟨rfl, (HK.out.trans hk).below_self⟩
      · have hSx : S[x]? = some (S[x]'(by rw [HSl.out]; exact hx8)) := List.getElem?_eq_getElem _
        refine (roots_push H.out x x rfl (by rw [HSl.out]; exact hx8) (by rw [firsts_len]; omega)).mono ?_
        rintro e w3 ⟨rfl, S3, K3⟩
        have HS3 := Lib.hid S3; have HK3 := Lib.hid K3; clear S3 K3 hSx
        have n16 : ((k : Int) == 16) = false := by rw [beq_eq_false_iff_ne]; omega
        go_wp2_with fail
        refine (roots_pop HS3.out x x rfl (by rw [HSl.out]; exact hx8)).mono ?_
        rintro e w4 ⟨rfl, S4, K4⟩
        have HS5 := Lib.hid S4; have HK5 : Hid (Keep [] w w4) := HK.out.fresh (HK3.out.trans K4) (by simp; omega)
        have HL5 : Hid ((S.set x (S[x]'(by rw [HSl.out]; exact hx8))).length = 8) := Lib.hid (by rw [List.length_set]; exact HSl.out)
        have HZ5 : Hid ((S.set x (S[x]'(by rw [HSl.out]; exact hx8)))[z]? = some (keep : Int)) := Lib.hid (by rw [List.getElem?_set, if_neg hxz]; exact HSz.out)
        clear S4 K4
        generalize S.set x (S[x]'(by rw [HSl.out]; exact hx8)) = S5 at HS5 HL5 HZ5
        go_wp2_with fail
        go_loopw [18] (fun i wr => BackInv2 w p k z keep F i wr) (fun i _ => (intOf i + 1).toNat)
        case atStart => exact ⟨(k : Int) - 1, S5, by omega, by omega, by first | rfl | go_num, HL5.out, HZ5.out, by have := HS5.out; rw [show ((k : Int) - 1 + 1).toNat = k by omega]; exact this, HK5.out⟩
        case round =>
          obtain ⟨q, S, hq1, hq2, rfl, hSl, hSz, hS, hKw⟩ := hrel
          have H := Lib.hid hS; have HK := Lib.hid hKw; have HSl := Lib.hid hSl; have HSz := Lib.hid hSz
          clear hS hKw hSl hSz
          by_cases hq : 0 ≤ q
          · obtain ⟨j, rfl⟩ : ∃ j : Nat, q = j := ⟨q.toNat, by omega⟩
            have hjk : j < k := by omega
            obtain ⟨ab, aof, rfl, hab, hcells⟩ := HA.out.cell hjk (by simp)
            have c0 := HK.out.cell (hcells 0 .u16 rfl).1 (by simp)
            have wf := (hcells 0 .u16 rfl).2
            have hb := lit_wf_u16 wf
            simp only [List.length_singleton, Nat.mul_one, Nat.add_zero] at c0
            have H' := Lib.hid (show Rts _ p S (firsts F j ++ [F j 0]) by have := H.out; rw [show ((j : Int) + 1).toNat = j + 1 by omega, firsts_succ] at this; exact this)
            generalize hf : F j 0 = f at c0 hb H'
            have nj : (j : Int) < (k : Int) := by omega
            clear hcells wf
            go_wp2_with fail
            refine (roots_pop H'.out y y rfl (by rw [HSl.out]; exact hy8)).mono ?_
            rintro e w6 ⟨rfl, S6, K6⟩
            have HS6 := Lib.hid S6; have HK6 := Lib.hid K6; have K6' := HK.out.fresh K6 (by simp; omega); have c6 := K6.cell c0 (by simp; omega); have HK6' := Lib.hid K6'; clear S6 K6 K6'
            go_wp2_with fail
            refine (roots_get_eq HS6.out y f (by rw [List.getElem?_set, if_pos rfl, if_pos (by rw [HSl.out]; exact hy8)])).mono ?_
            rintro e w7 ⟨rfl, rfl⟩
            go_wp2_with fail
            refine (roots_get_eq HS6.out z keep (by rw [List.getElem?_set, if_neg hyz]; exact HSz.out)).mono ?_
            rintro e w7 ⟨rfl, rfl⟩
            go_wp2_with fail
            refine (roots_depth HS6.out).mono ?_
            rintro e w7 ⟨rfl, rfl⟩
            rw [firsts_len]
            go_wp2_with fail
            go_roundw
            case rel => exact ⟨(j : Int) - 1, S.set y f, by omega, by omega, by go_num, by rw [List.length_set]; exact HSl.out, by rw [List.getElem?_set, if_neg hyz]; exact HSz.out, by have := HS6.out; rw [show ((j : Int) - 1 + 1).toNat = j by omega]; exact this, HK6'.out⟩
            case measure => simp [intOf] <;> omega
          · have hq3 : q = -1 := by omega
            subst hq3
            go_wp2_with fail
            refine (roots_pop_none H.out y y rfl (by rw [HSl.out]; exact hy8)).mono ?_
            rintro e w6 ⟨rfl, rfl⟩
            go_wp2_with (go_at_call 38; refine (roots_wakes _).mono ?_; rintro e w' ⟨rfl, hk⟩)
            exact hR.out _ _ ⟨rfl, (HK.out.trans hk).below_self⟩

set_option maxRecDepth 100000 in
theorem lawRootsBack_walk {H : Type} {enc : TypeId × Value → H} {base : Nat} (W : World) {v0 v1 v2 v3 v4 : Value} {d0 d1 d2 d3 d4 : DataW H} {p0 p1 p2 p3 p4 : List MemPlace}
    (ok0 : Value.okWide Try.prog W .any base 68 v0) (h0 : DataW.Trod enc Try.prog W 0 (fun _ => true) true 68 v0 d0 p0)
    (ok1 : Value.okWide Try.prog W .any base 5 v1) (h1 : DataW.Trod enc Try.prog W 0 (fun _ => true) true 5 v1 d1 p1)
    (ok2 : Value.okWide Try.prog W .any base 5 v2) (h2 : DataW.Trod enc Try.prog W 0 (fun _ => true) true 5 v2 d2 p2)
    (ok3 : Value.okWide Try.prog W .any base 5 v3) (h3 : DataW.Trod enc Try.prog W 0 (fun _ => true) true 5 v3 d3 p3)
    (ok4 : Value.okWide Try.prog W .any base 65 v4) (h4 : DataW.Trod enc Try.prog W 0 (fun _ => true) true 65 v4 d4 p4) :
    Calls Try.prog 9 #[v0, v1, v2, v3, v4] W fun e w' => e = .returned (.bool true) ∧ Below W.heap.size W w' := by
  obtain ⟨ao, len, cap, rfl⟩ := okWide_slice Try.underlying68 ok0
  obtain ⟨n, F, hA⟩ := open_ints Try.underlying68 Try.underlying65 (by kernel_rfl) h0 rfl
  have hn : len = n := by obtain ⟨_, ⟨_, _, hv, _⟩, _⟩ := hA; cases hv; rfl
  subst hn
  obtain ⟨a1, rfl, rfl, rfl, w1⟩ := open_int Try.underlying5 ok1 h1
  obtain ⟨a2, rfl, rfl, rfl, w2⟩ := open_int Try.underlying5 ok2 h2
  obtain ⟨a3, rfl, rfl, rfl, w3⟩ := open_int Try.underlying5 ok3 h3
  obtain ⟨a4, rfl, rfl, rfl, w4⟩ := open_int Try.underlying65 ok4 h4
  have b1 := lit_wf_u8 w1
  have b2 := lit_wf_u8 w2
  have b3 := lit_wf_u8 w3
  have b4 := lit_wf_u16 w4
  obtain ⟨x1, rfl⟩ : ∃ x : Nat, a1 = x := ⟨a1.toNat, by omega⟩
  obtain ⟨x2, rfl⟩ : ∃ x : Nat, a2 = x := ⟨a2.toNat, by omega⟩
  obtain ⟨x3, rfl⟩ : ∃ x : Nat, a3 = x := ⟨a3.toNat, by omega⟩
  obtain ⟨x4, rfl⟩ : ∃ x : Nat, a4 = x := ⟨a4.toNat, by omega⟩
  exact roots_back_law ao len cap F x1 x2 x3 x4 W (by omega) (by omega) (by omega) (by omega) hA
end Go.Proofs.Ytgdbccficcgbdaa
