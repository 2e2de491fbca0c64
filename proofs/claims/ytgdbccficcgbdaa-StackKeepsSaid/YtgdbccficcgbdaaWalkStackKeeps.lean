/- The walk of StackKeeps. -/
import Derived.Test.YtgdbccficcgbdaaStack
import Derived.Test.YtgdbccficcgbdaaOpen
import Derived.WalkSmall
namespace Go.Proofs.Ytgdbccficcgbdaa
open Go.RowKit Go.ChangeShapes Go.WideShapes
set_option linter.unusedVariables false

def KeepsInv (w0 w1 : World) (b f s room n : Nat) (v ov i : Value) (wr : World) : Prop :=
  ∃ (k : Nat) (L : List Int) (over : Bool), k ≤ n ∧ i = .int .i64 k ∧ ov = .bool over ∧ wr.ownsRow w1.heap.size 3 1 v L.length (L.map (Value.int .i64)) ∧
    Stk wr b f s room L over ∧ Below w0.heap.size w0 wr ∧ w1.heap.size ≤ wr.heap.size

set_option maxRecDepth 100000 in
set_option maxHeartbeats 2000000 in
theorem stack_keeps_law (room : Int) (ao : Option Addr) (n cap : Nat) (F : Nat → Nat → Int) (w : World) (h0 : 0 ≤ room) (h255 : room ≤ 255)
    (hA : Recs w (.slice ao n cap) n [.u8, .i64] F) : Calls Try.prog 3 #[.int .u8 room, .slice ao n cap] w fun e w' => e = .returned (.bool true) ∧ Below w.heap.size w w' := by
  refine calls_abs fun R hR => ?_
  have HA := Lib.hid hA
  have hnm : n ≤ 9223372036854775807 := by
    obtain ⟨cs, hr, _⟩ := hA
    obtain ⟨_, _, hv, h1, h2, _⟩ := hr
    simp only [maxLen] at h2
    omega
  clear hA
  by_cases hbig : 200 < n
  · go_enter Try.func3, Try.ntmps3
    go_wp2_with (go_at_call 15; refine (stack_wakes _).mono ?_; rintro e w' ⟨rfl, hk⟩)
    exact hR.out _ _ ⟨rfl, hk.below (Nat.le_refl _) (by simp)⟩
  by_cases hlow : room < 1
  · go_enter Try.func3, Try.ntmps3
    go_wp2_with (go_at_call 15; refine (stack_wakes _).mono ?_; rintro e w' ⟨rfl, hk⟩)
    exact hR.out _ _ ⟨rfl, hk.below (Nat.le_refl _) (by simp)⟩
  by_cases hhigh : 64 < room
  · go_enter Try.func3, Try.ntmps3
    go_wp2_with (go_at_call 15; refine (stack_wakes _).mono ?_; rintro e w' ⟨rfl, hk⟩)
    exact hR.out _ _ ⟨rfl, hk.below (Nat.le_refl _) (by simp)⟩
  obtain ⟨r, rfl⟩ : ∃ r : Nat, room = r := ⟨room.toNat, by omega⟩
  go_enter Try.func3, Try.ntmps3
  go_wp2_with fail
  refine (stack_new r r rfl (by omega) (by omega) _).mono ?_
  rintro e w1 ⟨b, f, s, rfl, S1, K1, hb, hf, hs⟩
  have hbl := lt_of_block S1.head
  have hfl := lt_of_block S1.flood
  have hsl : s < w1.heap.size := by obtain ⟨_, h, _⟩ := S1.row; exact lt_of_block h
  have HS1 := Lib.hid S1; have HK1 := Lib.hid K1; clear S1 K1
  go_wp2_with fail
  go_loopw [7, 8, 9] (fun v ov i wr => KeepsInv w w1 b f s r n v ov i wr) (fun _ _ i _ => n - (intOf i).toNat)
  case atStart => exact ⟨0, [], false, by omega, rfl, rfl, World.ownsRow_nil _ _ _ _, HS1.out, HK1.out.below (Nat.le_refl _) (by simp), Nat.le_refl _⟩
  case round =>
    obtain ⟨k, L, over, hk, rfl, rfl, HO, HS, HB, hsz⟩ := hrel
    have hroom := HS.small
    have hfit := HS.fits
    have HHO := Lib.hid HO; have HHS := Lib.hid HS; have HHB := Lib.hid HB; have HZ := Lib.hid hsz
    clear HO HS HB hsz
    by_cases hkn : k < n
    · obtain ⟨ab, aof, rfl, hab, hcells⟩ := HA.out.cell hkn (by simp)
      have c0 := (HHB.out.cell (p := ⟨ab, aof + (k * 2 + 0), none⟩) hab).trans (hcells 0 .u8 rfl).1
      simp only [Nat.add_zero] at c0
      clear hcells
      by_cases hd0 : F k 0 = 0
      · rw [hd0] at c0
        rcases List.eq_nil_or_concat L with rfl | ⟨L', x, hL⟩
        · obtain ⟨ao', cap', rfl, hc1, hc2⟩ := owns_val HHO.out
          go_wp2_with fail
          refine (stack_pop_empty HHS.out).mono ?_
          rintro e w2 ⟨rfl, rfl⟩
          go_wp2_with fail
          refine (stack_len HHS.out).mono ?_
          rintro e w2 ⟨rfl, rfl⟩
          go_wp2_with fail
          go_roundw
          case rel => exact ⟨k + 1, [], over, by omega, by go_num, rfl, HHO.out, HHS.out, HHB.out, HZ.out⟩
          case measure => simp [intOf]; omega
        · rw [List.concat_eq_append] at hL
          subst hL
          simp only [List.length_append, List.length_singleton, List.map_append, List.map_cons, List.map_nil] at HHO hfit
          obtain ⟨g, cap', rfl, hc1, hc2, hc3, hc4, hc5, hc6⟩ := owns_some HHO.out (by omega)
          have cx := hc5 L'.length (.int .i64 x) (by simp)
          clear hc5 hc6
          go_wp2_with fail
          refine (stack_pop_some HHS.out).mono ?_
          rintro e w2 ⟨rfl, S2, K2⟩
          have cx2 := K2.cell cx (by simp; omega)
          have HS2 := Lib.hid S2; have HK2 := Lib.hid K2; clear S2 K2 cx
          go_wp2_with fail
          refine (stack_len HS2.out).mono ?_
          rintro e w2 ⟨rfl, rfl⟩
          go_wp2_with fail
          go_roundw
          case rel => exact ⟨k + 1, L', over, by omega, by go_num, rfl, HK2.out.owns (ownsRow_pop (by simp) HHO.out) (by simp [Value.ownBlock]; omega), HS2.out, HHB.out.trans (HK2.out.below (by have := HHB.out.size; omega) (by simp; omega)), by have := HK2.out.size; have := HZ.out; omega⟩
          case measure => simp [intOf]; omega
      · by_cases hd1 : F k 0 = 1
        · rw [hd1] at c0
          obtain ⟨ao', cap', rfl, hc1, hc2⟩ := owns_val HHO.out
          go_wp2_with fail
          refine (stack_over HHS.out).mono ?_
          rintro e w2 ⟨rfl, S2, K2⟩
          have HS2 := Lib.hid S2; have HK2 := Lib.hid K2; clear S2 K2
          go_wp2_with fail
          refine (stack_len HS2.out).mono ?_
          rintro e w2 ⟨rfl, rfl⟩
          go_wp2_with fail
          go_roundw
          case rel => exact ⟨k + 1, L, false, by omega, by go_num, rfl, HK2.out.owns HHO.out (fun g hg => by have := owns_block HHO.out g hg; simp; omega), HS2.out, HHB.out.trans (HK2.out.below (by have := HHB.out.size; omega) (by simp; omega)), by have := HK2.out.size; have := HZ.out; omega⟩
          case measure => simp [intOf]; omega
        · have t0 : (F k 0 == 0) = false := by simp [hd0]
          have t1 : (F k 0 == 1) = false := by simp [hd1]
          clear hd0 hd1
          obtain ⟨ao', cap', rfl, hc1, hc2⟩ := owns_val HHO.out
          by_cases hfull : L.length = r
          · have hnl : ¬ ((L.length : Int) < (r : Int)) := by omega
            have HF := Lib.hid hfull; clear hfull
            go_wp2_with fail
            refine (stack_push_full HHS.out HF.out k).mono ?_
            rintro e w2 ⟨rfl, S2, K2⟩
            have HS2 := Lib.hid S2; have HK2 := Lib.hid K2; clear S2 K2
            go_wp2_with fail
            all_goals
              refine (stack_len HS2.out).mono ?_
              rintro e w2 ⟨rfl, rfl⟩
              go_wp2_with fail
              go_roundw
              case rel => exact ⟨k + 1, L, true, by omega, by go_num, by simp, HK2.out.owns HHO.out (fun g hg => by have := owns_block HHO.out g hg; simp; omega), HS2.out, HHB.out.trans (HK2.out.below (by have := HHB.out.size; omega) (by simp; omega)), by have := HK2.out.size; have := HZ.out; omega⟩
              case measure => simp [intOf]; omega
          · have hnl : ((L.length : Int) < (r : Int)) := by omega
            have hlt : L.length < r := by omega
            go_wp2_with fail
            refine (stack_push HHS.out hlt k).mono ?_
            rintro e w2 ⟨rfl, S2, K2⟩
            have HS2 := Lib.hid S2; have HK2 := Lib.hid K2; clear S2 K2 hfull
            have HO2 := Lib.hid (HK2.out.owns HHO.out (fun g hg => by have := owns_block HHO.out g hg; simp; omega))
            have hz2 : w1.heap.size ≤ w2.heap.size := by have := HK2.out.size; have := HZ.out; omega
            cases over <;>
            · go_wp2_with (at_builtin; go_loud (refine wpList_append_rd _ rfl _ _ _ rfl elem_int w1.heap.size (.slice ao' L.length cap') L.length (L.map (Value.int .i64)) rfl (HO2.out.alloc _) _ 1 [.int .i64 k] rfl (Rd.lit w2 (.int .i64 k) _ rfl) rfl (by simp [maxLen]; omega) (by omega) (by simp; omega) ?_); intro v3 w3 ho3 hg3; have HO3 := Lib.hid ho3; have HG3 := Lib.hid hg3; clear ho3 hg3; obtain ⟨ao3, cap3, rfl, hv3, hv4⟩ := owns_val HO3.out)
              have hk3 : Keep ((Value.slice ao' L.length cap').ownBlock.toList) w2 w3 := ((Keep.refl _ w2).alloc _).grown HG3.out (fun g hg => .inr (by simpa using hg))
              have hnb : ∀ x, x < w1.heap.size → x ∉ (Value.slice ao' L.length cap').ownBlock.toList := fun x hx hm => by have := owns_block HHO.out x (by simpa using hm); omega
              have HK3 := Lib.hid hk3; clear hk3
              have HN := Lib.hid hnb; clear hnb
              have HS3 := Lib.hid (HS2.out.keep HK3.out (HN.out _ hbl) (HN.out _ hfl) (HN.out _ hsl))
              refine (stack_len HS3.out).mono ?_
              rintro e w4 ⟨rfl, rfl⟩
              simp only [List.length_append, List.length_singleton]
              go_wp2_with fail
              go_roundw
              case rel => exact ⟨k + 1, L ++ [(k : Int)], _, by omega, by go_num, rfl, by simpa using HO3.out, HS3.out, (HHB.out.trans (HK2.out.below (by have := HHB.out.size; omega) (by simp; omega))).trans (HK3.out.below (by have := HHB.out.size; have := HK2.out.size; omega) (fun x hx => by have := owns_block HHO.out x (by simpa using hx); omega)), by have := HK3.out.size; omega⟩
              case measure => simp [intOf]; omega
    · have hkn2 : k = n := by omega
      go_wp2_with (go_at_call 15; refine (stack_wakes _).mono ?_; rintro e w' ⟨rfl, hk⟩)
      exact hR.out _ _ ⟨rfl, HHB.out.trans (hk.below HHB.out.size (by simp))⟩

set_option maxRecDepth 100000 in
theorem lawStackKeeps_walk {H : Type} {enc : TypeId × Value → H} {base : Nat} (W : World) {v0 v1 : Value} {d0 d1 : DataW H} {p0 p1 : List MemPlace}
    (ok0 : Value.okWide Try.prog W .any base 5 v0) (h0 : DataW.Trod enc Try.prog W 0 (fun _ => true) true 5 v0 d0 p0)
    (ok1 : Value.okWide Try.prog W .any base 22 v1) (h1 : DataW.Trod enc Try.prog W 0 (fun _ => true) true 22 v1 d1 p1) :
    Calls Try.prog 3 #[v0, v1] W fun e w' => e = .returned (.bool true) ∧ Below W.heap.size W w' := by
  obtain ⟨a0, rfl, rfl, rfl, w0⟩ := open_int Try.underlying5 ok0 h0
  obtain ⟨ao, len, cap, rfl⟩ := okWide_slice Try.underlying22 ok1
  obtain ⟨n, F, hA⟩ := open_recs (ks := [.u8, .i64]) Try.underlying22 Try.underlying30 (by kernel_rfl) (by kernel_rfl) (by kernel_rfl) h1 rfl
  have hn : len = n := by obtain ⟨_, ⟨_, _, hv, _⟩, _⟩ := hA; cases hv; rfl
  subst hn
  have hb := lit_wf_u8 w0
  exact stack_keeps_law a0 ao len cap F W hb.1 hb.2 hA
end Go.Proofs.Ytgdbccficcgbdaa
