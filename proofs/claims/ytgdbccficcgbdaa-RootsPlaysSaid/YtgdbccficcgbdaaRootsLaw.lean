/- The law's known roots; RootsNil. -/
import Derived.Test.YtgdbccficcgbdaaRoots
import Derived.Test.YtgdbccficcgbdaaOpen
namespace Go.Proofs.Ytgdbccficcgbdaa
open Go.RowKit Go.ChangeShapes Go.WideShapes
set_option linter.unusedVariables false
set_option linter.unusedSimpArgs false

set_option maxRecDepth 100000 in
theorem roots_wakes (w : World) : Calls Try.prog 38 #[] w fun e w' => e = .returned (.bool true) ∧ Keep [] w w' := by
  refine calls_abs fun R hR => ?_
  go_enter Try.func38, Try.ntmps38
  go_wp2_with fail
  refine Calls.mono (roots_new 2 2 rfl (by omega) (by omega) _) ?_
  rintro e w1 ⟨b, rfl, A1, K1, hb⟩
  change Rts w1 b [0, 0] [] at A1
  have HA1 := Lib.hid A1; have HK1 := Lib.hid K1; clear A1 K1
  go_wp2_with fail
  refine Calls.mono (roots_set HA1.out 0 7 0 rfl (by simp) (by omega)) ?_
  rintro e w2 ⟨rfl, A2, K2⟩
  change Rts w2 b [7, 0] [] at A2
  have HA2 := Lib.hid A2; have HK2 := Lib.hid K2; clear A2 K2
  go_wp2_with fail
  refine Calls.mono (roots_push HA2.out 0 0 rfl (by simp) (by simp)) ?_
  rintro e w3 ⟨rfl, A3, K3⟩
  change Rts w3 b [7, 0] [7] at A3
  have HA3 := Lib.hid A3; have HK3 := Lib.hid K3; clear A3 K3
  go_wp2_with fail
  refine Calls.mono (roots_set HA3.out 0 8 0 rfl (by simp) (by omega)) ?_
  rintro e w4 ⟨rfl, A4, K4⟩
  change Rts w4 b [8, 0] ([] ++ [7]) at A4
  have HA4 := Lib.hid A4; have HK4 := Lib.hid K4; clear A4 K4
  go_wp2_with fail
  refine Calls.mono (roots_pop HA4.out 1 1 rfl (by simp)) ?_
  rintro e w5 ⟨rfl, A5, K5⟩
  change Rts w5 b [8, 7] [] at A5
  have HA5 := Lib.hid A5; have HK5 := Lib.hid K5; clear A5 K5
  go_wp2_with fail
  refine Calls.mono (roots_all HA5.out) ?_
  rintro e w6 ⟨v, L, rfl, hL, R6, K6⟩
  change L = [8, 7] at hL
  subst hL
  obtain ⟨ao, cap, rfl, hc1, hc2⟩ := R6.shape
  obtain ⟨g, o, rfl, hlt, hcell⟩ := R6.some (by simp)
  have e0 := hcell 0 (.int .i64 8) rfl
  have e1 := hcell 1 (.int .i64 7) rfl
  have HA6 := Lib.hid (HA5.out.keep K6 (by simp)); have HK6 := Lib.hid K6; clear K6 R6 hcell
  simp only [Nat.add_zero, List.length_cons, List.length_nil, Nat.zero_add, Nat.reduceAdd] at e0 e1 hc1 ⊢
  go_wp2_with fail
  refine Calls.mono (roots_slots HA6.out) ?_
  rintro e w7 ⟨rfl, rfl⟩
  go_wp2_with fail
  refine Calls.mono (roots_depth HA6.out) ?_
  rintro e w7 ⟨rfl, rfl⟩
  go_wp2_with fail
  refine hR.out _ _ ⟨rfl, ?_⟩
  exact HK1.out.fresh (((HK2.out.trans HK3.out).trans (HK4.out.trans HK5.out)).trans (HK6.out.mono (by simp))) (by simp; omega)

set_option maxRecDepth 100000 in
theorem roots_nil_law (n v : Int) (w : World) : Calls Try.prog 11 #[.int .i64 n, .int .i64 v] w fun e w' => e = .returned (.bool true) ∧ Below w.heap.size w w' := by
  refine calls_abs fun R hR => ?_
  go_enter Try.func11, Try.ntmps11
  go_wp2_with fail
  refine Calls.mono (roots_get_nil n _) ?_
  rintro e w1 ⟨rfl, rfl⟩
  go_wp2_with fail
  refine Calls.mono (roots_set_nil n v _) ?_
  rintro e w1 ⟨rfl, rfl⟩
  go_wp2_with fail
  refine Calls.mono (roots_push_nil n _) ?_
  rintro e w1 ⟨rfl, rfl⟩
  go_wp2_with fail
  refine Calls.mono (roots_pop_nil n _) ?_
  rintro e w1 ⟨rfl, rfl⟩
  go_wp2_with fail
  refine Calls.mono (roots_all_nil _) ?_
  rintro e w1 ⟨rfl, rfl⟩
  go_wp2_with fail
  refine Calls.mono (roots_stack_nil _) ?_
  rintro e w1 ⟨rfl, rfl⟩
  go_wp2_with fail
  refine Calls.mono (roots_slots_nil _) ?_
  rintro e w1 ⟨rfl, rfl⟩
  go_wp2_with fail
  refine Calls.mono (roots_depth_nil _) ?_
  rintro e w1 ⟨rfl, rfl⟩
  go_wp2_with fail
  refine Calls.mono (roots_wakes _) ?_
  rintro e w2 ⟨rfl, K⟩
  have HK := Lib.hid K; clear K
  go_wp2_with fail
  exact hR.out _ _ ⟨rfl, HK.out.below_self⟩
end Go.Proofs.Ytgdbccficcgbdaa
