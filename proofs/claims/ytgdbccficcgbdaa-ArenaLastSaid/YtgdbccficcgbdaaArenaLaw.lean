/- The law's known arena; ArenaNil. -/
import Derived.Test.YtgdbccficcgbdaaArena2
import Derived.Test.YtgdbccficcgbdaaOpen
namespace Go.Proofs.Ytgdbccficcgbdaa
open Go.RowKit Go.ChangeShapes Go.WideShapes
set_option linter.unusedVariables false
set_option linter.unusedSimpArgs false

theorem arena_wakes_fn (x : Int) (w : World) : Calls Try.prog 67 #[.int .u64 x] w fun e w' => e = .returned (.int .u64 (IntKind.u64.wrap (x + 1))) ∧ w' = w := by
  refine calls_abs fun R hR => ?_
  go_enter Try.func67, Try.ntmps67
  go_wp2
  exact hR.out _ _ ⟨rfl, rfl⟩
theorem arena_nil_fn (x : Int) (w : World) : Calls Try.prog 36 #[.int .u64 x] w fun e w' => e = .returned (.int .u64 (IntKind.u64.wrap (x + 1))) ∧ w' = w := by
  refine calls_abs fun R hR => ?_
  go_enter Try.func36, Try.ntmps36
  go_wp2
  exact hR.out _ _ ⟨rfl, rfl⟩

set_option maxRecDepth 100000 in
theorem arena_wakes (w : World) : Calls Try.prog 24 #[] w fun e w' => e = .returned (.bool true) ∧ Keep [] w w' := by
  refine calls_abs fun R hR => ?_
  go_enter Try.func24, Try.ntmps24
  go_wp2_with fail
  refine Calls.mono (arena_new 2 2 rfl (by omega) (by omega) _) ?_
  rintro e w1 ⟨b, g, rfl, A1, K1, hb, hg⟩
  have HA1 := Lib.hid A1; have HK1 := Lib.hid K1; clear A1 K1
  go_wp2_with fail
  refine Calls.mono (arena_write HA1.out 1 1 rfl (by simp) 7) ?_
  rintro e w2 ⟨rfl, A2, K2⟩
  have HA2 := Lib.hid A2; have HK2 := Lib.hid K2; clear A2 K2
  go_wp2_with fail
  refine Calls.mono (arena_update HA2.out 1 1 rfl (by simp) 67 Try.call67 #[] [] (fun _ => default) 8 (by simp) (by simp) (by simp) (fun w3 _ => (arena_wakes_fn _ _).mono ?_)) ?_
  · rintro e w3 ⟨rfl, rfl⟩
    exact ⟨by rfl, Keep.refl _ _, by simp⟩
  rintro e w3 ⟨rfl, A3, K3, _⟩
  have HA3 := Lib.hid A3; have HK3 := Lib.hid K3; clear A3 K3
  go_wp2_with fail
  refine Calls.mono (arena_read HA3.out 1 1 rfl (by simp)) ?_
  rintro e w4 ⟨rfl, A4, K4⟩
  have HA4 := Lib.hid A4; have HK4 := Lib.hid K4; clear A4 K4
  go_wp2_with fail
  refine Calls.mono (arena_read_out HA4.out 2 (.inr (by simp))) ?_
  rintro e w5 ⟨rfl, K5⟩
  have HA5 := Lib.hid (HA4.out.keep K5 (by simp) (by simp)); have HK5 := Lib.hid K5; clear K5
  go_wp2_with fail
  refine Calls.mono (arena_touched HA5.out) ?_
  rintro e w6 ⟨rfl, rfl⟩
  go_wp2_with fail
  refine Calls.mono (arena_last HA5.out) ?_
  rintro e w6 ⟨rfl, rfl⟩
  go_wp2_with fail
  refine Calls.mono (arena_len HA5.out) ?_
  rintro e w6 ⟨rfl, rfl⟩
  go_wp2_with fail
  refine hR.out _ _ ⟨rfl, ?_⟩
  exact HK1.out.fresh ((HK2.out.trans (HK3.out.mono (by simp))).trans (HK4.out.trans (HK5.out.mono (by simp)))) (by simp; omega)

set_option maxRecDepth 100000 in
theorem arena_nil_law (n v : Int) (w : World) : Calls Try.prog 7 #[.int .i64 n, .int .u64 v] w fun e w' => e = .returned (.bool true) ∧ Below w.heap.size w w' := by
  refine calls_abs fun R hR => ?_
  go_enter Try.func7, Try.ntmps7
  go_wp2_with fail
  refine Calls.mono (arena_write_nil n v _) ?_
  rintro e w1 ⟨rfl, K1⟩
  have HK1 := Lib.hid K1; clear K1
  go_wp2_with fail
  refine Calls.mono (arena_update_nil n _ _ _ _) ?_
  rintro e w2 ⟨rfl, K2⟩
  have HK2 := Lib.hid K2; clear K2
  go_wp2_with fail
  refine Calls.mono (arena_read_nil n _) ?_
  rintro e w3 ⟨rfl, K3⟩
  have HK3 := Lib.hid K3; clear K3
  go_wp2_with fail
  refine Calls.mono (arena_len_nil _) ?_
  rintro e w4 ⟨rfl, rfl⟩
  go_wp2_with fail
  refine Calls.mono (arena_touched_nil _) ?_
  rintro e w4 ⟨rfl, rfl⟩
  go_wp2_with fail
  refine Calls.mono (arena_last_nil _) ?_
  rintro e w4 ⟨rfl, rfl⟩
  go_wp2_with fail
  refine Calls.mono (arena_all_nil _) ?_
  rintro e w4 ⟨rfl, rfl⟩
  go_wp2_with fail
  refine Calls.mono (arena_wakes _) ?_
  rintro e w4 ⟨rfl, K4⟩
  have HK4 := Lib.hid K4; clear K4
  go_wp2_with fail
  exact hR.out _ _ ⟨rfl, (((HK1.out.trans HK2.out).trans HK3.out).trans HK4.out).below (Nat.le_refl _) (by simp)⟩
end Go.Proofs.Ytgdbccficcgbdaa
