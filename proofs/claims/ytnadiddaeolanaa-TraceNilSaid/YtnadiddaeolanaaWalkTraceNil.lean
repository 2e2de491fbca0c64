/- The walk of TraceNil. -/
import Derived.Test.YtnadiddaeolanaaWakes21
namespace Go.Proofs.Ytnadiddaeolanaa
open Go.RowKit Go.ChangeShapes Go.WideShapes
set_option linter.unusedVariables false
set_option linter.unusedSimpArgs false

set_option maxRecDepth 100000 in
set_option maxHeartbeats 4000000 in
theorem trace_nil_law (c : Int) (w : World) : Calls Try.prog 9 #[.int .u8 c] w fun e w' => e = .returned (.bool true) ∧ Keep [] w w' := by
  refine calls_abs fun R hR => ?_
  have mixed : Try.prog.follows .mixedOrders = true := by kernel_rfl
  have hmf : ∀ (fn : Fn) (first cap : Array Value) (w : World), (Instr.makeFunc fn first cap).run Try.prog w = .ok (.func fn first cap) w := fun _ _ _ _ => rfl
  have hln := fun w => layout_new 100 1 1 2 (by omega) (by omega) (by omega) (by omega) (by omega) (by omega) w
  have hwk := fun v w => trace_walk_nil (Lay.mk 1 1 2) v w
  have hrt := fun w => trace_roots_nil (Lay.mk 1 1 2) c w
  have hps := fun w => trace_pass_nil (Lay.mk 1 1 2) c w
  unfold Lay.val at hln hwk hrt hps
  dsimp only at hln hwk hrt hps
  push_cast at hln hwk hrt hps
  have HLN := Lib.hid hln; have HWK := Lib.hid hwk; have HRT := Lib.hid hrt; have HPS := Lib.hid hps
  clear hln hwk hrt hps
  go_enter Try.func9, Try.ntmps9
  go_wp2_with fail
  refine (HLN.out w).mono ?_
  rintro e w1 ⟨rfl, K1⟩
  go_wp2_with fail
  obtain ⟨z, hz⟩ : ∃ z, z = w1.heap.size := ⟨_, rfl⟩
  simp only [← hz]
  generalize hw2 : World.alloc _ _ = w2
  have b0 : w2.heap[z]? = some (.cells #[.int .i64 1, .int .i64 1, .int .i64 2] 53 (0, 0)) := by rw [← hw2]; exact alloc_keeps (alloc_new _ _ _ hz) _
  have b1 : w2.heap[z + 1]? = some (.cells #[.int .i64 0] 3 (0, 0)) := by rw [← hw2]; exact alloc_new _ _ _ (by simp [hz])
  have K2 : Keep [] w w2 := by rw [← hw2]; ((repeat (first | (with_reducible exact K1) | (with_reducible refine Keep.drew ?_) | (with_reducible refine Keep.drewN ?_ _) | (with_reducible refine Keep.alloc ?_ _) | ((with_reducible refine Keep.setCell ?_ ?_ _); rotate_left; focus (first | (simp; done) | (simp; omega) | (left; dsimp only; omega))))); done)
  have HB0 := Lib.hid b0; have HB1 := Lib.hid b1; have HK2 := Lib.hid K2
  clear hw2 hz b0 b1 K1 K2
  refine (HWK.out _ w2).mono ?_
  rintro e w3 ⟨rfl, K3⟩
  have b0 := K3.get HB0.out (by simp); have b1 := K3.get HB1.out (by simp)
  have c0 := cell_at b0; have l0 := lt_of_block b0
  have HB03 := Lib.hid b0; have HB13 := Lib.hid b1; have HK3 := Lib.hid (HK2.out.trans K3)
  clear b0 b1 K3
  go_wp2_with fail
  refine (HRT.out w3).mono ?_
  rintro e w4 ⟨rfl, K4⟩
  have b0 := K4.get HB03.out (by simp); have b1 := K4.get HB13.out (by simp)
  have c0 := cell_at b0; have l0 := lt_of_block b0; have c1 := cell_at b1; have l1 := lt_of_block b1
  have HK4 := Lib.hid (HK3.out.trans K4)
  clear b0 b1 K4
  go_wp2_with fail
  refine (HPS.out w4).mono ?_
  rintro e w5 ⟨rfl, K5⟩
  go_wp2_with fail
  refine (law21_wakes w5).mono ?_
  rintro e w6 ⟨rfl, K6⟩
  go_wp2_with fail
  exact hR.out _ _ ⟨rfl, (HK4.out.trans K5).trans K6⟩

set_option maxRecDepth 100000 in
theorem lawTraceNil_walk {H : Type} {enc : TypeId × Value → H} {base : Nat} (W : World) {v0 : Value} {d0 : DataW H} {p0 : List MemPlace}
    (ok0 : Value.okWide Try.prog W .any base 5 v0) (h0 : DataW.Trod enc Try.prog W 0 (fun _ => true) true 5 v0 d0 p0) :
    Calls Try.prog 9 #[v0] W fun e w' => e = .returned (.bool true) ∧ Below W.heap.size W w' := by
  obtain ⟨a0, rfl, rfl, rfl, w0⟩ := open_int Try.underlying5 ok0 h0
  refine (trace_nil_law a0 W).mono ?_
  rintro e w' ⟨rfl, K⟩
  exact ⟨rfl, K.below (Nat.le_refl _) (by simp)⟩
end Go.Proofs.Ytnadiddaeolanaa
