/- demesnelaw14: Made, entry, wakes. -/
import Derived.Test.YtnadiddaeolanaaPlain14
import Derived.Test.YtnadiddaeolanaaLayNew
namespace Go.Proofs.Ytnadiddaeolanaa
open Go.RowKit
set_option linter.unusedVariables false
set_option linter.unusedSimpArgs false

def layV (n : Nat) : Value := .agg #[.int .i64 1, .int .i64 1, .int .i64 n]
theorem layV_eq (n : Nat) : (lay1 n).val = layV n := by simp [lay1, Lay.val, layV]
set_option maxRecDepth 100000 in
set_option maxHeartbeats 2000000 in
theorem law14_made (n : Nat) (h : 1 ≤ n ∧ n ≤ 20) (w : World) :
    Calls Try.prog 33 #[.int .i64 n] w fun e w' => ∃ b g, e = .returned (.tuple #[.pointer (some ⟨b, 0, none⟩), layV n, .bool true]) ∧ Arn w' b g (List.replicate (5 + 33 * n) 0) 0 (-1) ∧ Keep [] w w' ∧ w.heap.size ≤ b ∧ w.heap.size ≤ g := by
  refine calls_abs fun R hR => ?_
  have mixed : Try.prog.follows .mixedOrders = true := by kernel_rfl
  have hln := fun w => layout_new (5 + 33 * n) 1 1 n (by omega) (by omega) (by omega) (by omega) (by omega) (by omega) w
  have hbl := fun w => layout_blocks (lay1 n) w
  have hval : (Lay.mk 1 1 n).val = layV n := layV_eq n
  rw [layV_eq] at hbl
  rw [hval] at hln
  have hlb : (lay1 n).b = n := rfl
  rw [hlb] at hbl
  clear hval hlb
  have hw1 : IntKind.i64.wrap (33 * (n : Int)) = 33 * n := by rw [IntKind.wrap_i64]; omega
  have hw2 : IntKind.i64.wrap (5 + 33 * (n : Int)) = ((5 + 33 * n : Nat) : Int) := by rw [IntKind.wrap_i64]; omega
  have hL1 : 1 ≤ 5 + 33 * n := by omega
  have hL2 : 5 + 33 * n ≤ 4096 := by omega
  generalize 5 + 33 * n = L at *
  simp only [Int.natCast_one, Int.ofNat_eq_natCast] at hln
  unfold layV at hR hln hbl
  have HLN := Lib.hid hln; have HBL := Lib.hid hbl; have HL1 := Lib.hid hL1; have HL2 := Lib.hid hL2
  clear hln hbl hL1 hL2
  go_enter Try.func33, Try.ntmps33
  go_wp2_with fail
  obtain ⟨z, hz⟩ : ∃ z, z = w.heap.size := ⟨_, rfl⟩
  simp only [← hz]
  generalize hw3 : World.alloc _ _ = w1
  have b1 : w1.heap[z]? = some (.cells #[.int .i64 0, .int .i64 0, .int .i64 0] 53 (0, 0)) := by rw [← hw3]; exact alloc_new _ _ _ hz
  have K1 : Keep [] w w1 := by rw [← hw3]; exact (by repeat (first | (with_reducible exact Keep.refl _ _) | (with_reducible refine Keep.drew ?_) | (with_reducible refine Keep.drewN ?_ _) | (with_reducible refine Keep.alloc ?_ _) | (with_reducible refine Keep.setCell ?_ (by first | (simp; done) | (simp; omega) | (left; dsimp only; omega)) _)))
  have HB1 := Lib.hid b1; have HK1 := Lib.hid K1; have HZ := Lib.hid hz
  clear hw3 hz b1 K1
  refine (arena_new _ L rfl HL1.out HL2.out w1).mono ?_
  rintro e w2 ⟨b, g, rfl, A2, K2, hb, hg⟩
  have HA2 := Lib.hid A2; have b2 := K2.get HB1.out (by simp); have HK2 := Lib.hid (HK1.out.trans K2)
  have HB2 := Lib.hid b2
  have HBG : Hid ((w.heap.size ≤ b ∧ w.heap.size ≤ g) ∧ z < b ∧ z < g) := by have := HK1.out.size; have := lt_of_block HB1.out; exact ⟨⟨by omega, by omega⟩, by omega, by omega⟩
  clear A2 b2 K2 hb hg
  go_wp2_with fail
  refine (HLN.out w2).mono ?_
  rintro e w3 ⟨rfl, K3⟩
  have HA3 := Lib.hid (HA2.out.keep K3 (by simp) (by simp)); have b3 := K3.get HB2.out (by simp); have HK3 := Lib.hid (HK2.out.trans K3)
  have c3 := cell_at b3; have f3 := frozen_at b3; have l3 := lt_of_block b3
  have HB3 := Lib.hid b3
  clear b3 K3
  go_wp2_with fail
  obtain ⟨y, hy⟩ : ∃ y, y = w3.heap.size := ⟨_, rfl⟩
  simp only [← hy]
  generalize hw4 : World.alloc _ _ = w4
  have b4 : w4.heap[y]? = some (.cells #[.int .i64 1, .int .i64 1, .int .i64 n] 53 (0, 0)) := by rw [← hw4]; exact alloc_new _ _ _ hy
  have K4 : Keep [] w3 w4 := by rw [← hw4]; exact (by repeat (first | (with_reducible exact Keep.refl _ _) | (with_reducible refine Keep.drew ?_) | (with_reducible refine Keep.drewN ?_ _) | (with_reducible refine Keep.alloc ?_ _) | (with_reducible refine Keep.setCell ?_ (by first | (simp; done) | (simp; omega) | (left; dsimp only; omega)) _)))
  have d3 := K4.get HB3.out (by simp)
  have HB4 := Lib.hid b4; have HK4 := Lib.hid (HK3.out.trans K4); have HA4 := Lib.hid (HA3.out.keep K4 (by simp) (by simp)); have HZY : Hid (z < y) := by rw [Hid]; omega
  have c3 := cell_at d3; have f3 := frozen_at d3; have l3 := lt_of_block d3
  have c4 := cell_at b4; have l4 := lt_of_block b4
  have HD3 := Lib.hid d3
  clear b4 d3 K4 hy hw4
  have C0 : Hid (w4.cell? ⟨y, 0, none⟩ = some (.int .i64 1)) := by rw [Hid, c4]; rfl
  have C1 : Hid (w4.cell? ⟨y, 1, none⟩ = some (.int .i64 1)) := by rw [Hid, c4]; rfl
  have C2 : Hid (w4.cell? ⟨y, 2, none⟩ = some (.int .i64 n)) := by rw [Hid, c4]; rfl
  have hzy := HZY.out
  first
  | (go_region_held3 (fun w' => w'.cell? ⟨y, 0, none⟩ = some (.int .i64 1) ∧ w'.cell? ⟨y, 1, none⟩ = some (.int .i64 1) ∧ w'.cell? ⟨y, 2, none⟩ = some (.int .i64 n))
      (first
        | (refine ⟨Keep.cell (S := [z]) (w := w4) ?_ C0.out (by simp; omega), Keep.cell (S := [z]) (w := w4) ?_ C1.out (by simp; omega), Keep.cell (S := [z]) (w := w4) ?_ C2.out (by simp; omega)⟩; all_goals (((repeat (first | (with_reducible exact Keep.refl _ _) | (with_reducible refine Keep.drew ?_) | (with_reducible refine Keep.drewN ?_ _) | (with_reducible refine Keep.alloc ?_ _) | ((with_reducible refine Keep.setCell ?_ ?_ _); rotate_left; focus (first | (simp; done) | (simp; omega) | (left; dsimp only; omega))))); done)))
        | (refine ⟨Keep.cell (S := [z]) (w := w4) ?_ C0.out (by simp; omega), Keep.cell (S := [z]) (w := w4) ?_ C1.out (by simp; omega), Keep.cell (S := [z]) (w := w4) ?_ C2.out (by simp; omega)⟩; all_goals (((repeat (first | (with_reducible exact HK5.out.mono (by simp)) | (with_reducible refine Keep.drew ?_) | (with_reducible refine Keep.drewN ?_ _) | (with_reducible refine Keep.alloc ?_ _) | ((with_reducible refine Keep.setCell ?_ ?_ _); rotate_left; focus (first | (simp; done) | (simp; omega) | (left; dsimp only; omega))))); done))))
      (first | (go_at_call 53; refine (HBL.out _).mono ?_; rintro e w5 ⟨rfl, K5⟩; have HK5 := Lib.hid (show Keep [] w4 w5 from by refine Keep.trans (a := w4) ?_ K5; ((repeat (first | (with_reducible exact Keep.refl _ _) | (with_reducible refine Keep.drew ?_) | (with_reducible refine Keep.drewN ?_ _) | (with_reducible refine Keep.alloc ?_ _) | ((with_reducible refine Keep.setCell ?_ ?_ _); rotate_left; focus (first | (simp; done) | (simp; omega) | (left; dsimp only; omega))))); done)); have b5 := HK5.out.get HD3.out (by simp); have c5 := cell_at b5; have f5 := frozen_at b5; have l5 := lt_of_block b5; clear K5 b5)))
  | fail
  all_goals (
    go_wp2_with fail
    refine bodyPost_ret (v := .tuple #[.pointer (some ⟨b, 0, none⟩), .agg #[.int .i64 1, .int .i64 1, .int .i64 n], .bool true]) ?_ rfl ?_
    · simp [results, Try.results33, go_sem, c3, c5, l3, l5]
    have hz := HZ.out
    have hk := HK4.out.trans HK5.out
    have ha : Arn w5 b g (List.replicate L 0) 0 (-1) := HA4.out.keep HK5.out (by simp) (by simp)
    have hbz := HBG.out.2
    exact hR.out _ _ ⟨b, g, rfl, ha.keep (S := [z]) (by ((repeat (first | (with_reducible exact Keep.refl _ _) | (with_reducible refine Keep.drew ?_) | (with_reducible refine Keep.drewN ?_ _) | (with_reducible refine Keep.alloc ?_ _) | ((with_reducible refine Keep.setCell ?_ ?_ _); rotate_left; focus (first | (simp; done) | (simp; omega) | (left; dsimp only; omega))))); done)) (by simp; omega) (by simp; omega), by ((repeat (first | (with_reducible exact hk) | (with_reducible refine Keep.drew ?_) | (with_reducible refine Keep.drewN ?_ _) | (with_reducible refine Keep.alloc ?_ _) | ((with_reducible refine Keep.setCell ?_ ?_ _); rotate_left; focus (first | (simp; done) | (simp; omega) | (left; dsimp only; omega))))); done), HBG.out.1⟩)

set_option maxRecDepth 100000 in
theorem law14_entry (e : En) (w : World) :
    Calls Try.prog 44 #[e.val] w fun x w' => x = .returned e.val ∧ Keep [] w w' := by
  refine calls_abs fun R hR => ?_
  obtain ⟨k, c, r, o⟩ := e
  unfold En.val at *
  go_enter Try.func44, Try.ntmps44
  go_wp2_with fail
  refine bodyPost_ret (v := .agg #[.int .u8 k, .int .u8 c, .int .u8 r, .int .u8 o]) ?_ rfl ?_
  · simp [results, Try.results44, go_sem]
  exact hR.out _ _ ⟨rfl, (by repeat (first | (with_reducible exact Keep.refl _ _) | (with_reducible refine Keep.drew ?_) | (with_reducible refine Keep.drewN ?_ _) | (with_reducible refine Keep.alloc ?_ _) | (with_reducible refine Keep.setCell ?_ (by first | (simp; done) | (simp; omega) | (left; dsimp only; omega)) _)))⟩

set_option maxRecDepth 100000 in
theorem law14_fn (x o : Int) (a : Nat) (cs : Array Value) (t : TypeId) (hc : cs[3]? = some (.int .u8 o)) (w : World) (h : w.heap[a]? = some (.cells cs t (0, 0))) :
    Calls Try.prog 41 #[.int .u8 x, .pointer (some ⟨a, 0, none⟩)] w fun e w' => e = .returned (.bool (x == o)) ∧ Keep [] w w' := by
  refine calls_abs fun R hR => ?_
  have c : w.cell? ⟨a, 3, none⟩ = some (.int .u8 o) := by rw [cell_at h]; exact hc
  clear h hc
  go_enter Try.func41, Try.ntmps41
  go_wp2_with fail
  exact hR.out _ _ ⟨rfl, (by repeat (first | (with_reducible exact Keep.refl _ _) | (with_reducible refine Keep.drew ?_) | (with_reducible refine Keep.drewN ?_ _) | (with_reducible refine Keep.alloc ?_ _) | (with_reducible refine Keep.setCell ?_ (by first | (simp; done) | (simp; omega) | (left; dsimp only; omega)) _)))⟩
end Go.Proofs.Ytnadiddaeolanaa
