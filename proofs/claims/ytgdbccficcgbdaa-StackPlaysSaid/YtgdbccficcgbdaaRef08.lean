/- The contracts of the reference of stack. -/
import Derived.Test.YtgdbccficcgbdaaStack
import Derived.Deep.RegionHeld3
import Derived.Deep.DrawnRows
import Derived.StillTailTactics
namespace Go.Proofs.Ytgdbccficcgbdaa
open Go.RowKit
attribute [local go_sem ↓] Go.wp_at_zero Go.wp_at_succ
set_option linter.unusedVariables false

theorem ref08_pop_empty (room : Int) (ao : Option Addr) (cap : Nat) (over : Bool) (w : World) :
    Calls Try.prog 21 #[.agg #[.int .i64 room, .slice ao 0 cap, .bool over]] w fun e w' => e = .returned (.tuple #[.agg #[.int .i64 room, .slice ao 0 cap, .bool over], .int .i64 0, .bool false]) ∧ Keep [] w w' := by
  refine calls_abs fun R hR => ?_
  go_enter Try.func21, Try.ntmps21
  go_wp2
  refine bodyPost_ret (v := .tuple #[.agg #[.int .i64 room, .slice ao 0 cap, .bool over], .int .i64 0, .bool false]) (by simp [results, Try.results21, go_sem]) rfl ?_
  exact hR.out _ _ ⟨rfl, ((Keep.refl _ _).alloc _).alloc _⟩

theorem ref08_pop_some (room x : Int) (g o n cap : Nat) (over : Bool) (w : World) (hn : n + 1 ≤ cap) (hc : cap ≤ 9223372036854775807) (hx : w.cell? ⟨g, o + n, none⟩ = some (.int .i64 x)) :
    Calls Try.prog 21 #[.agg #[.int .i64 room, .slice (some ⟨g, o, none⟩) (n + 1) cap, .bool over]] w fun e w' => e = .returned (.tuple #[.agg #[.int .i64 room, .slice (some ⟨g, o, none⟩) n cap, .bool over], .int .i64 x, .bool true]) ∧ Keep [] w w' := by
  refine calls_abs fun R hR => ?_
  have hlt := World.block_lt_of_cell? w _ hx
  go_enter Try.func21, Try.ntmps21
  go_wp2
  go_region
  go_wp2
  refine bodyPost_ret (v := .tuple #[.agg #[.int .i64 room, .slice (some ⟨g, o, none⟩) n cap, .bool over], .int .i64 x, .bool true]) (by simp [results, Try.results21, go_sem]) rfl ?_
  exact hR.out _ _ ⟨rfl, ((((Keep.refl _ _).alloc _).alloc _).drew)⟩

theorem ref08_push_full (room x : Int) (ao : Option Addr) (n cap : Nat) (over : Bool) (w : World) (h : room ≤ n) :
    Calls Try.prog 22 #[.agg #[.int .i64 room, .slice ao n cap, .bool over], .int .i64 x] w fun e w' => e = .returned (.tuple #[.agg #[.int .i64 room, .slice ao n cap, .bool true], .bool false]) ∧ Keep [] w w' := by
  refine calls_abs fun R hR => ?_
  go_enter Try.func22, Try.ntmps22
  go_wp2
  refine bodyPost_ret (v := .tuple #[.agg #[.int .i64 room, .slice ao n cap, .bool true], .bool false]) (by simp [results, Try.results22, go_sem]) rfl ?_
  exact hR.out _ _ ⟨rfl, ((Keep.refl _ _).alloc _).alloc _⟩

set_option maxHeartbeats 1000000 in
theorem ref08_push (room x : Int) (ao : Option Addr) (n cap : Nat) (cs : List Value) (over : Bool) (w : World) (h : ¬ room ≤ n) (hr : Rd w (.slice ao n cap) n cs) (hl : cs.length = n) (hb : (n + 1) * 8 ≤ 140737488355328) :
    Calls Try.prog 22 #[.agg #[.int .i64 room, .slice ao n cap, .bool over], .int .i64 x] w fun e w' => ∃ ao' cap', e = .returned (.tuple #[.agg #[.int .i64 room, .slice ao' (n + 1) cap', .bool over], .bool true]) ∧ Rd w' (.slice ao' (n + 1) cap') (n + 1) (cs ++ [.int .i64 x]) ∧ Keep [] w w' ∧ (∀ a, ao' = some a → w.heap.size ≤ a.block) := by
  refine calls_abs fun R hR => ?_
  have HH := Lib.hid hr
  clear hr
  go_enter Try.func22, Try.ntmps22
  go_wp2
  go_region_held3 (fun w' => w'.cell? ⟨w.heap.size, 0, none⟩ = some (.int .i64 room) ∧ w'.cell? ⟨w.heap.size, 1, none⟩ = some (.slice ao n cap) ∧ w'.cell? ⟨w.heap.size, 2, none⟩ = some (.bool over))
    (go_keep)
    ((first
      | (refine step_append_nil _ (by rfl) _ _ _ (by rfl) elem_int (w.heap.size + 2) (by rfl) (.slice ao n cap) n cs (by rfl) (HH.out.keep (S := []) (by repeat (first | (with_reducible exact Keep.refl _ _) | (with_reducible refine Keep.drew ?_) | (with_reducible refine Keep.drewN ?_ _) | (with_reducible refine Keep.alloc ?_ _) | (with_reducible refine Keep.setCell ?_ (by first | (simp; done) | (simp; omega) | (left; dsimp only; omega)) _))) (by simp)) (by simpa using hl) (by simp [maxLen]; omega) (by omega) (by simp) ?_
         intro ao2 cap2 w2 ho2 hg2
         have b2 := grown_get hg2 (b := w.heap.size) (o := .cells #[.int .i64 room, .slice ao n cap, .bool over] 37 (0, 0)) (by first | exact alloc_keeps (alloc_new w _ _ rfl) _ | exact alloc_keeps (alloc_keeps (alloc_new w _ _ rfl) _) _) (by simp)
         have b2' := grown_get hg2 (b := w.heap.size + 1) (o := .cells #[.int .i64 0, .slice none 0 0, .bool false] 37 (0, 0)) (by first | exact alloc_new (w.alloc _) _ _ (by simp) | exact alloc_keeps (alloc_new (w.alloc _) _ _ (by simp)) _) (by simp)
         have e2 := cell_at b2)
      | (refine step_append_rd _ (by rfl) _ _ _ (by rfl) elem_int (w.heap.size + 2) (.slice ao2 n cap2) n cs (by rfl) (Keep.owns (S := []) (by repeat (first | (with_reducible exact Keep.refl _ _) | (with_reducible refine Keep.drew ?_) | (with_reducible refine Keep.drewN ?_ _) | (with_reducible refine Keep.alloc ?_ _) | (with_reducible refine Keep.setCell ?_ (by first | (simp; done) | (simp; omega) | (left; dsimp only; omega)) _))) ho2 (by simp)) _ 1 [.int .i64 x] (by rfl) (by first | exact Rd.one (alloc_new _ _ _ (by simp)) rfl | exact Rd.one (grown_get hg2 (alloc_new _ _ _ (by simp)) (by simp)) rfl) (by simp) (by simp [maxLen]; omega) (by omega) (by have := hg2.size; simp at this ⊢; omega) ?_
         intro ao3 cap3 w3 ho3 hg3
         have hne : ∀ b, b < w.heap.size + 2 → some b ≠ (Value.slice ao2 n cap2).ownBlock := fun b hb h => by have hh := owns_block ho2 _ h.symm; omega
         have b3 := grown_get hg3 (b := w.heap.size) (o := .cells #[.int .i64 room, .slice ao n cap, .bool over] 37 (0, 0)) (by first | exact b2 | exact alloc_keeps b2 _) (hne _ (by omega))
         have b3' := grown_get hg3 (b := w.heap.size + 1) (o := .cells #[.int .i64 0, .slice none 0 0, .bool false] 37 (0, 0)) (by first | exact b2' | exact alloc_keeps b2' _) (hne _ (by omega))
         have e3 := cell_at b3
         have e3' := cell_at b3'
         have f3' := frozen_at b3')))
  all_goals
    go_wp2
    have HK2 : Keep [] w w2 := Keep.grown (S := []) (a := w) (by repeat (first | (with_reducible exact Keep.refl _ _) | (with_reducible refine Keep.drew ?_) | (with_reducible refine Keep.drewN ?_ _) | (with_reducible refine Keep.alloc ?_ _) | (with_reducible refine Keep.setCell ?_ (by first | (simp; done) | (simp; omega) | (left; dsimp only; omega)) _))) hg2 (by simp)
    have HK3 : Keep [] w w3 := Keep.grown (S := []) (a := w) (by first | exact HK2 | exact HK2.alloc _) hg3 (fun k hk => .inl (by have := owns_block ho2 k hk; omega))
    refine bodyPost_ret (v := .tuple #[.agg #[.int .i64 room, .slice ao3 (n + 1) cap3, .bool over], .bool true]) (by simp [results, Try.results22, go_sem, e3']) rfl ?_
    refine hR.out _ _ ⟨_, _, rfl, (Rd.of_owns ho3 (by have := HH.out.ones; simp; intro u hu; rcases hu with hu | rfl; exact this u hu; rfl)).keep (S := [w.heap.size + 1]) (by repeat (first | (with_reducible exact Keep.refl _ _) | (with_reducible refine Keep.drew ?_) | (with_reducible refine Keep.drewN ?_ _) | (with_reducible refine Keep.alloc ?_ _) | (with_reducible refine Keep.setCell ?_ (by first | (simp; done) | (simp; omega) | (left; dsimp only; omega)) _))) (fun g hg hm => ?_), ((HK3.setCell (by simp) _).setCell (by simp) _).setCell (by simp) _, fun a ha => ?_⟩
    · simp at hm
      have := owns_block ho3 g hg
      omega
    · subst ha
      have := owns_block ho3 a.block rfl
      omega
end Go.Proofs.Ytgdbccficcgbdaa
