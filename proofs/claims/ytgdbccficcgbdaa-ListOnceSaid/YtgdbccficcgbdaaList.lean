/- The contracts of package list: a list's rows; its iterator. -/
import Derived.Test.YtgdbccficcgbdaaSlc4
import Derived.RangeFuncNested
import Derived.RangeFuncBound
import Derived.RangeFuncCalls
import Derived.RangeFuncLeaves
import Derived.Shelf.Abstract
import Derived.Shelf.RegionOpen
import Derived.WalkKit
import Derived.OwnWalkIn
import Derived.TacticsInMore
import Derived.LoopNIn
import Derived.LoopIn
namespace Go.Proofs.Ytgdbccficcgbdaa
open Go.RowKit Go.Shelf
attribute [local go_sem] Oper.semAt_some
set_option linter.unusedVariables false
set_option linter.unusedSimpArgs false

/-- A list at block b: its rows' values, what they hold. -/
structure Lst (w : World) (b : Nat) (V : Nat → Value) (L : Nat → List Int) : Prop where
  head : w.heap[b]? = some (.cells #[V 0, V 1, V 2, V 3] 128 (0, 0))
  rows : ∀ c, c < 4 → w.ownsRow (b + 1) 3 1 (V c) (L c).length (ints (L c))
  apart : ∀ c d g, c < 4 → d < 4 → (V c).ownBlock = some g → (V d).ownBlock = some g → c = d

def lblocks (b : Nat) (V : Nat → Value) : List Nat := b :: (List.range 4).filterMap fun c => (V c).ownBlock
theorem mem_lblocks {b g : Nat} {V : Nat → Value} : g ∈ lblocks b V ↔ g = b ∨ ∃ c, c < 4 ∧ (V c).ownBlock = some g := by
  simp [lblocks]
theorem Lst.keep {S : List Nat} {w w' : World} {b : Nat} {V : Nat → Value} {L : Nat → List Int} (h : Lst w b V L) (k : Keep S w w') (hS : ∀ g ∈ lblocks b V, g ∉ S) : Lst w' b V L :=
  ⟨k.get h.head (hS b (by simp [lblocks])), fun c hc => k.owns (h.rows c hc) (fun g hg => hS g (mem_lblocks.2 (.inr ⟨c, hc, hg⟩))), h.apart⟩
theorem Lst.blocks {w : World} {b : Nat} {V : Nat → Value} {L : Nat → List Int} (h : Lst w b V L) : ∀ g ∈ lblocks b V, b ≤ g ∧ g < w.heap.size := fun g hg => by
  rcases mem_lblocks.1 hg with rfl | ⟨c, hc, hg⟩
  · exact ⟨Nat.le_refl _, lt_of_block h.head⟩
  · have := owns_block (h.rows c hc) g hg
    omega
theorem Lst.row_above {w : World} {b : Nat} {V : Nat → Value} {L : Nat → List Int} (h : Lst w b V L) {c g : Nat} (hc : c < 4) (hg : (V c).ownBlock = some g) : b < g := by
  have := owns_block (h.rows c hc) g hg
  omega
theorem Lst.cell {w : World} {b : Nat} {V : Nat → Value} {L : Nat → List Int} (h : Lst w b V L) (c : Nat) (hc : c < 4) : w.cell? ⟨b, c, none⟩ = some (V c) := by
  rw [cell_at h.head]
  have : c = 0 ∨ c = 1 ∨ c = 2 ∨ c = 3 := by omega
  rcases this with rfl | rfl | rfl | rfl <;> rfl

def upd {α : Type} (f : Nat → α) (c : Nat) (x : α) : Nat → α := fun d => if d = c then x else f d
theorem upd_same {α : Type} (f : Nat → α) (c : Nat) (x : α) : upd f c x c = x := by simp [upd]
theorem upd_other {α : Type} (f : Nat → α) (c d : Nat) (x : α) (h : d ≠ c) : upd f c x d = f d := by simp [upd, h]

/-- A row's value is put anew. -/
theorem Lst.put {w : World} {b : Nat} {V : Nat → Value} {L : Nat → List Int} (h : Lst w b V L) {w' : World} (c : Nat) (hc : c < 4) (v : Value) (xs : List Int) {S : List Nat}
    (k : Keep S w w') (hb : b ∉ S) (hS : ∀ d g, d < 4 → d ≠ c → (V d).ownBlock = some g → g ∉ S) (hv : w'.ownsRow (b + 1) 3 1 v xs.length (ints xs))
    (hne : ∀ d g, d < 4 → d ≠ c → (V d).ownBlock = some g → v.ownBlock ≠ some g) :
    Lst (w'.setCell ⟨b, c, none⟩ v) b (upd V c v) (upd L c xs) := by
  have hh := k.get h.head hb
  refine ⟨?_, fun d hd => ?_, fun d e g hd he h1 h2 => ?_⟩
  · rw [put_at hh]
    have : c = 0 ∨ c = 1 ∨ c = 2 ∨ c = 3 := by omega
    rcases this with rfl | rfl | rfl | rfl <;> simp [upd]
  · have hk : Keep [b] w' (w'.setCell ⟨b, c, none⟩ v) := (Keep.refl _ _).setCell (by simp) _
    by_cases e : d = c
    · subst e
      rw [upd_same, upd_same]
      exact hk.owns hv (fun g hg => by have := owns_block hv g hg; simp; omega)
    · rw [upd_other _ _ _ _ e, upd_other _ _ _ _ e]
      refine hk.owns (k.owns (h.rows d hd) (fun g hg => hS d g hd e hg)) (fun g hg => by have := owns_block (h.rows d hd) g hg; simp; omega)
  · by_cases e1 : d = c
    · by_cases e2 : e = c
      · omega
      · rw [e1, upd_same] at h1
        rw [upd_other _ _ _ _ e2] at h2
        exact absurd h1 (hne e g he e2 h2)
    · by_cases e2 : e = c
      · rw [e2, upd_same] at h2
        rw [upd_other _ _ _ _ e1] at h1
        exact absurd h2 (hne d g hd e1 h1)
      · rw [upd_other _ _ _ _ e1] at h1
        rw [upd_other _ _ _ _ e2] at h2
        exact h.apart d e g hd he h1 h2

set_option maxRecDepth 100000 in
theorem list_new (w : World) :
    Calls Try.prog 54 #[] w fun e w' => e = .returned (.pointer (some ⟨w.heap.size, 0, none⟩)) ∧ Lst w' w.heap.size (fun _ => .slice none 0 0) (fun _ => []) ∧ Keep [] w w' := by
  refine calls_abs fun R hR => ?_
  go_enter Try.func54, Try.ntmps54
  go_wp2_with fail
  refine hR.out _ _ ⟨rfl, ⟨alloc_new _ _ _ rfl, fun c hc => World.ownsRow_nil _ _ _ _, fun c d g hc hd h => by simp [Value.ownBlock] at h⟩, (by repeat (first | (with_reducible exact Keep.refl _ _) | (with_reducible refine Keep.drew ?_) | (with_reducible refine Keep.drewN ?_ _) | (with_reducible refine Keep.alloc ?_ _) | (with_reducible refine Keep.setCell ?_ (by first | (simp; done) | (simp; omega) | (left; dsimp only; omega)) _)))⟩

theorem list_row_nil (c : Int) (w : World) :
    Calls Try.prog 74 #[.pointer none, .int .i64 c] w fun e w' => e = .returned (.tuple #[.pointer none, .int .i64 1]) ∧ w' = w := by
  refine calls_abs fun R hR => ?_
  go_enter Try.func74, Try.ntmps74
  go_wp2_with fail
  exact hR.out _ _ ⟨rfl, rfl⟩
theorem list_row_out (b : Nat) (c : Int) (h : c < 0 ∨ 4 ≤ c) (w : World) :
    Calls Try.prog 74 #[.pointer (some ⟨b, 0, none⟩), .int .i64 c] w fun e w' => e = .returned (.tuple #[.pointer none, .int .i64 2]) ∧ w' = w := by
  refine calls_abs fun R hR => ?_
  by_cases h1 : c < 0
  · go_enter Try.func74, Try.ntmps74
    go_wp2_with fail
    exact hR.out _ _ ⟨rfl, rfl⟩
  · have h2 : 4 ≤ c := by omega
    go_enter Try.func74, Try.ntmps74
    go_wp2_with fail
    exact hR.out _ _ ⟨rfl, rfl⟩
theorem list_row (b : Nat) (c : Int) (k : Nat) (hc : c = k) (hk : k < 4) (w : World) :
    Calls Try.prog 74 #[.pointer (some ⟨b, 0, none⟩), .int .i64 c] w fun e w' => e = .returned (.tuple #[.pointer (some ⟨b, k, none⟩), .int .i64 0]) ∧ w' = w := by
  refine calls_abs fun R hR => ?_
  subst hc
  have h1 : ¬ (k : Int) < 0 := by omega
  have h2 : ¬ 4 ≤ (k : Int) := by omega
  have h3 : (0 : Int) ≤ (k : Int) := by omega
  have h4 : (k : Int) < 4 := by omega
  go_enter Try.func74, Try.ntmps74
  go_wp2_with fail
  exact hR.out _ _ ⟨rfl, rfl⟩

theorem list_each (p : Option Addr) (w : World) :
    Calls Try.prog 76 #[.pointer p] w fun e w' => e = .returned (.func (.func 80) #[] #[.pointer (some ⟨w.heap.size, 0, none⟩)]) ∧ w' = w.alloc (.cells #[.pointer p] 89 (0, 0)) := by
  refine calls_abs fun R hR => ?_
  go_enter Try.func76, Try.ntmps76
  go_wp2_with fail
  exact hR.out _ _ ⟨rfl, rfl⟩

/-- A class of places. -/
abbrev Cls := { k : Nat // k < 4 }
/-- What a round must keep of the iterator's own. -/
def Held (B : Nat) (p : Option Addr) (W W' : World) : Prop := W.cell? ⟨B, 0, none⟩ = some (.pointer p) → W'.cell? ⟨B, 0, none⟩ = some (.pointer p)

set_option maxRecDepth 100000 in
set_option maxHeartbeats 4000000 in
theorem each_stops (n b B : Nat) (hn : 3 ≤ n) (w : World) (hB : w.heap[B]? = some (.cells #[.pointer (some ⟨b, 0, none⟩)] 89 (0, 0))) :
    SeqStopsK (α := Cls) Fence.wide n Try.prog 80 #[.pointer (some ⟨B, 0, none⟩)] (fun x => #[.pointer (some ⟨b, x.1, none⟩)]) (Held B (some ⟨b, 0, none⟩)) (fun xs => xs.map (·.1) = List.range 4) (fun pre => pre.map (·.1) <+: List.range 4) 4 w := by
  intro l J Jx W hW hJ hJx hY h0
  have hB0 : W.cell? ⟨B, 0, none⟩ = some (.pointer (some ⟨b, 0, none⟩)) := (cell_at (Keep.get (Keep.of_below hW) hB (by simp)) 0)
  refine callsIn_of_wp Try.func80 rfl trivial ?_ rfl
  simp only [Try.ntmps80, List.size_toArray, List.length_cons, List.length_nil, Nat.reduceAdd, Nat.reduceSub, Array.replicate_succ, Array.replicate_zero, List.push_toArray, List.append_toArray, List.nil_append, List.cons_append]
  gi_wp2
  gi_loopw [6] (fun p wr => ∃ (k : Nat) (pre : List Cls), p = .int .i64 k ∧ k ≤ 4 ∧ pre.map (·.1) = List.range k ∧ wr.cell? ⟨B, 0, none⟩ = some (.pointer (some ⟨b, 0, none⟩)) ∧ J pre wr) (fun p wr => 4 - (intOf p).toNat)
  case atStart => exact ⟨0, [], rfl, by omega, rfl, hB0, h0⟩
  case round =>
    obtain ⟨k, pre, rfl, hk, hpre, hcell, hJs⟩ := hrel
    have hlen : pre.length = k := by have := congrArg List.length hpre; simpa using this
    by_cases hk4 : k < 4
    · obtain ⟨fn, tmps, assign, body, hy, hR⟩ := hY pre ⟨k, hk4⟩ wr hJs (by omega)
      dsimp only at hy
      have i1 : (k : Int) < 4 := by omega
      gi_wp2
      refine ⟨trivial, (fun h => by cases h), ?_⟩
      refine (callsIn_wide.2 (list_row b k k rfl hk4 wr)).mono ?_
      rintro e w' ⟨rfl, rfl⟩
      gi_wp2
      refine ⟨(fun h => by cases h), ?_⟩
      refine hR.mono ?_
      rintro e W3 (⟨rfl, hJ3, hk3⟩ | ⟨rfl, hJx3⟩)
      · have hc3 := hk3 hcell
        gi_wp2
        go_roundw
        case rel => exact ⟨k + 1, pre ++ [⟨k, hk4⟩], by simp, by omega, by rw [List.map_append, hpre, List.range_succ]; rfl, hc3, hJ3⟩
        case measure => simp [intOf]; omega
      · gi_wp2
        refine bodyPost_ret (results_none rfl _ _ _) rfl ?_
        refine ⟨⟨_, rfl⟩, .inr ⟨pre ++ [⟨k, hk4⟩], ?_, hJx3⟩⟩
        rw [List.map_append, hpre]
        have h4 : k = 0 ∨ k = 1 ∨ k = 2 ∨ k = 3 := by omega
        rcases h4 with rfl | rfl | rfl | rfl
        · exact (by decide : List.range 0 ++ [0] <+: List.range 4)
        · exact (by decide : List.range 1 ++ [1] <+: List.range 4)
        · exact (by decide : List.range 2 ++ [2] <+: List.range 4)
        · exact (by decide : List.range 3 ++ [3] <+: List.range 4)
    · obtain rfl : k = 4 := by omega
      gi_wp2
      refine bodyPost_end (results_none rfl _ _ _) rfl ?_
      exact ⟨⟨_, rfl⟩, .inl ⟨pre, hpre, hJs⟩⟩

/-- Of no list there is no row. -/
theorem each_stops_nil (n B : Nat) (hn : 3 ≤ n) (w : World) (hB : w.heap[B]? = some (.cells #[.pointer none] 89 (0, 0))) :
    SeqStopsK (α := Cls) Fence.wide n Try.prog 80 #[.pointer (some ⟨B, 0, none⟩)] (fun x => #[.pointer none]) (Held B none) (fun xs => xs = []) (fun pre => False) 0 w := by
  intro l J Jx W hW hJ hJx hY h0
  have hB0 : W.cell? ⟨B, 0, none⟩ = some (.pointer none) := (cell_at (Keep.get (Keep.of_below hW) hB (by simp)) 0)
  refine callsIn_of_wp Try.func80 rfl trivial ?_ rfl
  simp only [Try.ntmps80, List.size_toArray, List.length_cons, List.length_nil, Nat.reduceAdd, Nat.reduceSub, Array.replicate_succ, Array.replicate_zero, List.push_toArray, List.append_toArray, List.nil_append, List.cons_append]
  gi_wp2
  gi_loopw [6] (fun p wr => ∃ (k : Nat), p = .int .i64 k ∧ k ≤ 4 ∧ wr = W) (fun p wr => 4 - (intOf p).toNat)
  case atStart => exact ⟨0, rfl, by omega, rfl⟩
  case round =>
    obtain ⟨k, rfl, hk, rfl⟩ := hrel
    by_cases hk4 : k < 4
    · have i1 : (k : Int) < 4 := by omega
      gi_wp2
      refine ⟨trivial, (fun h => by cases h), ?_⟩
      refine (callsIn_wide.2 (list_row_nil k wr)).mono ?_
      rintro e w' ⟨rfl, rfl⟩
      gi_wp2
      refine ⟨fun _ h => (by cases h), ?_⟩
      gi_wp2
      go_roundw
      case rel => exact ⟨k + 1, by simp, by omega, by first | trivial | rfl⟩
      case measure => simp [intOf]; omega
    · obtain rfl : k = 4 := by omega
      gi_wp2
      refine bodyPost_end (results_none rfl _ _ _) rfl ?_
      exact ⟨⟨_, rfl⟩, .inl ⟨[], rfl, h0⟩⟩
end Go.Proofs.Ytgdbccficcgbdaa
