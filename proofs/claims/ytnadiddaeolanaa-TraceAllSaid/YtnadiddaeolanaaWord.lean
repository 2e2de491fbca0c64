/- Headers and words, in plain Lean; the contracts of package word. -/
import Derived.Test.YtnadiddaeolanaaProg
import Derived.Test.YtnadiddaeolanaaLib
import Derived.WalkSpells
import Derived.BigQuiet
import Derived.Deep.QuietTactic
import Derived.Deep.RegionHeld3
import Derived.Laws.StructEq
import Derived.WalkLawsBesides
import Derived.WalkSmall
namespace Go.Proofs.Ytnadiddaeolanaa
open Go.RowKit
set_option linter.unusedVariables false
set_option linter.unusedSimpArgs false

/-- A cell's header. -/
structure Hd where
  kind : Int
  colour : Int
  grey : Bool
  marked : Bool
  owner : Int
  refs : Int
  size : Int

def Hd.zero : Hd := ⟨0, 0, false, false, 0, 0, 0⟩
def Hd.cells (h : Hd) : Array Value := #[.int .u8 h.kind, .int .u8 h.colour, .bool h.grey, .bool h.marked, .int .u8 h.owner, .int .u8 h.refs, .int .u8 h.size]
def Hd.val (h : Hd) : Value := .agg #[.int .u8 h.kind, .int .u8 h.colour, .bool h.grey, .bool h.marked, .int .u8 h.owner, .int .u8 h.refs, .int .u8 h.size]
/-- Its parts are bytes. -/
def Hd.u8 (h : Hd) : Prop := (0 ≤ h.kind ∧ h.kind ≤ 255) ∧ (0 ≤ h.colour ∧ h.colour ≤ 255) ∧ (0 ≤ h.owner ∧ h.owner ≤ 255) ∧ (0 ≤ h.refs ∧ h.refs ≤ 255) ∧ (0 ≤ h.size ∧ h.size ≤ 255)
def Hd.may (h : Hd) : Bool :=
  if 3 < h.kind ∨ 1 < h.colour ∨ 63 < h.owner ∨ 95 < h.size ∨ h.size < h.refs then false
  else if h.kind < 2 then h.colour == 0 && h.size == 0 && !h.grey && !h.marked
  else if h.kind = 2 then !h.grey && h.colour == 0
  else !h.marked
def Hd.word (h : Hd) : Int := h.kind + 4 * h.colour + 32 * h.owner + 2048 * h.refs + 262144 * h.size + (if h.grey then 8 else 0) + (if h.marked then 16 else 0)
def hdOf (w : Int) : Hd := ⟨w % 4, w / 4 % 2, w / 8 % 2 == 1, w / 16 % 2 == 1, w / 32 % 64, w / 2048 % 128, w / 262144 % 128⟩
def isHd (w : Int) : Bool := (hdOf w).may && (hdOf w).word == w
def takeH (w : Int) : Hd := if isHd w then hdOf w else Hd.zero
def errOf (b : Bool) (e : Int) : Int := if b then 0 else e

theorem hdOf_u8 (w : Int) (h : 0 ≤ w) : (hdOf w).u8 := by
  unfold Hd.u8 hdOf
  refine ⟨⟨?_, ?_⟩, ⟨?_, ?_⟩, ⟨?_, ?_⟩, ⟨?_, ?_⟩, ⟨?_, ?_⟩⟩ <;> dsimp only <;> omega

set_option maxRecDepth 100000 in
set_option maxHeartbeats 4000000 in
theorem word_may (h : Hd) (hu : h.u8) (w : World) :
    Calls Try.prog 127 #[h.val] w fun e w' => e = .returned (.bool h.may) ∧ Keep [] w w' := by
  obtain ⟨kind, colour, grey, marked, owner, refs, size⟩ := h
  obtain ⟨⟨k0, k1⟩, ⟨c0, c1⟩, ⟨o0, o1⟩, ⟨r0, r1⟩, ⟨s0, s1⟩⟩ := hu
  dsimp only at k0 k1 c0 c1 o0 o1 r0 r1 s0 s1
  refine calls_abs fun R hR => ?_
  unfold Hd.val
  dsimp only
  by_cases h1 : 3 < kind
  · go_enter Try.func127, Try.ntmps127
    go_wp2_with fail
    exact hR.out _ _ ⟨by simp [Hd.may, h1], (by repeat (first | (with_reducible exact Keep.refl _ _) | (with_reducible refine Keep.drew ?_) | (with_reducible refine Keep.drewN ?_ _) | (with_reducible refine Keep.alloc ?_ _) | (with_reducible refine Keep.setCell ?_ (by first | (simp; done) | (simp; omega) | (left; dsimp only; omega)) _)))⟩
  by_cases h2 : 1 < colour
  · go_enter Try.func127, Try.ntmps127
    go_wp2_with fail
    exact hR.out _ _ ⟨by simp [Hd.may, h1, h2], (by repeat (first | (with_reducible exact Keep.refl _ _) | (with_reducible refine Keep.drew ?_) | (with_reducible refine Keep.drewN ?_ _) | (with_reducible refine Keep.alloc ?_ _) | (with_reducible refine Keep.setCell ?_ (by first | (simp; done) | (simp; omega) | (left; dsimp only; omega)) _)))⟩
  by_cases h3 : 63 < owner
  · have h3' : 64 ≤ owner := by omega
    go_enter Try.func127, Try.ntmps127
    go_wp2_with fail
    exact hR.out _ _ ⟨by simp [Hd.may, h1, h2, h3], (by repeat (first | (with_reducible exact Keep.refl _ _) | (with_reducible refine Keep.drew ?_) | (with_reducible refine Keep.drewN ?_ _) | (with_reducible refine Keep.alloc ?_ _) | (with_reducible refine Keep.setCell ?_ (by first | (simp; done) | (simp; omega) | (left; dsimp only; omega)) _)))⟩
  have h3' : ¬ 64 ≤ owner := by omega
  by_cases h4 : 95 < size
  · go_enter Try.func127, Try.ntmps127
    go_wp2_with fail
    exact hR.out _ _ ⟨by simp [Hd.may, h1, h2, h3, h4], (by repeat (first | (with_reducible exact Keep.refl _ _) | (with_reducible refine Keep.drew ?_) | (with_reducible refine Keep.drewN ?_ _) | (with_reducible refine Keep.alloc ?_ _) | (with_reducible refine Keep.setCell ?_ (by first | (simp; done) | (simp; omega) | (left; dsimp only; omega)) _)))⟩
  by_cases h5 : size < refs
  · go_enter Try.func127, Try.ntmps127
    go_wp2_with fail
    exact hR.out _ _ ⟨by simp [Hd.may, h1, h2, h3, h4, h5], (by repeat (first | (with_reducible exact Keep.refl _ _) | (with_reducible refine Keep.drew ?_) | (with_reducible refine Keep.drewN ?_ _) | (with_reducible refine Keep.alloc ?_ _) | (with_reducible refine Keep.setCell ?_ (by first | (simp; done) | (simp; omega) | (left; dsimp only; omega)) _)))⟩
  by_cases q2 : kind = 2
  · subst q2
    by_cases q3 : colour = 0
    · subst q3
      go_enter Try.func127, Try.ntmps127
      go_wp2_with fail
      exact hR.out _ _ ⟨by simp [Hd.may, h1, h2, h3, h4, h5], (by repeat (first | (with_reducible exact Keep.refl _ _) | (with_reducible refine Keep.drew ?_) | (with_reducible refine Keep.drewN ?_ _) | (with_reducible refine Keep.alloc ?_ _) | (with_reducible refine Keep.setCell ?_ (by first | (simp; done) | (simp; omega) | (left; dsimp only; omega)) _)))⟩
    · have q3' : (colour == 0) = false := by simp [q3]
      go_enter Try.func127, Try.ntmps127
      go_wp2_with fail
      exact hR.out _ _ ⟨by simp [Hd.may, h1, h2, h3, h4, h5, q3], (by repeat (first | (with_reducible exact Keep.refl _ _) | (with_reducible refine Keep.drew ?_) | (with_reducible refine Keep.drewN ?_ _) | (with_reducible refine Keep.alloc ?_ _) | (with_reducible refine Keep.setCell ?_ (by first | (simp; done) | (simp; omega) | (left; dsimp only; omega)) _)))⟩
  have q2' : (kind == 2) = false := by simp [q2]
  by_cases q3 : kind = 3
  · subst q3
    go_enter Try.func127, Try.ntmps127
    go_wp2_with fail
    exact hR.out _ _ ⟨by simp [Hd.may, h1, h2, h3, h4, h5], (by repeat (first | (with_reducible exact Keep.refl _ _) | (with_reducible refine Keep.drew ?_) | (with_reducible refine Keep.drewN ?_ _) | (with_reducible refine Keep.alloc ?_ _) | (with_reducible refine Keep.setCell ?_ (by first | (simp; done) | (simp; omega) | (left; dsimp only; omega)) _)))⟩
  have q3' : (kind == 3) = false := by simp [q3]
  have q4 : kind < 2 := by omega
  go_enter Try.func127, Try.ntmps127
  go_wp2_with fail
  all_goals (refine hR.out _ _ ⟨?_, (by repeat (first | (with_reducible exact Keep.refl _ _) | (with_reducible refine Keep.drew ?_) | (with_reducible refine Keep.drewN ?_ _) | (with_reducible refine Keep.alloc ?_ _) | (with_reducible refine Keep.setCell ?_ (by first | (simp; done) | (simp; omega) | (left; dsimp only; omega)) _)))⟩)
  all_goals (unfold Hd.may; rw [if_neg (by dsimp only; omega), if_pos (by dsimp only; omega)])
  all_goals (first | rfl | (simp_all; done) | (simp_all; omega))
end Go.Proofs.Ytnadiddaeolanaa
