/- A heap's words: what demesnelaw21.Words makes of a heap. -/
import Derived.Test.YtnadiddaeolanaaLaw21
namespace Go.Proofs.Ytnadiddaeolanaa
open Go.RowKit
set_option linter.unusedVariables false
set_option linter.unusedSimpArgs false

/-- A cell as the statement has it: a header, and a row of numbers. -/
structure Cl where
  h : Hd
  fv : Value
  f : List Int
def Cl.cells (x : Cl) : List Value := [.int .u8 x.h.kind, .int .u8 x.h.colour, .bool x.h.grey, .bool x.h.marked, .int .u8 x.h.owner, .int .u8 x.h.refs, .int .u8 x.h.size, x.fv]
def Cl.ok (w : World) (x : Cl) : Prop := x.h.u8 ∧ (∀ y ∈ x.f, 0 ≤ y ∧ y ≤ 255) ∧ Rd w x.fv x.f.length (u8s x.f)
theorem Cl.ok_keep {w w' : World} {x : Cl} (h : x.ok w) (k : Keep [] w w') : x.ok w' := ⟨h.1, h.2.1, h.2.2.keep k (fun _ _ => by simp)⟩

/-- The entry of a block that is to hold cells of class c. -/
def enS (c : Int) : En := if c = 4 then ⟨4, 0, 0, 0⟩ else if 3 < c then En.zero else ⟨1, c, 0, 0⟩
/-- All words when k entries are written. -/
def entW (bl : List Int) (l : Lay) (k : Nat) : List Int := (List.range k).foldl (fun W (b : Nat) => putz W (l.entry b) (enS (bl.getD b 0)).word) (List.replicate (6 + 33 * l.b) 0)
theorem entW_succ (bl : List Int) (l : Lay) (k : Nat) : entW bl l (k + 1) = putz (entW bl l k) (l.entry k) (enS (bl.getD k 0)).word := by unfold entW; rw [List.range_succ, List.foldl_append]; rfl
theorem entW_len (bl : List Int) (l : Lay) (k : Nat) : (entW bl l k).length = 6 + 33 * l.b := by
  induction k with
  | zero => simp [entW]
  | succ k ih => rw [entW_succ, putz_length, ih]
/-- The number of a cell as the place where it lies. -/
def refS (all : List Int) (x : Int) : Int := if x = 0 ∨ (all.length : Int) < x then 0 else all.getD (x - 1).toNat 0
/-- A cell's fields, one by one. -/
def fldW (all : List Int) (f : List Int) (a : Int) (m : Nat) (W : List Int) : List Int := (List.range m).foldl (fun W (i : Nat) => putz W (a + 1 + i) (refS all (f.getD i 0))) W
theorem fldW_succ (all f : List Int) (a : Int) (m : Nat) (W : List Int) : fldW all f a (m + 1) W = putz (fldW all f a m W) (a + 1 + m) (refS all (f.getD m 0)) := by unfold fldW; rw [List.range_succ, List.foldl_append]; rfl
theorem fldW_len (all f : List Int) (a : Int) (m : Nat) (W : List Int) : (fldW all f a m W).length = W.length := by
  induction m with
  | zero => rfl
  | succ m ih => rw [fldW_succ, putz_length, ih]
def clW (all : List Int) (x : Cl) (a : Int) (W : List Int) : List Int := fldW all x.f a (min x.f.length x.h.size.toNat) (putz W a x.h.word)
theorem clW_len (all : List Int) (x : Cl) (a : Int) (W : List Int) : (clW all x a W).length = W.length := by unfold clW; rw [fldW_len, putz_length]
/-- Cells into places: each with its room. -/
def putS (all : List Int) : List (Int × Int) → List Cl → List Int → Option (List Int)
  | [], _, W => some W
  | _ :: _, [], W => some W
  | s :: ss, x :: xs, W => if x.h.may = true ∧ x.h.size ≤ s.2 then putS all ss xs (clW all x s.1 W) else none
/-- The places of a block's cells, and their room. -/
def spotsAt (l : Lay) (b : Nat) (c : Int) : List (Int × Int) := (cellsAt l b c).map fun s => (s, wordsC c - 1)
def spotsS (l : Lay) (bl : List Int) (lo n : Nat) : List (Int × Int) := (List.range' lo n).flatMap fun b : Nat => spotsAt l b (bl.getD b 0)
theorem spotsS_succ (l : Lay) (bl : List Int) (lo n : Nat) : spotsS l bl lo (n + 1) = spotsAt l lo (bl.getD lo 0) ++ spotsS l bl (lo + 1) n := by
  unfold spotsS; rw [List.range'_succ]; rfl
/-- The words of a heap; none: there are none. -/
def wordsS (bl : List Int) (cs : List Cl) (r0 r1 : Int) : Option (List Int) :=
  if bl.length < 1 ∨ 6 < bl.length ∨ 100 < cs.length then none
  else match putS (allS ⟨1, 2, bl.length⟩ bl bl.length) (spotsS ⟨1, 2, bl.length⟩ bl 0 bl.length) cs (entW bl ⟨1, 2, bl.length⟩ bl.length) with
    | none => none
    | some W => some (putz (putz W ((Lay.mk 1 2 bl.length).global 0) (refS (allS ⟨1, 2, bl.length⟩ bl bl.length) r0)) ((Lay.mk 1 2 bl.length).global 1) (refS (allS ⟨1, 2, bl.length⟩ bl bl.length) r1))

theorem allS_bd (l : Lay) (hl : l.fits) (bl : List Int) (n : Nat) (hn : n ≤ l.b) : ∀ a ∈ allS l bl n, 0 ≤ a ∧ a ≤ 5000 := fun a ha => by
  unfold allS at ha
  obtain ⟨b, hb, ha⟩ := List.mem_flatMap.1 ha
  have hb := List.mem_range.1 hb
  obtain ⟨s, hs, rfl⟩ := List.mem_map.1 ha
  have h1 := start_bd l hl b (by omega)
  have h2 := startsC_bd _ s hs
  have h3 := wordsC_bd (bl.getD b 0)
  omega

set_option maxRecDepth 100000 in
theorem law21_at_fn (all : List Int) (hall : ∀ a ∈ all, 0 ≤ a ∧ a ≤ 5000) (hlen : all.length ≤ 100) (x : Int) (hx : 0 ≤ x ∧ x ≤ 255) (z : Nat) (v : Value) (w : World) (hz : w.heap[z]? = some (.cells #[v] 22 (0, 0))) (hr : Rd w v all.length (intsV all)) :
    Calls Try.prog 105 #[.int .u8 x, .pointer (some ⟨z, 0, none⟩)] w fun e w' => e = .returned (.int .u64 (refS all x)) ∧ w' = w := by
  refine calls_abs fun R hR => ?_
  obtain ⟨ao, cap, rfl, hc1, hc2⟩ := hr.shape
  have hs : refS all x = if x = 0 ∨ (all.length : Int) < x then 0 else all.getD (x - 1).toNat 0 := rfl
  rw [hs] at hR
  clear hs
  have cz := cell_at hz
  have hx64 : IntKind.i64.wrap x = x := by rw [IntKind.wrap_i64]; omega
  by_cases h0 : x = 0
  · subst h0
    go_enter Try.func105, Try.ntmps105
    go_wp2_with fail
    exact hR.out _ _ ⟨rfl, rfl⟩
  have q0 : (x == 0) = false := by simp [h0]
  by_cases h1 : (all.length : Int) < x
  · rw [if_pos (.inr h1)] at hR
    go_enter Try.func105, Try.ntmps105
    go_wp2_with fail
    exact hR.out _ _ ⟨rfl, rfl⟩
  rw [if_neg (by omega)] at hR
  have hlt : (x - 1).toNat < all.length := by omega
  obtain ⟨g, o, rfl, hg, hcs⟩ := hr.some (by rw [intsV_len]; omega)
  have hge : all.getD (x - 1).toNat 0 = all[(x - 1).toNat] := by rw [List.getD_eq_getElem?_getD, List.getElem?_eq_getElem hlt]; rfl
  have hbd := hall _ (List.getElem_mem hlt)
  rw [hge] at hR
  have hc : w.cell? ⟨g, o + (x.toNat - 1), none⟩ = some (.int .i64 all[(x - 1).toNat]) := by have := hcs (x - 1).toNat _ (by rw [intsV_get, List.getElem?_eq_getElem hlt]; rfl); rwa [show o + (x - 1).toNat = o + (x.toNat - 1) from by omega] at this
  generalize all[(x - 1).toNat] = y at *
  have hw8 : IntKind.u8.wrap (x - 1) = x - 1 := by rw [IntKind.wrap_u8]; omega
  have hwy : IntKind.u64.wrap y = y := by rw [IntKind.wrap_u64]; omega
  have i1 : x - 1 < (all.length : Int) := by omega
  have i0 : 0 ≤ x - 1 := by omega
  clear hcs hge hall hr
  go_enter Try.func105, Try.ntmps105
  go_wp2_with fail
  exact hR.out _ _ ⟨rfl, rfl⟩
end Go.Proofs.Ytnadiddaeolanaa
