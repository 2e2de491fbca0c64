/- The walk of demesnelaw21.Words. -/
import Derived.Test.YtnadiddaeolanaaWords21
import Derived.Test.YtnadiddaeolanaaRef05
import Derived.Shelf.RegionOpenPlain
namespace Go.Proofs.Ytnadiddaeolanaa
open Go.RowKit
set_option linter.unusedVariables false
set_option linter.unusedSimpArgs false

/-- What a heap is in memory. -/
structure HpIn (w : World) (bv cv : Value) (bl : List Int) (cs : List Cl) (r0 r1 : Int) : Prop where
  blocks : Rd w bv bl.length (u8s bl)
  bytes : ∀ x ∈ bl, 0 ≤ x ∧ x ≤ 255
  cells : Rd w cv cs.length (cs.flatMap Cl.cells)
  ok : ∀ x ∈ cs, x.ok w
  root0 : 0 ≤ r0 ∧ r0 ≤ 255
  root1 : 0 ≤ r1 ∧ r1 ≤ 255
  small : (bl.length : Int) ≤ 9223372036854775807 ∧ (cs.length : Int) ≤ 9223372036854775807
theorem HpIn.keep {w w' : World} {bv cv : Value} {bl : List Int} {cs : List Cl} {r0 r1 : Int} (h : HpIn w bv cv bl cs r0 r1) (k : Keep [] w w') : HpIn w' bv cv bl cs r0 r1 :=
  ⟨h.blocks.keep k (fun _ _ => by simp), h.bytes, h.cells.keep k (fun _ _ => by simp), fun x hx => Cl.ok_keep (h.ok x hx) k, h.root0, h.root1, h.small⟩

def heapV (bv cv : Value) (r0 r1 : Int) : Value := .agg #[bv, cv, .int .u8 r0, .int .u8 r1]
/-- What Words answers. -/
def WordsR (w : World) (n : Nat) (o : Option (List Int)) (e : Ending) (w' : World) : Prop := match o with
  | none => e = .returned (.tuple #[.slice none 0 0, (Lay.mk 0 0 0).val, .bool false]) ∧ Keep [] w w'
  | some W => ∃ g, e = .returned (.tuple #[.slice (some ⟨g, 0, none⟩) (6 + 33 * n) (6 + 33 * n), (Lay.mk 1 2 n).val, .bool true]) ∧ w'.heap[g]? = some (.cells (cellsOf .u64 W) 27 (0, 0)) ∧ w.heap.size ≤ g ∧ Keep [] w w'

theorem flat8_len (cs : List Cl) : (cs.flatMap Cl.cells).length = 8 * cs.length := by
  induction cs with
  | nil => rfl
  | cons x xs ih => rw [List.flatMap_cons, List.length_append, ih, List.length_cons, show x.cells.length = 8 from rfl]; omega
theorem row_cell {w : World} {g : Nat} {V : List Int} {t : TypeId} (h : w.heap[g]? = some (.cells (cellsOf .u64 V) t (0, 0))) {i : Nat} (hi : i < V.length) : w.cell? ⟨g, i, none⟩ = some (.int .u64 V[i]) := by
  rw [cell_at h, cellsOf_get, List.getElem?_eq_getElem hi]; rfl
/-- What stands while the words are laid. -/
structure Stg (w wr : World) (z z8 gw n : Nat) (bv cv : Value) (r0 r1 : Int) (W : List Int) : Prop where
  box : wr.heap[z]? = some (.cells #[bv, cv, .int .u8 r0, .int .u8 r1] 86 (0, 0))
  res : wr.heap[z + 1]? = some (.cells #[.int .i64 0, .int .i64 0, .int .i64 0] 88 (0, 0))
  non : wr.heap[z + 1 + 1]? = some (.cells #[.int .i64 0, .int .i64 0, .int .i64 0] 88 (0, 0))
  lay : wr.heap[z8]? = some (.cells #[.int .i64 1, .int .i64 2, .int .i64 n] 88 (0, 0))
  row : wr.heap[gw]? = some (.cells (cellsOf .u64 W) 27 (0, 0))
  all : Keep [] w wr
  ord : w.heap.size ≤ z ∧ z + 1 + 1 < z8 ∧ z8 < gw
theorem Stg.keep {w wr wr' : World} {z z8 gw n : Nat} {bv cv : Value} {r0 r1 : Int} {W : List Int} (h : Stg w wr z z8 gw n bv cv r0 r1 W) (k : Keep [] wr wr') : Stg w wr' z z8 gw n bv cv r0 r1 W :=
  ⟨k.get h.box (by simp), k.get h.res (by simp), k.get h.non (by simp), k.get h.lay (by simp), k.get h.row (by simp), h.all.trans k, h.ord⟩
theorem Stg.put {w wr wr' : World} {z z8 gw n : Nat} {bv cv : Value} {r0 r1 : Int} {W W' : List Int} (h : Stg w wr z z8 gw n bv cv r0 r1 W) (k : Keep [gw] wr wr') (hr : wr'.heap[gw]? = some (.cells (cellsOf .u64 W') 27 (0, 0))) : Stg w wr' z z8 gw n bv cv r0 r1 W' := by
  obtain ⟨o1, o2, o3⟩ := h.ord
  exact ⟨k.get h.box (by simp; omega), k.get h.res (by simp; omega), k.get h.non (by simp; omega), k.get h.lay (by simp; omega), hr, h.all.fresh k (by simp; omega), h.ord⟩

/-- Beside it the places of all cells, in a box. -/
structure Stg2 (w wr : World) (z z8 gw n : Nat) (bv cv : Value) (r0 r1 : Int) (all : List Int) (za : Nat) (av : Value) (W : List Int) : Prop where
  stg : Stg w wr z z8 gw n bv cv r0 r1 W
  abox : wr.heap[za]? = some (.cells #[av] 22 (0, 0))
  aread : Rd wr av all.length (intsV all)
  afar : gw < za ∧ ∀ g, av.ownBlock = some g → gw < g
  len : W.length = 6 + 33 * n
theorem Stg2.keep {w wr wr' : World} {z z8 gw n za : Nat} {bv cv av : Value} {r0 r1 : Int} {all W : List Int} (h : Stg2 w wr z z8 gw n bv cv r0 r1 all za av W) (k : Keep [] wr wr') : Stg2 w wr' z z8 gw n bv cv r0 r1 all za av W :=
  ⟨h.stg.keep k, k.get h.abox (by simp), h.aread.keep k (fun _ _ => by simp), h.afar, h.len⟩
theorem Stg2.put {w wr wr' : World} {z z8 gw n za : Nat} {bv cv av : Value} {r0 r1 : Int} {all W W' : List Int} (h : Stg2 w wr z z8 gw n bv cv r0 r1 all za av W) (k : Keep [gw] wr wr') (hr : wr'.heap[gw]? = some (.cells (cellsOf .u64 W') 27 (0, 0))) (hl : W'.length = W.length) : Stg2 w wr' z z8 gw n bv cv r0 r1 all za av W' :=
  ⟨h.stg.put k hr, k.get h.abox (by have := h.afar.1; simp; omega), h.aread.keep k (fun g hg => by have := h.afar.2 g hg; simp; omega), h.afar, by rw [hl]; exact h.len⟩
theorem putS_nil (all : List Int) (ss : List (Int × Int)) (W : List Int) : putS all ss [] W = some W := by cases ss <;> rfl
theorem flat8_get (cs : List Cl) (k j : Nat) (hj : j < 8) : (cs.flatMap Cl.cells)[8 * k + j]? = (cs[k]?).bind fun x => x.cells[j]? := by
  induction cs generalizing k with
  | nil => simp
  | cons x xs ih =>
    rw [List.flatMap_cons]
    have hl : x.cells.length = 8 := rfl
    cases k with
    | zero => rw [List.getElem?_append_left (by omega)]; simp
    | succ k =>
      rw [List.getElem?_append_right (by omega), hl, show 8 * (k + 1) + j - 8 = 8 * k + j from by omega, ih k]
      rfl

set_option maxRecDepth 100000 in
set_option maxHeartbeats 40000000 in
theorem law21_words (bv cv : Value) (bl : List Int) (cs : List Cl) (r0 r1 : Int) (w : World) (hh : HpIn w bv cv bl cs r0 r1) :
    Calls Try.prog 50 #[heapV bv cv r0 r1] w (WordsR w bl.length (wordsS bl cs r0 r1)) := by
  refine calls_abs fun R hR => ?_
  have mixed : Try.prog.follows .mixedOrders = true := by kernel_rfl
  have hmf : ∀ (fn : Fn) (first cap : Array Value) (w : World), (Instr.makeFunc fn first cap).run Try.prog w = .ok (.func fn first cap) w := fun _ _ _ _ => rfl
  obtain ⟨ab, capb, rfl, hcb1, hcb2⟩ := hh.blocks.shape
  obtain ⟨ac, capc, rfl, hcc1, hcc2⟩ := hh.cells.shape
  obtain ⟨hsm1, hsm2⟩ := hh.small
  have HH := Lib.hid hh
  unfold heapV
  clear hh
  by_cases g1 : bl.length < 1
  · have hw : wordsS bl cs r0 r1 = none := by unfold wordsS; rw [if_pos (.inl g1)]
    rw [hw] at hR
    unfold WordsR Lay.val at hR
    dsimp only at hR
    have q1 : (bl.length : Int) < 1 := by omega
    clear hw
    go_enter Try.func50, Try.ntmps50
    go_wp2_with fail
    obtain ⟨z, hz⟩ : ∃ z, z = w.heap.size := ⟨_, rfl⟩
    simp only [← hz]
    generalize hw1 : World.alloc _ _ = w1
    have b1 : w1.heap[z + 1]? = some (.cells #[.int .i64 0, .int .i64 0, .int .i64 0] 88 (0, 0)) := by rw [← hw1]; exact alloc_keeps (alloc_new _ _ _ (by simp [hz])) _
    have b2 : w1.heap[z + 1 + 1]? = some (.cells #[.int .i64 0, .int .i64 0, .int .i64 0] 88 (0, 0)) := by rw [← hw1]; exact alloc_new _ _ _ (by simp [hz])
    have K1 : Keep [] w w1 := by rw [← hw1]; exact (by repeat (first | (with_reducible exact Keep.refl _ _) | (with_reducible refine Keep.drew ?_) | (with_reducible refine Keep.drewN ?_ _) | (with_reducible refine Keep.alloc ?_ _) | (with_reducible refine Keep.setCell ?_ (by first | (simp; done) | (simp; omega) | (left; dsimp only; omega)) _)))
    have c1 := cell_at b1; have c2 := cell_at b2; have f1 := frozen_at b1; have l1 := lt_of_block b1; have l2 := lt_of_block b2
    have d1 : ∀ i, w1.drew.cell? ⟨z + 1, i, none⟩ = #[.int .i64 0, .int .i64 0, .int .i64 0][i]? := c1
    have d2 : ∀ i, w1.drew.cell? ⟨z + 1 + 1, i, none⟩ = #[.int .i64 0, .int .i64 0, .int .i64 0][i]? := c2
    have e1 : ∀ i, w1.drew.frozen? ⟨z + 1, i, none⟩ = false := f1
    have HB1 := Lib.hid b1; have HK1 := Lib.hid K1; have HZ := Lib.hid hz
    clear hw1 b1 b2 K1 hz
    go_region_o
    all_goals go_wp2_with fail
    all_goals (
      generalize hw2 : World.drew _ = w2
      have b2 : w2.heap[z + 1]? = some (.cells #[.int .i64 0, .int .i64 0, .int .i64 0] 88 (0, 0)) := by rw [← hw2]; exact put_at (put_at (put_at HB1.out 0 _) 1 _) 2 _
      have K2 : Keep [] w w2 := by have hz := HZ.out; rw [← hw2]; ((repeat (first | (with_reducible exact HK1.out) | (with_reducible refine Keep.drew ?_) | (with_reducible refine Keep.drewN ?_ _) | (with_reducible refine Keep.alloc ?_ _) | ((with_reducible refine Keep.setCell ?_ ?_ _); rotate_left; focus (first | (simp; done) | (simp; omega) | (left; dsimp only; omega))))); done)
      have c3 := cell_at b2
      clear c1 c2 f1 l1 l2 d1 d2 e1 hw2
      refine bodyPost_ret (v := .tuple #[.slice none 0 0, .agg #[.int .i64 0, .int .i64 0, .int .i64 0], .bool false]) ?_ rfl ?_
      · simp [results, Try.results50, go_sem, c3]
      exact hR.out _ _ ⟨rfl, K2⟩)
  by_cases g2 : 6 < bl.length
  · have hw : wordsS bl cs r0 r1 = none := by unfold wordsS; rw [if_pos (.inr (.inl g2))]
    rw [hw] at hR
    unfold WordsR Lay.val at hR
    dsimp only at hR
    have q1 : decide ((bl.length : Int) < 1) = false := by simp; omega
    have q2 : decide ((6 : Int) < (bl.length : Int)) = true := by simp; omega
    clear hw
    go_enter Try.func50, Try.ntmps50
    go_wp2_with fail
    obtain ⟨z, hz⟩ : ∃ z, z = w.heap.size := ⟨_, rfl⟩
    simp only [← hz]
    generalize hw1 : World.alloc _ _ = w1
    have b1 : w1.heap[z + 1]? = some (.cells #[.int .i64 0, .int .i64 0, .int .i64 0] 88 (0, 0)) := by rw [← hw1]; exact alloc_keeps (alloc_new _ _ _ (by simp [hz])) _
    have b2 : w1.heap[z + 1 + 1]? = some (.cells #[.int .i64 0, .int .i64 0, .int .i64 0] 88 (0, 0)) := by rw [← hw1]; exact alloc_new _ _ _ (by simp [hz])
    have K1 : Keep [] w w1 := by rw [← hw1]; exact (by repeat (first | (with_reducible exact Keep.refl _ _) | (with_reducible refine Keep.drew ?_) | (with_reducible refine Keep.drewN ?_ _) | (with_reducible refine Keep.alloc ?_ _) | (with_reducible refine Keep.setCell ?_ (by first | (simp; done) | (simp; omega) | (left; dsimp only; omega)) _)))
    have c1 := cell_at b1; have c2 := cell_at b2; have f1 := frozen_at b1; have l1 := lt_of_block b1; have l2 := lt_of_block b2
    have d1 : ∀ i, w1.drew.cell? ⟨z + 1, i, none⟩ = #[.int .i64 0, .int .i64 0, .int .i64 0][i]? := c1
    have d2 : ∀ i, w1.drew.cell? ⟨z + 1 + 1, i, none⟩ = #[.int .i64 0, .int .i64 0, .int .i64 0][i]? := c2
    have e1 : ∀ i, w1.drew.frozen? ⟨z + 1, i, none⟩ = false := f1
    have HB1 := Lib.hid b1; have HK1 := Lib.hid K1; have HZ := Lib.hid hz
    clear hw1 b1 b2 K1 hz
    go_region_o
    all_goals go_wp2_with fail
    all_goals (
      generalize hw2 : World.drew _ = w2
      have b2 : w2.heap[z + 1]? = some (.cells #[.int .i64 0, .int .i64 0, .int .i64 0] 88 (0, 0)) := by rw [← hw2]; exact put_at (put_at (put_at HB1.out 0 _) 1 _) 2 _
      have K2 : Keep [] w w2 := by have hz := HZ.out; rw [← hw2]; ((repeat (first | (with_reducible exact HK1.out) | (with_reducible refine Keep.drew ?_) | (with_reducible refine Keep.drewN ?_ _) | (with_reducible refine Keep.alloc ?_ _) | ((with_reducible refine Keep.setCell ?_ ?_ _); rotate_left; focus (first | (simp; done) | (simp; omega) | (left; dsimp only; omega))))); done)
      have c3 := cell_at b2
      clear c1 c2 f1 l1 l2 d1 d2 e1 hw2
      refine bodyPost_ret (v := .tuple #[.slice none 0 0, .agg #[.int .i64 0, .int .i64 0, .int .i64 0], .bool false]) ?_ rfl ?_
      · simp [results, Try.results50, go_sem, c3]
      exact hR.out _ _ ⟨rfl, K2⟩)
  by_cases g3 : 100 < cs.length
  · have hw : wordsS bl cs r0 r1 = none := by unfold wordsS; rw [if_pos (.inr (.inr g3))]
    rw [hw] at hR
    unfold WordsR Lay.val at hR
    dsimp only at hR
    have q1 : decide ((bl.length : Int) < 1) = false := by simp; omega
    have q2 : decide ((6 : Int) < (bl.length : Int)) = false := by simp; omega
    have q3 : decide ((100 : Int) < (cs.length : Int)) = true := by simp; omega
    clear hw
    go_enter Try.func50, Try.ntmps50
    go_wp2_with fail
    obtain ⟨z, hz⟩ : ∃ z, z = w.heap.size := ⟨_, rfl⟩
    simp only [← hz]
    generalize hw1 : World.alloc _ _ = w1
    have b1 : w1.heap[z + 1]? = some (.cells #[.int .i64 0, .int .i64 0, .int .i64 0] 88 (0, 0)) := by rw [← hw1]; exact alloc_keeps (alloc_new _ _ _ (by simp [hz])) _
    have b2 : w1.heap[z + 1 + 1]? = some (.cells #[.int .i64 0, .int .i64 0, .int .i64 0] 88 (0, 0)) := by rw [← hw1]; exact alloc_new _ _ _ (by simp [hz])
    have K1 : Keep [] w w1 := by rw [← hw1]; exact (by repeat (first | (with_reducible exact Keep.refl _ _) | (with_reducible refine Keep.drew ?_) | (with_reducible refine Keep.drewN ?_ _) | (with_reducible refine Keep.alloc ?_ _) | (with_reducible refine Keep.setCell ?_ (by first | (simp; done) | (simp; omega) | (left; dsimp only; omega)) _)))
    have c1 := cell_at b1; have c2 := cell_at b2; have f1 := frozen_at b1; have l1 := lt_of_block b1; have l2 := lt_of_block b2
    have d1 : ∀ i, w1.drew.cell? ⟨z + 1, i, none⟩ = #[.int .i64 0, .int .i64 0, .int .i64 0][i]? := c1
    have d2 : ∀ i, w1.drew.cell? ⟨z + 1 + 1, i, none⟩ = #[.int .i64 0, .int .i64 0, .int .i64 0][i]? := c2
    have e1 : ∀ i, w1.drew.frozen? ⟨z + 1, i, none⟩ = false := f1
    have HB1 := Lib.hid b1; have HK1 := Lib.hid K1; have HZ := Lib.hid hz
    clear hw1 b1 b2 K1 hz
    go_region_o
    all_goals go_wp2_with fail
    all_goals (
      generalize hw2 : World.drew _ = w2
      have b2 : w2.heap[z + 1]? = some (.cells #[.int .i64 0, .int .i64 0, .int .i64 0] 88 (0, 0)) := by rw [← hw2]; exact put_at (put_at (put_at HB1.out 0 _) 1 _) 2 _
      have K2 : Keep [] w w2 := by have hz := HZ.out; rw [← hw2]; ((repeat (first | (with_reducible exact HK1.out) | (with_reducible refine Keep.drew ?_) | (with_reducible refine Keep.drewN ?_ _) | (with_reducible refine Keep.alloc ?_ _) | ((with_reducible refine Keep.setCell ?_ ?_ _); rotate_left; focus (first | (simp; done) | (simp; omega) | (left; dsimp only; omega))))); done)
      have c3 := cell_at b2
      clear c1 c2 f1 l1 l2 d1 d2 e1 hw2
      refine bodyPost_ret (v := .tuple #[.slice none 0 0, .agg #[.int .i64 0, .int .i64 0, .int .i64 0], .bool false]) ?_ rfl ?_
      · simp [results, Try.results50, go_sem, c3]
      exact hR.out _ _ ⟨rfl, K2⟩)
  have q1 : decide ((bl.length : Int) < 1) = false := by simp; omega
  have q2 : decide ((6 : Int) < (bl.length : Int)) = false := by simp; omega
  have q3 : decide ((100 : Int) < (cs.length : Int)) = false := by simp; omega
  have hbits := HH.out.bytes
  have hws : wordsS bl cs r0 r1 = (match putS (allS ⟨1, 2, bl.length⟩ bl bl.length) (spotsS ⟨1, 2, bl.length⟩ bl 0 bl.length) cs (entW bl ⟨1, 2, bl.length⟩ bl.length) with
    | none => none
    | some W => some (putz (putz W ((Lay.mk 1 2 bl.length).global 0) (refS (allS ⟨1, 2, bl.length⟩ bl bl.length) r0)) ((Lay.mk 1 2 bl.length).global 1) (refS (allS ⟨1, 2, bl.length⟩ bl bl.length) r1))) := by unfold wordsS; rw [if_neg (by omega)]; rfl
  rw [hws] at hR
  clear hws
  have hlf : (Lay.mk 1 2 bl.length).fits := ⟨by dsimp only; omega, by dsimp only; omega, by dsimp only; omega⟩
  have hnew := fun w => ref06_new bl.length ⟨by omega, by omega⟩ w
  rw [show ((6 + 33 * bl.length : Nat) : Int) = 6 + 33 * (bl.length : Int) from by omega] at hnew
  have hmk := fun w => make_u64 (6 + 33 * bl.length) (by omega) w
  rw [show ((6 + 33 * bl.length : Nat) : Int) = 6 + 33 * (bl.length : Int) from by omega] at hmk
  have hst := fun w (h : Rd w (.slice ab bl.length capb) bl.length (u8s bl)) => law21_starts (Lay.mk 1 2 bl.length) hlf (.slice ab bl.length capb) bl (by omega) HH.out.bytes (Nat.le_refl _) w h
  unfold Lay.val at hnew hst
  dsimp only at hnew hst
  have w1' : IntKind.i64.wrap (33 * (bl.length : Int)) = 33 * bl.length := by rw [IntKind.wrap_i64]; omega
  have w2' : IntKind.i64.wrap (6 + 33 * (bl.length : Int)) = 6 + 33 * bl.length := by rw [IntKind.wrap_i64]; omega
  generalize hn : bl.length = n at *
  have HNEW := Lib.hid hnew; have HST := Lib.hid hst; have HMK := Lib.hid hmk; have HLF := Lib.hid hlf; have HN := Lib.hid hn
  clear hnew hst hmk hlf hn
  go_enter Try.func50, Try.ntmps50
  go_wp2_with fail
  obtain ⟨z, hz⟩ : ∃ z, z = w.heap.size := ⟨_, rfl⟩
  simp only [← hz]
  generalize hw1 : World.alloc _ _ = w1
  have b0 : w1.heap[z]? = some (.cells #[.slice ab n capb, .slice ac cs.length capc, .int .u8 r0, .int .u8 r1] 86 (0, 0)) := by rw [← hw1]; exact alloc_keeps (alloc_keeps (alloc_new _ _ _ hz) _) _
  have b1 : w1.heap[z + 1]? = some (.cells #[.int .i64 0, .int .i64 0, .int .i64 0] 88 (0, 0)) := by rw [← hw1]; exact alloc_keeps (alloc_new _ _ _ (by simp [hz])) _
  have b2 : w1.heap[z + 1 + 1]? = some (.cells #[.int .i64 0, .int .i64 0, .int .i64 0] 88 (0, 0)) := by rw [← hw1]; exact alloc_new _ _ _ (by simp [hz])
  have K1 : Keep [] w w1 := by rw [← hw1]; exact (by repeat (first | (with_reducible exact Keep.refl _ _) | (with_reducible refine Keep.drew ?_) | (with_reducible refine Keep.drewN ?_ _) | (with_reducible refine Keep.alloc ?_ _) | (with_reducible refine Keep.setCell ?_ (by first | (simp; done) | (simp; omega) | (left; dsimp only; omega)) _)))
  refine (HNEW.out w1).mono ?_
  rintro e w2 ⟨rfl, K2⟩
  have HB0 := Lib.hid (K2.get b0 (by simp)); have HB1 := Lib.hid (K2.get b1 (by simp)); have HB2 := Lib.hid (K2.get b2 (by simp)); have HK2 := Lib.hid (K1.trans K2); have HZ := Lib.hid hz
  clear hw1 b0 b1 b2 K1 K2 hz
  go_wp2_with fail
  --STAGE1
  obtain ⟨z8, hz8⟩ : ∃ y, y = w2.heap.size := ⟨_, rfl⟩
  simp only [← hz8]
  rw [HMK.out]
  go_wp2_with fail
  obtain ⟨gw, hgw⟩ : ∃ y, y = z8 + 1 := ⟨_, rfl⟩
  (try simp only [World.size_alloc])
  (try simp only [← hz8])
  simp only [← hgw]
  generalize hw3 : World.alloc _ _ = w3
  have b8 : w3.heap[z8]? = some (.cells #[.int .i64 1, .int .i64 2, .int .i64 n] 88 (0, 0)) := by rw [← hw3]; exact alloc_keeps (alloc_new _ _ _ hz8) _
  have bgw : w3.heap[gw]? = some (.cells (cellsOf .u64 (List.replicate (6 + 33 * n) 0)) 27 (0, 0)) := by rw [← hw3]; exact alloc_new _ _ _ (by simp [hgw, hz8])
  have K3 : Keep [] w2 w3 := by rw [← hw3]; exact (by repeat (first | (with_reducible exact Keep.refl _ _) | (with_reducible refine Keep.drew ?_) | (with_reducible refine Keep.drewN ?_ _) | (with_reducible refine Keep.alloc ?_ _) | (with_reducible refine Keep.setCell ?_ (by first | (simp; done) | (simp; omega) | (left; dsimp only; omega)) _)))
  have hord : w.heap.size ≤ z ∧ z + 1 + 1 < z8 ∧ z8 < gw := ⟨by have := HZ.out; omega, by have := lt_of_block HB2.out; omega, by omega⟩
  have hs0 : Stg w w3 z z8 gw n (.slice ab n capb) (.slice ac cs.length capc) r0 r1 (entW bl ⟨1, 2, n⟩ 0) := ⟨K3.get HB0.out (by simp), K3.get HB1.out (by simp), K3.get HB2.out (by simp), b8, bgw, HK2.out.trans K3, hord⟩
  have HS0 := Lib.hid hs0; have HO := Lib.hid hord
  clear hs0 hord K3 b8 bgw hw3 HB0 HB1 HB2 HK2 hz8 hgw
  go_loopg [11] n (fun j i wr => ∃ b : Nat, b + j = n ∧ i = .int .i64 b ∧ Stg w wr z z8 gw n (.slice ab n capb) (.slice ac cs.length capc) r0 r1 (entW bl ⟨1, 2, n⟩ b))
  case atStart => exact ⟨0, by omega, rfl, HS0.out⟩
  case round =>
    obtain ⟨b, hbj, rfl, hS⟩ := hrel
    by_cases hbn : b < n
    · have i1 : (b : Int) < n := by omega
      have i0 : (0 : Int) ≤ (b : Int) := by omega
      have hbn' : b < bl.length := by rw [HN.out]; exact hbn
      have hbc : bl[b]? = some (bl.getD b 0) := by rw [List.getD_eq_getElem?_getD, List.getElem?_eq_getElem hbn']; rfl
      have hcu : 0 ≤ bl.getD b 0 ∧ bl.getD b 0 ≤ 255 := hbits _ (by rw [List.getD_eq_getElem?_getD, List.getElem?_eq_getElem hbn']; exact List.getElem_mem hbn')
      have hrb := (HH.out.keep hS.all).blocks
      obtain ⟨a, o, rfl, hal, hac⟩ := hrb.some (by rw [u8s_len]; omega)
      have hcell := hac b _ (by rw [u8s_get, hbc]; rfl)
      have hsuc := entW_succ bl ⟨1, 2, n⟩ b
      have hlen := entW_len bl ⟨1, 2, n⟩ b
      have hen := fun w => ref06_entry (Lay.mk 1 2 n) HLF.out b w
      have hei : (Lay.mk 1 2 n).entry b = 6 + b := by unfold Lay.entry spot; dsimp only; rw [if_pos (by omega)]; omega
      rw [hei] at hsuc hen
      dsimp only at hlen
      unfold Lay.val at hen
      dsimp only at hen
      have cz := cell_at hS.box; have lz := lt_of_block hS.box; have lz8 := lt_of_block hS.lay; have lgw := lt_of_block hS.row
      generalize bl.getD b 0 = c at *
      generalize hV : entW bl ⟨1, 2, n⟩ b = V at *
      have HSUC := Lib.hid hsuc; have HLEN := Lib.hid hlen; have HEN := Lib.hid hen; have HS := Lib.hid hS; have HRB := Lib.hid hrb
      clear hsuc hlen hen hS hrb hac hbc hbn' hV hei
      have j1 : (6 : Int) + b < 6 + 33 * n := by omega
      have j0 : (0 : Int) ≤ 6 + b := by omega
      have jn : ((6 : Int) + b).toNat = 6 + b := by omega
      by_cases c4 : c = 4
      · subst c4
        go_upto_region 19 with (fail)
        obtain ⟨ze, hze⟩ : ∃ y, y = wr.heap.size := ⟨_, rfl⟩
        simp only [← hze]
        generalize hwa : World.alloc wr _ = wa
        have bze : wa.heap[ze]? = some (.cells #[.int .u8 4, .int .u8 0, .int .u8 0, .int .u8 0] 61 (0, 0)) := by rw [← hwa]; exact alloc_new _ _ _ hze
        have Ka : Keep [] wr wa := by rw [← hwa]; exact (by repeat (first | (with_reducible exact Keep.refl _ _) | (with_reducible refine Keep.drew ?_) | (with_reducible refine Keep.drewN ?_ _) | (with_reducible refine Keep.alloc ?_ _) | (with_reducible refine Keep.setCell ?_ (by first | (simp; done) | (simp; omega) | (left; dsimp only; omega)) _)))
        have hsa := HS.out.keep Ka
        have HLA := Lib.hid hsa.lay; have HROW := Lib.hid hsa.row; have HSA := Lib.hid hsa
        have hzz : z8 ≠ gw ∧ ze ≠ gw := by have := HO.out; omega
        clear hwa Ka hsa cz lz lz8 lgw hcell hal hze
        have D0 : Hid (wa.cell? ⟨z8, 0, none⟩ = some (.int .i64 1)) := by rw [Hid, cell_at HLA.out]; rfl
        have D1 : Hid (wa.cell? ⟨z8, 1, none⟩ = some (.int .i64 2)) := by rw [Hid, cell_at HLA.out]; rfl
        have D2 : Hid (wa.cell? ⟨z8, 2, none⟩ = some (.int .i64 n)) := by rw [Hid, cell_at HLA.out]; rfl
        have E0 : Hid (wa.cell? ⟨ze, 0, none⟩ = some (.int .u8 4)) := by rw [Hid, cell_at bze]; rfl
        have E1 : Hid (wa.cell? ⟨ze, 1, none⟩ = some (.int .u8 0)) := by rw [Hid, cell_at bze]; rfl
        have E2 : Hid (wa.cell? ⟨ze, 2, none⟩ = some (.int .u8 0)) := by rw [Hid, cell_at bze]; rfl
        have E3 : Hid (wa.cell? ⟨ze, 3, none⟩ = some (.int .u8 0)) := by rw [Hid, cell_at bze]; rfl
        have hwd := fun w' => ref05_word ⟨4, 0, 0, 0⟩ ⟨by dsimp only; omega, by dsimp only; omega, by dsimp only; omega, by dsimp only; omega⟩ w'
        rw [show (En.mk 4 0 0 0) = enS 4 from by unfold enS; simp] at hwd
        rw [show (enS 4).val = .agg #[.int .u8 4, .int .u8 0, .int .u8 0, .int .u8 0] from by unfold enS En.val; simp] at hwd
        generalize (enS 4).word = wd at hwd HSUC
        have HWD := Lib.hid hwd
        clear hwd bze
        first
        | (go_region_held3 (fun w' => w'.cell? ⟨z8, 0, none⟩ = some (.int .i64 1) ∧ w'.cell? ⟨z8, 1, none⟩ = some (.int .i64 2) ∧ w'.cell? ⟨z8, 2, none⟩ = some (.int .i64 n) ∧ w'.cell? ⟨ze, 0, none⟩ = some (.int .u8 4) ∧ w'.cell? ⟨ze, 1, none⟩ = some (.int .u8 0) ∧ w'.cell? ⟨ze, 2, none⟩ = some (.int .u8 0) ∧ w'.cell? ⟨ze, 3, none⟩ = some (.int .u8 0))
            (first
              | (refine ⟨Keep.cell (S := []) (w := wa) ?_ D0.out (by simp), Keep.cell (S := []) (w := wa) ?_ D1.out (by simp), Keep.cell (S := []) (w := wa) ?_ D2.out (by simp), Keep.cell (S := []) (w := wa) ?_ E0.out (by simp), Keep.cell (S := []) (w := wa) ?_ E1.out (by simp), Keep.cell (S := []) (w := wa) ?_ E2.out (by simp), Keep.cell (S := []) (w := wa) ?_ E3.out (by simp)⟩; all_goals (((repeat (first | (with_reducible exact Keep.refl _ _) | (with_reducible refine Keep.drew ?_) | (with_reducible refine Keep.drewN ?_ _) | (with_reducible refine Keep.alloc ?_ _) | ((with_reducible refine Keep.setCell ?_ ?_ _); rotate_left; focus (first | (simp; done) | (simp; omega) | (left; dsimp only; omega))))); done)))
              | (refine ⟨Keep.cell (S := []) (w := wa) ?_ D0.out (by simp), Keep.cell (S := []) (w := wa) ?_ D1.out (by simp), Keep.cell (S := []) (w := wa) ?_ D2.out (by simp), Keep.cell (S := []) (w := wa) ?_ E0.out (by simp), Keep.cell (S := []) (w := wa) ?_ E1.out (by simp), Keep.cell (S := []) (w := wa) ?_ E2.out (by simp), Keep.cell (S := []) (w := wa) ?_ E3.out (by simp)⟩; all_goals (((repeat (first | (with_reducible exact HK5.out) | (with_reducible refine Keep.drew ?_) | (with_reducible refine Keep.drewN ?_ _) | (with_reducible refine Keep.alloc ?_ _) | ((with_reducible refine Keep.setCell ?_ ?_ _); rotate_left; focus (first | (simp; done) | (simp; omega) | (left; dsimp only; omega))))); done)))
              | (refine ⟨Keep.cell (S := []) (w := wa) ?_ D0.out (by simp), Keep.cell (S := []) (w := wa) ?_ D1.out (by simp), Keep.cell (S := []) (w := wa) ?_ D2.out (by simp), Keep.cell (S := []) (w := wa) ?_ E0.out (by simp), Keep.cell (S := []) (w := wa) ?_ E1.out (by simp), Keep.cell (S := []) (w := wa) ?_ E2.out (by simp), Keep.cell (S := []) (w := wa) ?_ E3.out (by simp)⟩; all_goals (((repeat (first | (with_reducible exact HK6.out) | (with_reducible refine Keep.drew ?_) | (with_reducible refine Keep.drewN ?_ _) | (with_reducible refine Keep.alloc ?_ _) | ((with_reducible refine Keep.setCell ?_ ?_ _); rotate_left; focus (first | (simp; done) | (simp; omega) | (left; dsimp only; omega))))); done)))
              | (refine ⟨Keep.cell (S := [gw]) (w := wa) ?_ D0.out (by simp; omega), Keep.cell (S := [gw]) (w := wa) ?_ D1.out (by simp; omega), Keep.cell (S := [gw]) (w := wa) ?_ D2.out (by simp; omega), Keep.cell (S := [gw]) (w := wa) ?_ E0.out (by simp; omega), Keep.cell (S := [gw]) (w := wa) ?_ E1.out (by simp; omega), Keep.cell (S := [gw]) (w := wa) ?_ E2.out (by simp; omega), Keep.cell (S := [gw]) (w := wa) ?_ E3.out (by simp; omega)⟩; all_goals (((repeat (first | (with_reducible exact HK6.out.mono (by simp)) | (with_reducible refine Keep.drew ?_) | (with_reducible refine Keep.drewN ?_ _) | (with_reducible refine Keep.alloc ?_ _) | ((with_reducible refine Keep.setCell ?_ ?_ _); rotate_left; focus (first | (simp; done) | (simp; omega) | (left; dsimp only; omega))))); done))))
            (first
              | (go_at_call 104; refine (HEN.out _).mono ?_; rintro e w5 ⟨rfl, K5⟩; have HK5 := Lib.hid (show Keep [] wa w5 from by refine Keep.trans (a := wa) ?_ K5; first | (((repeat (first | (with_reducible exact HK6.out) | (with_reducible refine Keep.drew ?_) | (with_reducible refine Keep.drewN ?_ _) | (with_reducible refine Keep.alloc ?_ _) | ((with_reducible refine Keep.setCell ?_ ?_ _); rotate_left; focus (first | (simp; done) | (simp; omega) | (left; dsimp only; omega))))); done)) | (((repeat (first | (with_reducible exact Keep.refl _ _) | (with_reducible refine Keep.drew ?_) | (with_reducible refine Keep.drewN ?_ _) | (with_reducible refine Keep.alloc ?_ _) | ((with_reducible refine Keep.setCell ?_ ?_ _); rotate_left; focus (first | (simp; done) | (simp; omega) | (left; dsimp only; omega))))); done))); have HRW := Lib.hid (HK5.out.get HROW.out (by simp)); have hcw := row_cell HRW.out (i := 6 + b) (by have := HLEN.out; omega); have hfw := frozen_at HRW.out; have hlw := lt_of_block HRW.out; clear K5)
              | (go_at_call 99; refine (HWD.out _).mono ?_; rintro e w6 ⟨rfl, K6⟩; have HK6 := Lib.hid (show Keep [] wa w6 from by refine Keep.trans (a := wa) ?_ K6; first | (((repeat (first | (with_reducible exact HK5.out) | (with_reducible refine Keep.drew ?_) | (with_reducible refine Keep.drewN ?_ _) | (with_reducible refine Keep.alloc ?_ _) | ((with_reducible refine Keep.setCell ?_ ?_ _); rotate_left; focus (first | (simp; done) | (simp; omega) | (left; dsimp only; omega))))); done)) | (((repeat (first | (with_reducible exact Keep.refl _ _) | (with_reducible refine Keep.drew ?_) | (with_reducible refine Keep.drewN ?_ _) | (with_reducible refine Keep.alloc ?_ _) | ((with_reducible refine Keep.setCell ?_ ?_ _); rotate_left; focus (first | (simp; done) | (simp; omega) | (left; dsimp only; omega))))); done))); have HRW := Lib.hid (HK6.out.get HROW.out (by simp)); have hcw := row_cell HRW.out (i := 6 + b) (by have := HLEN.out; omega); have hfw := frozen_at HRW.out; have hlw := lt_of_block HRW.out; clear K6)))
        | fail
        all_goals (
          generalize hw9 : World.setCell w6 _ _ = w9
          have b9 : w9.heap[gw]? = some (.cells (cellsOf .u64 (V.set (6 + b) wd)) 27 (0, 0)) := by rw [← hw9, ← cellsOf_set]; exact put_at HRW.out (6 + b) _
          have K9 : Keep [gw] wa w9 := by rw [← hw9]; ((repeat (first | (with_reducible exact HK6.out.mono (by simp)) | (with_reducible refine Keep.drew ?_) | (with_reducible refine Keep.drewN ?_ _) | (with_reducible refine Keep.alloc ?_ _) | ((with_reducible refine Keep.setCell ?_ ?_ _); rotate_left; focus (first | (simp; done) | (simp; omega) | (left; dsimp only; omega))))); done)
          have hpz : putz V (6 + (b : Int)) wd = V.set (6 + b) wd := by rw [show (6 : Int) + b = ((6 + b : Nat) : Int) from by omega, putz_nat (by have := HLEN.out; omega)]
          have hs9 := HSA.out.put K9 b9
          rw [← hpz, ← HSUC.out] at hs9
          have HS9 := Lib.hid hs9
          clear hw9 b9 K9 hpz hs9 hcw hfw hlw
          go_wp2_with fail
          go_roundg (n - (b + 1))
          case measure => omega
          case rel => exact ⟨b + 1, by omega, by go_num, HS9.out⟩)
      have q4 : (c == 4) = false := by simp [c4]
      by_cases c3 : 3 < c
      · have q5 : decide (3 < c) = true := by simp; omega
        go_upto_region 19 with (fail)
        obtain ⟨ze, hze⟩ : ∃ y, y = wr.heap.size := ⟨_, rfl⟩
        simp only [← hze]
        generalize hwa : World.alloc wr _ = wa
        have bze : wa.heap[ze]? = some (.cells #[.int .u8 0, .int .u8 0, .int .u8 0, .int .u8 0] 61 (0, 0)) := by rw [← hwa]; exact alloc_new _ _ _ hze
        have Ka : Keep [] wr wa := by rw [← hwa]; exact (by repeat (first | (with_reducible exact Keep.refl _ _) | (with_reducible refine Keep.drew ?_) | (with_reducible refine Keep.drewN ?_ _) | (with_reducible refine Keep.alloc ?_ _) | (with_reducible refine Keep.setCell ?_ (by first | (simp; done) | (simp; omega) | (left; dsimp only; omega)) _)))
        have hsa := HS.out.keep Ka
        have HLA := Lib.hid hsa.lay; have HROW := Lib.hid hsa.row; have HSA := Lib.hid hsa
        have hzz : z8 ≠ gw ∧ ze ≠ gw := by have := HO.out; omega
        clear hwa Ka hsa cz lz lz8 lgw hcell hal hze
        have D0 : Hid (wa.cell? ⟨z8, 0, none⟩ = some (.int .i64 1)) := by rw [Hid, cell_at HLA.out]; rfl
        have D1 : Hid (wa.cell? ⟨z8, 1, none⟩ = some (.int .i64 2)) := by rw [Hid, cell_at HLA.out]; rfl
        have D2 : Hid (wa.cell? ⟨z8, 2, none⟩ = some (.int .i64 n)) := by rw [Hid, cell_at HLA.out]; rfl
        have E0 : Hid (wa.cell? ⟨ze, 0, none⟩ = some (.int .u8 0)) := by rw [Hid, cell_at bze]; rfl
        have E1 : Hid (wa.cell? ⟨ze, 1, none⟩ = some (.int .u8 0)) := by rw [Hid, cell_at bze]; rfl
        have E2 : Hid (wa.cell? ⟨ze, 2, none⟩ = some (.int .u8 0)) := by rw [Hid, cell_at bze]; rfl
        have E3 : Hid (wa.cell? ⟨ze, 3, none⟩ = some (.int .u8 0)) := by rw [Hid, cell_at bze]; rfl
        have hwd := fun w' => ref05_word ⟨0, 0, 0, 0⟩ ⟨by dsimp only; omega, by dsimp only; omega, by dsimp only; omega, by dsimp only; omega⟩ w'
        rw [show (En.mk 0 0 0 0) = enS c from by unfold enS; rw [if_neg c4, if_pos c3]; rfl] at hwd
        rw [show (enS c).val = .agg #[.int .u8 0, .int .u8 0, .int .u8 0, .int .u8 0] from by unfold enS En.val; rw [if_neg c4, if_pos c3]; rfl] at hwd
        generalize (enS c).word = wd at hwd HSUC
        have HWD := Lib.hid hwd
        clear hwd bze
        first
        | (go_region_held3 (fun w' => w'.cell? ⟨z8, 0, none⟩ = some (.int .i64 1) ∧ w'.cell? ⟨z8, 1, none⟩ = some (.int .i64 2) ∧ w'.cell? ⟨z8, 2, none⟩ = some (.int .i64 n) ∧ w'.cell? ⟨ze, 0, none⟩ = some (.int .u8 0) ∧ w'.cell? ⟨ze, 1, none⟩ = some (.int .u8 0) ∧ w'.cell? ⟨ze, 2, none⟩ = some (.int .u8 0) ∧ w'.cell? ⟨ze, 3, none⟩ = some (.int .u8 0))
            (first
              | (refine ⟨Keep.cell (S := []) (w := wa) ?_ D0.out (by simp), Keep.cell (S := []) (w := wa) ?_ D1.out (by simp), Keep.cell (S := []) (w := wa) ?_ D2.out (by simp), Keep.cell (S := []) (w := wa) ?_ E0.out (by simp), Keep.cell (S := []) (w := wa) ?_ E1.out (by simp), Keep.cell (S := []) (w := wa) ?_ E2.out (by simp), Keep.cell (S := []) (w := wa) ?_ E3.out (by simp)⟩; all_goals (((repeat (first | (with_reducible exact Keep.refl _ _) | (with_reducible refine Keep.drew ?_) | (with_reducible refine Keep.drewN ?_ _) | (with_reducible refine Keep.alloc ?_ _) | ((with_reducible refine Keep.setCell ?_ ?_ _); rotate_left; focus (first | (simp; done) | (simp; omega) | (left; dsimp only; omega))))); done)))
              | (refine ⟨Keep.cell (S := []) (w := wa) ?_ D0.out (by simp), Keep.cell (S := []) (w := wa) ?_ D1.out (by simp), Keep.cell (S := []) (w := wa) ?_ D2.out (by simp), Keep.cell (S := []) (w := wa) ?_ E0.out (by simp), Keep.cell (S := []) (w := wa) ?_ E1.out (by simp), Keep.cell (S := []) (w := wa) ?_ E2.out (by simp), Keep.cell (S := []) (w := wa) ?_ E3.out (by simp)⟩; all_goals (((repeat (first | (with_reducible exact HK5.out) | (with_reducible refine Keep.drew ?_) | (with_reducible refine Keep.drewN ?_ _) | (with_reducible refine Keep.alloc ?_ _) | ((with_reducible refine Keep.setCell ?_ ?_ _); rotate_left; focus (first | (simp; done) | (simp; omega) | (left; dsimp only; omega))))); done)))
              | (refine ⟨Keep.cell (S := []) (w := wa) ?_ D0.out (by simp), Keep.cell (S := []) (w := wa) ?_ D1.out (by simp), Keep.cell (S := []) (w := wa) ?_ D2.out (by simp), Keep.cell (S := []) (w := wa) ?_ E0.out (by simp), Keep.cell (S := []) (w := wa) ?_ E1.out (by simp), Keep.cell (S := []) (w := wa) ?_ E2.out (by simp), Keep.cell (S := []) (w := wa) ?_ E3.out (by simp)⟩; all_goals (((repeat (first | (with_reducible exact HK6.out) | (with_reducible refine Keep.drew ?_) | (with_reducible refine Keep.drewN ?_ _) | (with_reducible refine Keep.alloc ?_ _) | ((with_reducible refine Keep.setCell ?_ ?_ _); rotate_left; focus (first | (simp; done) | (simp; omega) | (left; dsimp only; omega))))); done)))
              | (refine ⟨Keep.cell (S := [gw]) (w := wa) ?_ D0.out (by simp; omega), Keep.cell (S := [gw]) (w := wa) ?_ D1.out (by simp; omega), Keep.cell (S := [gw]) (w := wa) ?_ D2.out (by simp; omega), Keep.cell (S := [gw]) (w := wa) ?_ E0.out (by simp; omega), Keep.cell (S := [gw]) (w := wa) ?_ E1.out (by simp; omega), Keep.cell (S := [gw]) (w := wa) ?_ E2.out (by simp; omega), Keep.cell (S := [gw]) (w := wa) ?_ E3.out (by simp; omega)⟩; all_goals (((repeat (first | (with_reducible exact HK6.out.mono (by simp)) | (with_reducible refine Keep.drew ?_) | (with_reducible refine Keep.drewN ?_ _) | (with_reducible refine Keep.alloc ?_ _) | ((with_reducible refine Keep.setCell ?_ ?_ _); rotate_left; focus (first | (simp; done) | (simp; omega) | (left; dsimp only; omega))))); done))))
            (first
              | (go_at_call 104; refine (HEN.out _).mono ?_; rintro e w5 ⟨rfl, K5⟩; have HK5 := Lib.hid (show Keep [] wa w5 from by refine Keep.trans (a := wa) ?_ K5; first | (((repeat (first | (with_reducible exact HK6.out) | (with_reducible refine Keep.drew ?_) | (with_reducible refine Keep.drewN ?_ _) | (with_reducible refine Keep.alloc ?_ _) | ((with_reducible refine Keep.setCell ?_ ?_ _); rotate_left; focus (first | (simp; done) | (simp; omega) | (left; dsimp only; omega))))); done)) | (((repeat (first | (with_reducible exact Keep.refl _ _) | (with_reducible refine Keep.drew ?_) | (with_reducible refine Keep.drewN ?_ _) | (with_reducible refine Keep.alloc ?_ _) | ((with_reducible refine Keep.setCell ?_ ?_ _); rotate_left; focus (first | (simp; done) | (simp; omega) | (left; dsimp only; omega))))); done))); have HRW := Lib.hid (HK5.out.get HROW.out (by simp)); have hcw := row_cell HRW.out (i := 6 + b) (by have := HLEN.out; omega); have hfw := frozen_at HRW.out; have hlw := lt_of_block HRW.out; clear K5)
              | (go_at_call 99; refine (HWD.out _).mono ?_; rintro e w6 ⟨rfl, K6⟩; have HK6 := Lib.hid (show Keep [] wa w6 from by refine Keep.trans (a := wa) ?_ K6; first | (((repeat (first | (with_reducible exact HK5.out) | (with_reducible refine Keep.drew ?_) | (with_reducible refine Keep.drewN ?_ _) | (with_reducible refine Keep.alloc ?_ _) | ((with_reducible refine Keep.setCell ?_ ?_ _); rotate_left; focus (first | (simp; done) | (simp; omega) | (left; dsimp only; omega))))); done)) | (((repeat (first | (with_reducible exact Keep.refl _ _) | (with_reducible refine Keep.drew ?_) | (with_reducible refine Keep.drewN ?_ _) | (with_reducible refine Keep.alloc ?_ _) | ((with_reducible refine Keep.setCell ?_ ?_ _); rotate_left; focus (first | (simp; done) | (simp; omega) | (left; dsimp only; omega))))); done))); have HRW := Lib.hid (HK6.out.get HROW.out (by simp)); have hcw := row_cell HRW.out (i := 6 + b) (by have := HLEN.out; omega); have hfw := frozen_at HRW.out; have hlw := lt_of_block HRW.out; clear K6)))
        | fail
        all_goals (
          generalize hw9 : World.setCell w6 _ _ = w9
          have b9 : w9.heap[gw]? = some (.cells (cellsOf .u64 (V.set (6 + b) wd)) 27 (0, 0)) := by rw [← hw9, ← cellsOf_set]; exact put_at HRW.out (6 + b) _
          have K9 : Keep [gw] wa w9 := by rw [← hw9]; ((repeat (first | (with_reducible exact HK6.out.mono (by simp)) | (with_reducible refine Keep.drew ?_) | (with_reducible refine Keep.drewN ?_ _) | (with_reducible refine Keep.alloc ?_ _) | ((with_reducible refine Keep.setCell ?_ ?_ _); rotate_left; focus (first | (simp; done) | (simp; omega) | (left; dsimp only; omega))))); done)
          have hpz : putz V (6 + (b : Int)) wd = V.set (6 + b) wd := by rw [show (6 : Int) + b = ((6 + b : Nat) : Int) from by omega, putz_nat (by have := HLEN.out; omega)]
          have hs9 := HSA.out.put K9 b9
          rw [← hpz, ← HSUC.out] at hs9
          have HS9 := Lib.hid hs9
          clear hw9 b9 K9 hpz hs9 hcw hfw hlw
          go_wp2_with fail
          go_roundg (n - (b + 1))
          case measure => omega
          case rel => exact ⟨b + 1, by omega, by go_num, HS9.out⟩)
      · have q5 : decide (3 < c) = false := by simp; omega
        go_upto_region 19 with (fail)
        obtain ⟨ze, hze⟩ : ∃ y, y = wr.heap.size := ⟨_, rfl⟩
        simp only [← hze]
        generalize hwa : World.alloc wr _ = wa
        have bze : wa.heap[ze]? = some (.cells #[.int .u8 1, .int .u8 c, .int .u8 0, .int .u8 0] 61 (0, 0)) := by rw [← hwa]; exact alloc_new _ _ _ hze
        have Ka : Keep [] wr wa := by rw [← hwa]; exact (by repeat (first | (with_reducible exact Keep.refl _ _) | (with_reducible refine Keep.drew ?_) | (with_reducible refine Keep.drewN ?_ _) | (with_reducible refine Keep.alloc ?_ _) | (with_reducible refine Keep.setCell ?_ (by first | (simp; done) | (simp; omega) | (left; dsimp only; omega)) _)))
        have hsa := HS.out.keep Ka
        have HLA := Lib.hid hsa.lay; have HROW := Lib.hid hsa.row; have HSA := Lib.hid hsa
        have hzz : z8 ≠ gw ∧ ze ≠ gw := by have := HO.out; omega
        clear hwa Ka hsa cz lz lz8 lgw hcell hal hze
        have D0 : Hid (wa.cell? ⟨z8, 0, none⟩ = some (.int .i64 1)) := by rw [Hid, cell_at HLA.out]; rfl
        have D1 : Hid (wa.cell? ⟨z8, 1, none⟩ = some (.int .i64 2)) := by rw [Hid, cell_at HLA.out]; rfl
        have D2 : Hid (wa.cell? ⟨z8, 2, none⟩ = some (.int .i64 n)) := by rw [Hid, cell_at HLA.out]; rfl
        have E0 : Hid (wa.cell? ⟨ze, 0, none⟩ = some (.int .u8 1)) := by rw [Hid, cell_at bze]; rfl
        have E1 : Hid (wa.cell? ⟨ze, 1, none⟩ = some (.int .u8 c)) := by rw [Hid, cell_at bze]; rfl
        have E2 : Hid (wa.cell? ⟨ze, 2, none⟩ = some (.int .u8 0)) := by rw [Hid, cell_at bze]; rfl
        have E3 : Hid (wa.cell? ⟨ze, 3, none⟩ = some (.int .u8 0)) := by rw [Hid, cell_at bze]; rfl
        have hwd := fun w' => ref05_word ⟨1, c, 0, 0⟩ ⟨by dsimp only; omega, by dsimp only; omega, by dsimp only; omega, by dsimp only; omega⟩ w'
        rw [show (En.mk 1 c 0 0) = enS c from by unfold enS; rw [if_neg c4, if_neg c3]] at hwd
        rw [show (enS c).val = .agg #[.int .u8 1, .int .u8 c, .int .u8 0, .int .u8 0] from by unfold enS En.val; rw [if_neg c4, if_neg c3]] at hwd
        generalize (enS c).word = wd at hwd HSUC
        have HWD := Lib.hid hwd
        clear hwd bze
        first
        | (go_region_held3 (fun w' => w'.cell? ⟨z8, 0, none⟩ = some (.int .i64 1) ∧ w'.cell? ⟨z8, 1, none⟩ = some (.int .i64 2) ∧ w'.cell? ⟨z8, 2, none⟩ = some (.int .i64 n) ∧ w'.cell? ⟨ze, 0, none⟩ = some (.int .u8 1) ∧ w'.cell? ⟨ze, 1, none⟩ = some (.int .u8 c) ∧ w'.cell? ⟨ze, 2, none⟩ = some (.int .u8 0) ∧ w'.cell? ⟨ze, 3, none⟩ = some (.int .u8 0))
            (first
              | (refine ⟨Keep.cell (S := []) (w := wa) ?_ D0.out (by simp), Keep.cell (S := []) (w := wa) ?_ D1.out (by simp), Keep.cell (S := []) (w := wa) ?_ D2.out (by simp), Keep.cell (S := []) (w := wa) ?_ E0.out (by simp), Keep.cell (S := []) (w := wa) ?_ E1.out (by simp), Keep.cell (S := []) (w := wa) ?_ E2.out (by simp), Keep.cell (S := []) (w := wa) ?_ E3.out (by simp)⟩; all_goals (((repeat (first | (with_reducible exact Keep.refl _ _) | (with_reducible refine Keep.drew ?_) | (with_reducible refine Keep.drewN ?_ _) | (with_reducible refine Keep.alloc ?_ _) | ((with_reducible refine Keep.setCell ?_ ?_ _); rotate_left; focus (first | (simp; done) | (simp; omega) | (left; dsimp only; omega))))); done)))
              | (refine ⟨Keep.cell (S := []) (w := wa) ?_ D0.out (by simp), Keep.cell (S := []) (w := wa) ?_ D1.out (by simp), Keep.cell (S := []) (w := wa) ?_ D2.out (by simp), Keep.cell (S := []) (w := wa) ?_ E0.out (by simp), Keep.cell (S := []) (w := wa) ?_ E1.out (by simp), Keep.cell (S := []) (w := wa) ?_ E2.out (by simp), Keep.cell (S := []) (w := wa) ?_ E3.out (by simp)⟩; all_goals (((repeat (first | (with_reducible exact HK5.out) | (with_reducible refine Keep.drew ?_) | (with_reducible refine Keep.drewN ?_ _) | (with_reducible refine Keep.alloc ?_ _) | ((with_reducible refine Keep.setCell ?_ ?_ _); rotate_left; focus (first | (simp; done) | (simp; omega) | (left; dsimp only; omega))))); done)))
              | (refine ⟨Keep.cell (S := []) (w := wa) ?_ D0.out (by simp), Keep.cell (S := []) (w := wa) ?_ D1.out (by simp), Keep.cell (S := []) (w := wa) ?_ D2.out (by simp), Keep.cell (S := []) (w := wa) ?_ E0.out (by simp), Keep.cell (S := []) (w := wa) ?_ E1.out (by simp), Keep.cell (S := []) (w := wa) ?_ E2.out (by simp), Keep.cell (S := []) (w := wa) ?_ E3.out (by simp)⟩; all_goals (((repeat (first | (with_reducible exact HK6.out) | (with_reducible refine Keep.drew ?_) | (with_reducible refine Keep.drewN ?_ _) | (with_reducible refine Keep.alloc ?_ _) | ((with_reducible refine Keep.setCell ?_ ?_ _); rotate_left; focus (first | (simp; done) | (simp; omega) | (left; dsimp only; omega))))); done)))
              | (refine ⟨Keep.cell (S := [gw]) (w := wa) ?_ D0.out (by simp; omega), Keep.cell (S := [gw]) (w := wa) ?_ D1.out (by simp; omega), Keep.cell (S := [gw]) (w := wa) ?_ D2.out (by simp; omega), Keep.cell (S := [gw]) (w := wa) ?_ E0.out (by simp; omega), Keep.cell (S := [gw]) (w := wa) ?_ E1.out (by simp; omega), Keep.cell (S := [gw]) (w := wa) ?_ E2.out (by simp; omega), Keep.cell (S := [gw]) (w := wa) ?_ E3.out (by simp; omega)⟩; all_goals (((repeat (first | (with_reducible exact HK6.out.mono (by simp)) | (with_reducible refine Keep.drew ?_) | (with_reducible refine Keep.drewN ?_ _) | (with_reducible refine Keep.alloc ?_ _) | ((with_reducible refine Keep.setCell ?_ ?_ _); rotate_left; focus (first | (simp; done) | (simp; omega) | (left; dsimp only; omega))))); done))))
            (first
              | (go_at_call 104; refine (HEN.out _).mono ?_; rintro e w5 ⟨rfl, K5⟩; have HK5 := Lib.hid (show Keep [] wa w5 from by refine Keep.trans (a := wa) ?_ K5; first | (((repeat (first | (with_reducible exact HK6.out) | (with_reducible refine Keep.drew ?_) | (with_reducible refine Keep.drewN ?_ _) | (with_reducible refine Keep.alloc ?_ _) | ((with_reducible refine Keep.setCell ?_ ?_ _); rotate_left; focus (first | (simp; done) | (simp; omega) | (left; dsimp only; omega))))); done)) | (((repeat (first | (with_reducible exact Keep.refl _ _) | (with_reducible refine Keep.drew ?_) | (with_reducible refine Keep.drewN ?_ _) | (with_reducible refine Keep.alloc ?_ _) | ((with_reducible refine Keep.setCell ?_ ?_ _); rotate_left; focus (first | (simp; done) | (simp; omega) | (left; dsimp only; omega))))); done))); have HRW := Lib.hid (HK5.out.get HROW.out (by simp)); have hcw := row_cell HRW.out (i := 6 + b) (by have := HLEN.out; omega); have hfw := frozen_at HRW.out; have hlw := lt_of_block HRW.out; clear K5)
              | (go_at_call 99; refine (HWD.out _).mono ?_; rintro e w6 ⟨rfl, K6⟩; have HK6 := Lib.hid (show Keep [] wa w6 from by refine Keep.trans (a := wa) ?_ K6; first | (((repeat (first | (with_reducible exact HK5.out) | (with_reducible refine Keep.drew ?_) | (with_reducible refine Keep.drewN ?_ _) | (with_reducible refine Keep.alloc ?_ _) | ((with_reducible refine Keep.setCell ?_ ?_ _); rotate_left; focus (first | (simp; done) | (simp; omega) | (left; dsimp only; omega))))); done)) | (((repeat (first | (with_reducible exact Keep.refl _ _) | (with_reducible refine Keep.drew ?_) | (with_reducible refine Keep.drewN ?_ _) | (with_reducible refine Keep.alloc ?_ _) | ((with_reducible refine Keep.setCell ?_ ?_ _); rotate_left; focus (first | (simp; done) | (simp; omega) | (left; dsimp only; omega))))); done))); have HRW := Lib.hid (HK6.out.get HROW.out (by simp)); have hcw := row_cell HRW.out (i := 6 + b) (by have := HLEN.out; omega); have hfw := frozen_at HRW.out; have hlw := lt_of_block HRW.out; clear K6)))
        | fail
        all_goals (
          generalize hw9 : World.setCell w6 _ _ = w9
          have b9 : w9.heap[gw]? = some (.cells (cellsOf .u64 (V.set (6 + b) wd)) 27 (0, 0)) := by rw [← hw9, ← cellsOf_set]; exact put_at HRW.out (6 + b) _
          have K9 : Keep [gw] wa w9 := by rw [← hw9]; ((repeat (first | (with_reducible exact HK6.out.mono (by simp)) | (with_reducible refine Keep.drew ?_) | (with_reducible refine Keep.drewN ?_ _) | (with_reducible refine Keep.alloc ?_ _) | ((with_reducible refine Keep.setCell ?_ ?_ _); rotate_left; focus (first | (simp; done) | (simp; omega) | (left; dsimp only; omega))))); done)
          have hpz : putz V (6 + (b : Int)) wd = V.set (6 + b) wd := by rw [show (6 : Int) + b = ((6 + b : Nat) : Int) from by omega, putz_nat (by have := HLEN.out; omega)]
          have hs9 := HSA.out.put K9 b9
          rw [← hpz, ← HSUC.out] at hs9
          have HS9 := Lib.hid hs9
          clear hw9 b9 K9 hpz hs9 hcw hfw hlw
          go_wp2_with fail
          go_roundg (n - (b + 1))
          case measure => omega
          case rel => exact ⟨b + 1, by omega, by go_num, HS9.out⟩)
    · obtain rfl : b = n := by omega
      have HSG := Lib.hid hS
      have hlen0 := entW_len bl ⟨1, 2, b⟩ b
      dsimp only at hlen0
      have cz := cell_at hS.box; have lz := lt_of_block hS.box; have c8 := cell_at hS.lay; have l8 := lt_of_block hS.lay
      have hsta := HST.out wr (by have h := (HH.out.keep hS.all).blocks; rw [HN.out] at h; exact h)
      have hall := allS_bd (Lay.mk 1 2 b) HLF.out bl b (Nat.le_refl _)
      have hall2 := allS_len (Lay.mk 1 2 b) bl b
      obtain ⟨Tot, hTot⟩ : ∃ Tot, Tot = putS (allS ⟨1, 2, b⟩ bl b) (spotsS ⟨1, 2, b⟩ bl 0 b) cs (entW bl ⟨1, 2, b⟩ b) := ⟨_, rfl⟩
      rw [← hTot] at hR
      generalize entW bl ⟨1, 2, b⟩ b = V0 at *
      generalize allS ⟨1, 2, b⟩ bl b = all at *
      have hall100 : all.length ≤ 100 := by omega
      have HTOT := Lib.hid hTot; have HSTA := Lib.hid hsta; have HALL := Lib.hid hall; have HLEN0 := Lib.hid hlen0
      clear hTot hsta hall hS hlen0
      go_wp2_with fail
      refine HSTA.out.mono ?_
      rintro e w4 ⟨av, rfl, hos, K4⟩
      have hrs := Rd.of_owns hos (by intro u hu; obtain ⟨x, _, rfl⟩ := List.mem_map.1 hu; rfl)
      have hob := owns_block hos
      obtain ⟨aav, acap, rfl, -, -⟩ := owns_val hos
      have lgw := lt_of_block HSG.out.row
      have hfar : ∀ g, (Value.slice aav all.length acap).ownBlock = some g → gw < g := fun g hg => by have := (hob g hg).1; omega
      have hs4 := HSG.out.keep K4
      have lg4 := K4.size
      go_wp2_with fail
      obtain ⟨za, hza⟩ : ∃ y, y = w4.heap.size := ⟨_, rfl⟩
      simp only [← hza]
      generalize hw5 : World.alloc _ _ = w5
      have K5 : Keep [] w4 w5 := by rw [← hw5]; exact (by repeat (first | (with_reducible exact Keep.refl _ _) | (with_reducible refine Keep.drew ?_) | (with_reducible refine Keep.drewN ?_ _) | (with_reducible refine Keep.alloc ?_ _) | (with_reducible refine Keep.setCell ?_ (by first | (simp; done) | (simp; omega) | (left; dsimp only; omega)) _)))
      have hS5 : Stg2 w w5 z z8 gw b (.slice ab b capb) (.slice ac cs.length capc) r0 r1 all za (.slice aav all.length acap) V0 := ⟨hs4.keep K5, by rw [← hw5]; exact alloc_new _ _ _ hza, hrs.keep K5 (fun _ _ => by simp), ⟨by omega, hfar⟩, HLEN0.out⟩
      have HS5 := Lib.hid hS5
      clear hw5 K5 hS5 hs4 hfar hrs hob hos K4 hza lgw lg4 cz lz c8 l8 hall2
      go_loopg [16, 17] b (fun j k i wr => ∃ (q m : Nat) (W : List Int), q + j = b ∧ i = .int .i64 q ∧ k = .int .i64 m ∧ m ≤ cs.length ∧ Stg2 w wr z z8 gw b (.slice ab b capb) (.slice ac cs.length capc) r0 r1 all za (.slice aav all.length acap) W ∧ Tot = putS all (spotsS ⟨1, 2, b⟩ bl q (b - q)) (cs.drop m) W)
      case atStart => exact ⟨0, 0, V0, by omega, rfl, rfl, by omega, HS5.out, by rw [HTOT.out]; rfl⟩
      case round =>
        obtain ⟨q, m, W, hqj, rfl, rfl, hmc, hS, hT⟩ := hrel
        by_cases hqn : q < b
        · have i1 : (q : Int) < b := by omega
          have i0 : (0 : Int) ≤ (q : Int) := by omega
          have hbn' : q < bl.length := by rw [HN.out]; exact hqn
          have hbc : bl[q]? = some (bl.getD q 0) := by rw [List.getD_eq_getElem?_getD, List.getElem?_eq_getElem hbn']; rfl
          have hcu : 0 ≤ bl.getD q 0 ∧ bl.getD q 0 ≤ 255 := hbits _ (by rw [List.getD_eq_getElem?_getD, List.getElem?_eq_getElem hbn']; exact List.getElem_mem hbn')
          have hrb := (HH.out.keep hS.stg.all).blocks
          obtain ⟨a, o, rfl, hal, hac⟩ := hrb.some (by rw [u8s_len]; omega)
          have hcell := hac q _ (by rw [u8s_get, hbc]; rfl)
          have hsp := spotsS_succ ⟨1, 2, b⟩ bl q (b - q - 1)
          rw [show b - q - 1 + 1 = b - q from by omega] at hsp
          rw [hsp] at hT
          have cz := cell_at hS.stg.box; have lz := lt_of_block hS.stg.box
          have hstc := fun w => ref03_starts (bl.getD q 0) w
          have hwdc := fun w => ref03_words (bl.getD q 0) w
          have hwb := wordsC_bd (bl.getD q 0)
          have hspl : (spotsAt ⟨1, 2, b⟩ q (bl.getD q 0)).length = cellsC (bl.getD q 0) := by unfold spotsAt; rw [List.length_map, cellsAt_len]
          have hspg : ∀ i : Nat, i < cellsC (bl.getD q 0) → (spotsAt ⟨1, 2, b⟩ q (bl.getD q 0))[i]? = some ((Lay.mk 1 2 b).start q + (i : Int) * wordsC (bl.getD q 0), wordsC (bl.getD q 0) - 1) ∧ (startsC (bl.getD q 0))[i]? = some ((i : Int) * wordsC (bl.getD q 0)) ∧ 0 ≤ (i : Int) * wordsC (bl.getD q 0) ∧ (i : Int) * wordsC (bl.getD q 0) + wordsC (bl.getD q 0) ≤ 32 := fun i hi => by
            have h1 := startsC_get (bl.getD q 0) i hi
            have h2 := startsC_bd (bl.getD q 0) _ (List.mem_of_getElem? h1)
            exact ⟨by unfold spotsAt cellsAt; rw [List.getElem?_map, List.getElem?_map, h1]; rfl, h1, h2⟩
          have hsl := startsC_len (bl.getD q 0)
          have hcb := cellsC_le (bl.getD q 0)
          generalize bl.getD q 0 = c at *
          generalize hrest : spotsS ⟨1, 2, b⟩ bl (q + 1) (b - q - 1) = rest at *
          have HREST := Lib.hid hrest
          clear hrest
          generalize spotsAt ⟨1, 2, b⟩ q c = sp at *
          generalize startsC c = sc at *
          generalize cellsC c = C at *
          generalize wordsC c = wn at *
          have hcw : IntKind.i64.wrap c = c := by rw [IntKind.wrap_i64]; omega
          have hcw2 : IntKind.i64.wrap (wn - 1) = wn - 1 := by rw [IntKind.wrap_i64]; omega
          have HSTC := Lib.hid hstc; have HWDC := Lib.hid hwdc; have HSPL := Lib.hid hspl; have HSPG := Lib.hid hspg; have HSL := Lib.hid hsl; have HS := Lib.hid hS; have HT := Lib.hid hT; have HRB := Lib.hid hrb
          clear hstc hwdc hspl hspg hsl hS hT hsp hrb hbc hbn' hac
          go_wp2_with fail
          refine (HWDC.out wr).mono ?_
          rintro e w6 ⟨rfl, hw6⟩
          subst hw6
          go_wp2_with fail
          refine (HSTC.out _).mono ?_
          rintro e w7 ⟨vs, rfl, hos, K7⟩
          have hrs := Rd.of_owns hos (by intro u hu; obtain ⟨x, _, rfl⟩ := List.mem_map.1 hu; rfl)
          have hvs := owns_block hos
          obtain ⟨asl, caps, rfl, -, -⟩ := owns_val hos
          have lgw := lt_of_block HS.out.stg.row
          have hsfar : ∀ g, (Value.slice asl C caps).ownBlock = some g → gw < g := fun g hg => by have := (hvs g hg).1; omega
          have HS7 := Lib.hid (HS.out.keep K7); have HRS := Lib.hid hrs; have HSF := Lib.hid hsfar
          clear hos hrs hvs K7 hcell cz lz hal lgw hsfar
          go_wp2_with fail
          go_loopg [16, 20] C (fun j k i wq => ∃ (p m : Nat) (W : List Int), p + j = C ∧ i = .int .i64 p ∧ k = .int .i64 m ∧ m ≤ cs.length ∧ Stg2 w wq z z8 gw b (.slice (some ⟨a, o, none⟩) b capb) (.slice ac cs.length capc) r0 r1 all za (.slice aav all.length acap) W ∧ Rd wq (.slice asl C caps) C (intsV sc) ∧ Tot = putS all (sp.drop p ++ rest) (cs.drop m) W)
          case atStart => exact ⟨0, m, W, by omega, rfl, rfl, hmc, HS7.out, HRS.out, HT.out⟩
          case round =>
            clear HS HS7 HRS HT
            obtain ⟨p, m, W, hpj, rfl, rfl, hmc, hS, hrs, hT⟩ := hrel
            by_cases hpC : p < C
            · obtain ⟨e1, e2, e3, e4⟩ := HSPG.out p hpC
              have hdr : sp.drop p = ((Lay.mk 1 2 b).start q + (p : Int) * wn, wn - 1) :: sp.drop (p + 1) := by rw [List.drop_eq_getElem?_toList_append, e1]; rfl
              rw [hdr, List.cons_append] at hT
              have j1 : (p : Int) < C := by omega
              have j0 : (0 : Int) ≤ (p : Int) := by omega
              have cz := cell_at hS.stg.box; have lz := lt_of_block hS.stg.box
              by_cases hmk : m < cs.length
              · have g1 : decide ((cs.length : Int) ≤ (m : Int)) = false := by simp; omega
                have g2 : ¬ (cs.length : Int) ≤ (m : Int) := by omega
                have k1 : (m : Int) < cs.length := by omega
                have k0 : (0 : Int) ≤ (m : Int) := by omega
                have hdm : cs.drop m = cs[m] :: cs.drop (m + 1) := List.drop_eq_getElem_cons hmk
                have hck : cs[m]? = some cs[m] := List.getElem?_eq_getElem hmk
                have hmem : cs[m] ∈ cs := List.getElem_mem hmk
                have hcr := (HH.out.keep hS.stg.all).cells
                obtain ⟨ca, co, rfl, hcl, hcc⟩ := hcr.some (by rw [flat8_len]; omega)
                have hok := (HH.out.keep hS.stg.all).ok _ (List.getElem_mem hmk)
                have x0 := hcc (8 * m + 0) _ (by rw [flat8_get cs m 0 (by omega), hck]; rfl)
                rw [show co + (8 * m + 0) = co + m * 8 from by omega] at x0
                have x1 := hcc (8 * m + 1) _ (by rw [flat8_get cs m 1 (by omega), hck]; rfl)
                rw [show co + (8 * m + 1) = co + m * 8 + 1 from by omega] at x1
                have x2 := hcc (8 * m + 2) _ (by rw [flat8_get cs m 2 (by omega), hck]; rfl)
                rw [show co + (8 * m + 2) = co + m * 8 + 2 from by omega] at x2
                have x3 := hcc (8 * m + 3) _ (by rw [flat8_get cs m 3 (by omega), hck]; rfl)
                rw [show co + (8 * m + 3) = co + m * 8 + 3 from by omega] at x3
                have x4 := hcc (8 * m + 4) _ (by rw [flat8_get cs m 4 (by omega), hck]; rfl)
                rw [show co + (8 * m + 4) = co + m * 8 + 4 from by omega] at x4
                have x5 := hcc (8 * m + 5) _ (by rw [flat8_get cs m 5 (by omega), hck]; rfl)
                rw [show co + (8 * m + 5) = co + m * 8 + 5 from by omega] at x5
                have x6 := hcc (8 * m + 6) _ (by rw [flat8_get cs m 6 (by omega), hck]; rfl)
                rw [show co + (8 * m + 6) = co + m * 8 + 6 from by omega] at x6
                have x7 := hcc (8 * m + 7) _ (by rw [flat8_get cs m 7 (by omega), hck]; rfl)
                rw [show co + (8 * m + 7) = co + m * 8 + 7 from by omega] at x7
                rw [hdm] at hT
                generalize cs[m] = x at *
                obtain ⟨⟨kd, cl, gy, mk, ow, rf, sz⟩, fv, fl⟩ := x
                dsimp only at *
                have hmay := fun w => ref01_may ⟨kd, cl, gy, mk, ow, rf, sz⟩ hok.1 w
                have hwrd := fun w => ref01_word ⟨kd, cl, gy, mk, ow, rf, sz⟩ hok.1 w
                obtain ⟨hu8, hfu, hfr⟩ := hok
                dsimp only at hfu hfr hu8
                obtain ⟨u1, u2, u3, u4, u5⟩ := hu8
                dsimp only at u1 u2 u3 u4 u5
                obtain ⟨fao, fcap, hfv, hfc1, hfc2⟩ := hfr.shape
                subst hfv
                have HS := Lib.hid hS; have HRS := Lib.hid hrs; have HT := Lib.hid hT; have HCK := Lib.hid hck; have HMEM := Lib.hid hmem; have HMAY := Lib.hid hmay; have HWRD := Lib.hid hwrd; have HFR := Lib.hid hfr; have HFU := Lib.hid hfu
                clear hS hrs hT hdm hck hmem hdr hmay hwrd hfr hfu hcr hcc
                go_wp2_with fail
                obtain ⟨ze, hze⟩ : ∃ y, y = wr.heap.size := ⟨_, rfl⟩
                simp only [← hze]
                generalize hwa : World.alloc wr _ = wa
                have bze : wa.heap[ze]? = some (.cells #[.int .u8 kd, .int .u8 cl, .bool gy, .bool mk, .int .u8 ow, .int .u8 rf, .int .u8 sz, .slice fao fl.length fcap] 153 (0, 0)) := by rw [← hwa]; exact alloc_new _ _ _ hze
                have Ka : Keep [] wr wa := by rw [← hwa]; exact (by repeat (first | (with_reducible exact Keep.refl _ _) | (with_reducible refine Keep.drew ?_) | (with_reducible refine Keep.drewN ?_ _) | (with_reducible refine Keep.alloc ?_ _) | (with_reducible refine Keep.setCell ?_ (by first | (simp; done) | (simp; omega) | (left; dsimp only; omega)) _)))
                have lgw := lt_of_block HS.out.stg.row
                refine (HMAY.out wa).mono ?_
                rintro e wb ⟨rfl, Kb⟩
                have Kab := Ka.trans Kb
                have HSB := Lib.hid (HS.out.keep Kab); have HRSB := Lib.hid (HRS.out.keep Kab (fun _ _ => by simp)); have HFRB := Lib.hid (HFR.out.keep Kab (fun _ _ => by simp)); have hbze := Kb.get bze (by simp)
                have HBZE := Lib.hid hbze
                have hzg : ze ≠ gw := by omega
                have ce := cell_at hbze; have le := lt_of_block hbze
                have c2 := cell_at HSB.out.stg.non; have l2 := lt_of_block HSB.out.stg.non; have c1 := cell_at HSB.out.stg.res; have f1 := frozen_at HSB.out.stg.res; have l1 := lt_of_block HSB.out.stg.res
                have hT2 : Tot = if (Hd.mk kd cl gy mk ow rf sz).may = true ∧ sz ≤ wn - 1 then putS all (sp.drop (p + 1) ++ rest) (cs.drop (m + 1)) (clW all ⟨⟨kd, cl, gy, mk, ow, rf, sz⟩, .slice fao fl.length fcap, fl⟩ ((Lay.mk 1 2 b).start q + (p : Int) * wn) W) else none := HT.out
                have HT2 := Lib.hid hT2
                have hs64 : IntKind.i64.wrap sz = sz := by rw [IntKind.wrap_i64]; omega
                generalize hmay : (Hd.mk kd cl gy mk ow rf sz).may = may at *
                clear hwa bze Ka lgw Kb Kab hbze hT2 HT HS HRS HFR x0 x1 x2 x3 x4 x5 x6 x7 cz lz hze hmay HMAY
                by_cases hgood : may = true ∧ sz ≤ wn - 1
                · obtain ⟨hmy, hsz⟩ := hgood
                  subst hmy
                  have gs1 : decide (wn - 1 < sz) = false := by simp; omega
                  have gs2 : ¬ wn - 1 < sz := by omega
                  have hT3 := HT2.out
                  rw [if_pos ⟨rfl, hsz⟩] at hT3
                  unfold clW at hT3
                  dsimp only at hT3
                  have hst : (Lay.mk 1 2 b).start q = 6 + b + 32 * q := by unfold Lay.start spot; dsimp only; rw [if_pos (by omega)]; omega
                  have hstc := fun w => ref06_start (Lay.mk 1 2 b) HLF.out q w
                  unfold Lay.val at hstc
                  dsimp only at hstc
                  obtain ⟨A, hA⟩ : ∃ A : Nat, (Lay.mk 1 2 b).start q + (p : Int) * wn = (A : Int) := ⟨((Lay.mk 1 2 b).start q + (p : Int) * wn).toNat, by omega⟩
                  rw [hA] at hT3
                  obtain ⟨gs, os, rfl, hgl, hgc⟩ := HRSB.out.some (by rw [intsV_len, HSL.out]; omega)
                  have hgq := hgc p _ (by rw [intsV_get, e2]; rfl)
                  have hgw := HSF.out gs rfl
                  generalize (Lay.mk 1 2 b).start q = st at *
                  generalize (p : Int) * wn = si at *
                  generalize (Hd.mk kd cl gy mk ow rf sz).word = wd at *
                  have D0 : Hid (wb.cell? ⟨z8, 0, none⟩ = some (.int .i64 1)) := by rw [Hid, cell_at HSB.out.stg.lay]; rfl
                  have D1 : Hid (wb.cell? ⟨z8, 1, none⟩ = some (.int .i64 2)) := by rw [Hid, cell_at HSB.out.stg.lay]; rfl
                  have D2 : Hid (wb.cell? ⟨z8, 2, none⟩ = some (.int .i64 b)) := by rw [Hid, cell_at HSB.out.stg.lay]; rfl
                  have G0 : Hid (wb.cell? ⟨gs, os + p, none⟩ = some (.int .i64 si)) := hgq
                  have E0 : Hid (wb.cell? ⟨ze, 0, none⟩ = some (.int .u8 kd)) := by rw [Hid, cell_at HBZE.out]; rfl
                  have E1 : Hid (wb.cell? ⟨ze, 1, none⟩ = some (.int .u8 cl)) := by rw [Hid, cell_at HBZE.out]; rfl
                  have E2 : Hid (wb.cell? ⟨ze, 2, none⟩ = some (.bool gy)) := by rw [Hid, cell_at HBZE.out]; rfl
                  have E3 : Hid (wb.cell? ⟨ze, 3, none⟩ = some (.bool mk)) := by rw [Hid, cell_at HBZE.out]; rfl
                  have E4 : Hid (wb.cell? ⟨ze, 4, none⟩ = some (.int .u8 ow)) := by rw [Hid, cell_at HBZE.out]; rfl
                  have E5 : Hid (wb.cell? ⟨ze, 5, none⟩ = some (.int .u8 rf)) := by rw [Hid, cell_at HBZE.out]; rfl
                  have E6 : Hid (wb.cell? ⟨ze, 6, none⟩ = some (.int .u8 sz)) := by rw [Hid, cell_at HBZE.out]; rfl
                  have hord := HSB.out.stg.ord
                  have hlw := HSB.out.len
                  have w1' : IntKind.i64.wrap (st + si) = (A : Int) := by rw [IntKind.wrap_i64]; omega
                  have jA : (A : Int) < 6 + 33 * b := by omega
                  have jA0 : (0 : Int) ≤ A := by omega
                  have jAn : A < 6 + 33 * b := by omega
                  have hzz : z8 ≠ gw ∧ gs ≠ gw := by omega
                  have HSTC := Lib.hid hstc; have HT3 := Lib.hid hT3; have HHA := Lib.hid (And.intro hA hst)
                  clear hstc hT3 hgc hgq hA hst c1 c2 f1 l1 l2 HT2
                  go_wp2_with fail
                  first
                  | (go_region_held3 (fun w' => w'.cell? ⟨z8, 0, none⟩ = some (.int .i64 1) ∧ w'.cell? ⟨z8, 1, none⟩ = some (.int .i64 2) ∧ w'.cell? ⟨z8, 2, none⟩ = some (.int .i64 b) ∧ w'.cell? ⟨gs, os + p, none⟩ = some (.int .i64 si) ∧ w'.cell? ⟨ze, 0, none⟩ = some (.int .u8 kd) ∧ w'.cell? ⟨ze, 1, none⟩ = some (.int .u8 cl) ∧ w'.cell? ⟨ze, 2, none⟩ = some (.bool gy) ∧ w'.cell? ⟨ze, 3, none⟩ = some (.bool mk) ∧ w'.cell? ⟨ze, 4, none⟩ = some (.int .u8 ow) ∧ w'.cell? ⟨ze, 5, none⟩ = some (.int .u8 rf) ∧ w'.cell? ⟨ze, 6, none⟩ = some (.int .u8 sz))
                      (first
                        | (refine ⟨Keep.cell (S := []) (w := wb) ?_ D0.out (by simp), Keep.cell (S := []) (w := wb) ?_ D1.out (by simp), Keep.cell (S := []) (w := wb) ?_ D2.out (by simp), Keep.cell (S := []) (w := wb) ?_ G0.out (by simp), Keep.cell (S := []) (w := wb) ?_ E0.out (by simp), Keep.cell (S := []) (w := wb) ?_ E1.out (by simp), Keep.cell (S := []) (w := wb) ?_ E2.out (by simp), Keep.cell (S := []) (w := wb) ?_ E3.out (by simp), Keep.cell (S := []) (w := wb) ?_ E4.out (by simp), Keep.cell (S := []) (w := wb) ?_ E5.out (by simp), Keep.cell (S := []) (w := wb) ?_ E6.out (by simp)⟩; all_goals (((repeat (first | (with_reducible exact Keep.refl _ _) | (with_reducible refine Keep.drew ?_) | (with_reducible refine Keep.drewN ?_ _) | (with_reducible refine Keep.alloc ?_ _) | ((with_reducible refine Keep.setCell ?_ ?_ _); rotate_left; focus (first | (simp; done) | (simp; omega) | (left; dsimp only; omega))))); done)))
                        | (refine ⟨Keep.cell (S := []) (w := wb) ?_ D0.out (by simp), Keep.cell (S := []) (w := wb) ?_ D1.out (by simp), Keep.cell (S := []) (w := wb) ?_ D2.out (by simp), Keep.cell (S := []) (w := wb) ?_ G0.out (by simp), Keep.cell (S := []) (w := wb) ?_ E0.out (by simp), Keep.cell (S := []) (w := wb) ?_ E1.out (by simp), Keep.cell (S := []) (w := wb) ?_ E2.out (by simp), Keep.cell (S := []) (w := wb) ?_ E3.out (by simp), Keep.cell (S := []) (w := wb) ?_ E4.out (by simp), Keep.cell (S := []) (w := wb) ?_ E5.out (by simp), Keep.cell (S := []) (w := wb) ?_ E6.out (by simp)⟩; all_goals (((repeat (first | (with_reducible exact HK5.out) | (with_reducible refine Keep.drew ?_) | (with_reducible refine Keep.drewN ?_ _) | (with_reducible refine Keep.alloc ?_ _) | ((with_reducible refine Keep.setCell ?_ ?_ _); rotate_left; focus (first | (simp; done) | (simp; omega) | (left; dsimp only; omega))))); done)))
                        | (refine ⟨Keep.cell (S := []) (w := wb) ?_ D0.out (by simp), Keep.cell (S := []) (w := wb) ?_ D1.out (by simp), Keep.cell (S := []) (w := wb) ?_ D2.out (by simp), Keep.cell (S := []) (w := wb) ?_ G0.out (by simp), Keep.cell (S := []) (w := wb) ?_ E0.out (by simp), Keep.cell (S := []) (w := wb) ?_ E1.out (by simp), Keep.cell (S := []) (w := wb) ?_ E2.out (by simp), Keep.cell (S := []) (w := wb) ?_ E3.out (by simp), Keep.cell (S := []) (w := wb) ?_ E4.out (by simp), Keep.cell (S := []) (w := wb) ?_ E5.out (by simp), Keep.cell (S := []) (w := wb) ?_ E6.out (by simp)⟩; all_goals (((repeat (first | (with_reducible exact HK6.out) | (with_reducible refine Keep.drew ?_) | (with_reducible refine Keep.drewN ?_ _) | (with_reducible refine Keep.alloc ?_ _) | ((with_reducible refine Keep.setCell ?_ ?_ _); rotate_left; focus (first | (simp; done) | (simp; omega) | (left; dsimp only; omega))))); done)))
                        | (refine ⟨Keep.cell (S := [gw]) (w := wb) ?_ D0.out (by simp; omega), Keep.cell (S := [gw]) (w := wb) ?_ D1.out (by simp; omega), Keep.cell (S := [gw]) (w := wb) ?_ D2.out (by simp; omega), Keep.cell (S := [gw]) (w := wb) ?_ G0.out (by simp; omega), Keep.cell (S := [gw]) (w := wb) ?_ E0.out (by simp; omega), Keep.cell (S := [gw]) (w := wb) ?_ E1.out (by simp; omega), Keep.cell (S := [gw]) (w := wb) ?_ E2.out (by simp; omega), Keep.cell (S := [gw]) (w := wb) ?_ E3.out (by simp; omega), Keep.cell (S := [gw]) (w := wb) ?_ E4.out (by simp; omega), Keep.cell (S := [gw]) (w := wb) ?_ E5.out (by simp; omega), Keep.cell (S := [gw]) (w := wb) ?_ E6.out (by simp; omega)⟩; all_goals (((repeat (first | (with_reducible exact HK6.out.mono (by simp)) | (with_reducible refine Keep.drew ?_) | (with_reducible refine Keep.drewN ?_ _) | (with_reducible refine Keep.alloc ?_ _) | ((with_reducible refine Keep.setCell ?_ ?_ _); rotate_left; focus (first | (simp; done) | (simp; omega) | (left; dsimp only; omega))))); done))))
                      (first
                        | (go_at_call 108; refine (HSTC.out _).mono ?_; rintro e w5 ⟨rfl, K5⟩; have HK5 := Lib.hid (show Keep [] wb w5 from by refine Keep.trans (a := wb) ?_ K5; first | (((repeat (first | (with_reducible exact HK6.out) | (with_reducible refine Keep.drew ?_) | (with_reducible refine Keep.drewN ?_ _) | (with_reducible refine Keep.alloc ?_ _) | ((with_reducible refine Keep.setCell ?_ ?_ _); rotate_left; focus (first | (simp; done) | (simp; omega) | (left; dsimp only; omega))))); done)) | (((repeat (first | (with_reducible exact Keep.refl _ _) | (with_reducible refine Keep.drew ?_) | (with_reducible refine Keep.drewN ?_ _) | (with_reducible refine Keep.alloc ?_ _) | ((with_reducible refine Keep.setCell ?_ ?_ _); rotate_left; focus (first | (simp; done) | (simp; omega) | (left; dsimp only; omega))))); done))); have HRW := Lib.hid (HK5.out.get HSB.out.stg.row (by simp)); have hcw := row_cell HRW.out (i := A) (by omega); have hfw := frozen_at HRW.out; have hlw5 := lt_of_block HRW.out; clear K5)
                        | (go_at_call 80; refine (HWRD.out _).mono ?_; rintro e w6 ⟨rfl, K6⟩; have HK6 := Lib.hid (show Keep [] wb w6 from by refine Keep.trans (a := wb) ?_ K6; first | (((repeat (first | (with_reducible exact HK5.out) | (with_reducible refine Keep.drew ?_) | (with_reducible refine Keep.drewN ?_ _) | (with_reducible refine Keep.alloc ?_ _) | ((with_reducible refine Keep.setCell ?_ ?_ _); rotate_left; focus (first | (simp; done) | (simp; omega) | (left; dsimp only; omega))))); done)) | (((repeat (first | (with_reducible exact Keep.refl _ _) | (with_reducible refine Keep.drew ?_) | (with_reducible refine Keep.drewN ?_ _) | (with_reducible refine Keep.alloc ?_ _) | ((with_reducible refine Keep.setCell ?_ ?_ _); rotate_left; focus (first | (simp; done) | (simp; omega) | (left; dsimp only; omega))))); done))); have HRW := Lib.hid (HK6.out.get HSB.out.stg.row (by simp)); have hcw := row_cell HRW.out (i := A) (by omega); have hfw := frozen_at HRW.out; have hlw5 := lt_of_block HRW.out; clear K6)))
                  | fail
                  all_goals (
                    generalize hw9 : World.setCell w6 _ _ = w9
                    have b9 : w9.heap[gw]? = some (.cells (cellsOf .u64 (W.set A wd)) 27 (0, 0)) := by rw [← hw9, ← cellsOf_set]; exact put_at HRW.out A _
                    have K9 : Keep [gw] wb w9 := by rw [← hw9]; ((repeat (first | (with_reducible exact HK6.out.mono (by simp)) | (with_reducible refine Keep.drew ?_) | (with_reducible refine Keep.drewN ?_ _) | (with_reducible refine Keep.alloc ?_ _) | ((with_reducible refine Keep.setCell ?_ ?_ _); rotate_left; focus (first | (simp; done) | (simp; omega) | (left; dsimp only; omega))))); done)
                    have hpz : putz W (A : Int) wd = W.set A wd := putz_nat (by omega) _
                    have hs9 := HSB.out.put K9 b9 (by simp)
                    have hbz9 := K9.get HBZE.out (by simp; omega)
                    have HS9 := Lib.hid hs9; have HBZ9 := Lib.hid hbz9; have HRS9 := Lib.hid (HRSB.out.keep K9 (fun g hg => by cases hg; simp; omega))
                    have hT4 := HT3.out
                    rw [hpz] at hT4
                    have HT4 := Lib.hid hT4
                    clear hw9 b9 K9 hs9 hbz9 hcw hfw hlw5 ce le hT4 hpz
                    have cz := cell_at HBZ9.out; have lz := lt_of_block HBZ9.out
                    obtain ⟨M, hM⟩ : ∃ M, M = min fl.length sz.toNat := ⟨_, rfl⟩
                    have HM := Lib.hid hM
                    have hM1 : M ≤ fl.length ∧ (M : Int) ≤ sz ∧ (M = fl.length ∨ (M < fl.length ∧ (M : Int) = sz)) := by omega
                    clear hM
                    go_wp2_with fail
                    go_loopg [22] M (fun j i wq => ∃ f : Nat, f + j = M ∧ i = .int .i64 f ∧ Stg2 w wq z z8 gw b (.slice (some ⟨a, o, none⟩) b capb) (.slice (some ⟨ca, co, none⟩) cs.length capc) r0 r1 all za (.slice aav all.length acap) (fldW all fl A f (W.set A wd)) ∧ Rd wq (.slice (some ⟨gs, os, none⟩) C caps) C (intsV sc) ∧ wq.heap[ze]? = some (.cells #[.int .u8 kd, .int .u8 cl, .bool gy, .bool mk, .int .u8 ow, .int .u8 rf, .int .u8 sz, .slice fao fl.length fcap] 153 (0, 0)))
                    case atStart => exact ⟨0, by omega, rfl, HS9.out, HRS9.out, HBZ9.out⟩
                    case round =>
                      clear HS9 HRS9 HBZ9 cz lz HK6 HRW
                      obtain ⟨f, hfj, rfl, hS, hrs, hbz⟩ := hrel
                      have cz := cell_at hbz; have lz := lt_of_block hbz
                      by_cases hfM : f < M
                      · have g5 : decide ((f : Int) < (fl.length : Int)) = true := by simp; omega
                        have g6 : decide ((f : Int) < sz) = true := by simp; omega
                        have f1 : (f : Int) < fl.length := by omega
                        have f0 : (0 : Int) ≤ (f : Int) := by omega
                        have f2 : (f : Int) < sz := by omega
                        have hrw := (HH.out.ok _ HMEM.out).2.2
                        have hrq := ((HH.out.keep hS.stg.all).ok _ HMEM.out).2.2
                        dsimp only at hrw hrq
                        obtain ⟨fa, fo, hfe, hfl, -⟩ := hrw.some (by rw [u8s_len]; omega)
                        subst hfe
                        obtain ⟨fa', fo', hfe, -, hfc⟩ := hrq.some (by rw [u8s_len]; omega)
                        cases hfe
                        have hfk : fl[f]? = some (fl.getD f 0) := by rw [List.getD_eq_getElem?_getD, List.getElem?_eq_getElem (by omega)]; rfl
                        have hfq := hfc f _ (by rw [u8s_get, hfk]; rfl)
                        have hfb := HFU.out _ (List.mem_of_getElem? hfk)
                        have hgq := hrs.at p _ (by rw [intsV_get, e2]; rfl)
                        have hsu := fldW_succ all fl A f (W.set A wd)
                        have hln := fldW_len all fl A f (W.set A wd)
                        have hat := fun (w' : World) (K : Keep [] wr w') => law21_at_fn all HALL.out hall100 (fl.getD f 0) hfb za _ w' (K.get hS.abox (by simp)) (hS.aread.keep K (fun _ _ => by simp))
                        have hF := Try.call105
                        generalize fl.getD f 0 = y at *
                        generalize refS all y = ry at *
                        generalize fldW all fl A f (W.set A wd) = V at *
                        rw [List.length_set] at hln
                        have w2' : IntKind.i64.wrap ((A : Int) + 1) = A + 1 := by rw [IntKind.wrap_i64]; omega
                        have w3' : IntKind.i64.wrap ((A : Int) + 1 + f) = A + 1 + f := by rw [IntKind.wrap_i64]; omega
                        have jB : (A : Int) + 1 + f < 6 + 33 * b := by have h := HHA.out; omega
                        have jB0 : (0 : Int) ≤ (A : Int) + 1 + f := by omega
                        have jBn : ((A : Int) + 1 + f).toNat = A + 1 + f := by omega
                        have jBl : A + 1 + f < V.length := by omega
                        have fzz : fa ≠ gw := by omega
                        have D0 : Hid (wr.cell? ⟨z8, 0, none⟩ = some (.int .i64 1)) := by rw [Hid, cell_at hS.stg.lay]; rfl
                        have D1 : Hid (wr.cell? ⟨z8, 1, none⟩ = some (.int .i64 2)) := by rw [Hid, cell_at hS.stg.lay]; rfl
                        have D2 : Hid (wr.cell? ⟨z8, 2, none⟩ = some (.int .i64 b)) := by rw [Hid, cell_at hS.stg.lay]; rfl
                        have G0 : Hid (wr.cell? ⟨gs, os + p, none⟩ = some (.int .i64 si)) := hgq
                        have G1 : Hid (wr.cell? ⟨fa, fo + f, none⟩ = some (.int .u8 y)) := hfq
                        have E7 : Hid (wr.cell? ⟨ze, 7, none⟩ = some (.slice (some ⟨fa, fo, none⟩) fl.length fcap)) := by rw [Hid, cell_at hbz]; rfl
                        have HSQ := Lib.hid hS; have HRSQ := Lib.hid hrs; have HBZQ := Lib.hid hbz; have HSU := Lib.hid hsu; have HAT := Lib.hid hat
                        have hge : decide (f < fl.length) = true := by simp; omega
                        clear hS hrs hbz hsu hat hrw hrq hfc hfk hfq hgq
                        go_wp2_with fail
                        first
                        | (go_region_held3 (fun w' => w'.cell? ⟨z8, 0, none⟩ = some (.int .i64 1) ∧ w'.cell? ⟨z8, 1, none⟩ = some (.int .i64 2) ∧ w'.cell? ⟨z8, 2, none⟩ = some (.int .i64 b) ∧ w'.cell? ⟨gs, os + p, none⟩ = some (.int .i64 si) ∧ w'.cell? ⟨fa, fo + f, none⟩ = some (.int .u8 y) ∧ w'.cell? ⟨ze, 7, none⟩ = some (.slice (some ⟨fa, fo, none⟩) fl.length fcap))
                            (first
                              | (refine ⟨Keep.cell (S := []) (w := wr) ?_ D0.out (by simp), Keep.cell (S := []) (w := wr) ?_ D1.out (by simp), Keep.cell (S := []) (w := wr) ?_ D2.out (by simp), Keep.cell (S := []) (w := wr) ?_ G0.out (by simp), Keep.cell (S := []) (w := wr) ?_ G1.out (by simp), Keep.cell (S := []) (w := wr) ?_ E7.out (by simp)⟩; all_goals (((repeat (first | (with_reducible exact Keep.refl _ _) | (with_reducible refine Keep.drew ?_) | (with_reducible refine Keep.drewN ?_ _) | (with_reducible refine Keep.alloc ?_ _) | ((with_reducible refine Keep.setCell ?_ ?_ _); rotate_left; focus (first | (simp; done) | (simp; omega) | (left; dsimp only; omega))))); done)))
                              | (refine ⟨Keep.cell (S := []) (w := wr) ?_ D0.out (by simp), Keep.cell (S := []) (w := wr) ?_ D1.out (by simp), Keep.cell (S := []) (w := wr) ?_ D2.out (by simp), Keep.cell (S := []) (w := wr) ?_ G0.out (by simp), Keep.cell (S := []) (w := wr) ?_ G1.out (by simp), Keep.cell (S := []) (w := wr) ?_ E7.out (by simp)⟩; all_goals (((repeat (first | (with_reducible exact HK5.out) | (with_reducible refine Keep.drew ?_) | (with_reducible refine Keep.drewN ?_ _) | (with_reducible refine Keep.alloc ?_ _) | ((with_reducible refine Keep.setCell ?_ ?_ _); rotate_left; focus (first | (simp; done) | (simp; omega) | (left; dsimp only; omega))))); done)))
                              | (refine ⟨Keep.cell (S := []) (w := wr) ?_ D0.out (by simp), Keep.cell (S := []) (w := wr) ?_ D1.out (by simp), Keep.cell (S := []) (w := wr) ?_ D2.out (by simp), Keep.cell (S := []) (w := wr) ?_ G0.out (by simp), Keep.cell (S := []) (w := wr) ?_ G1.out (by simp), Keep.cell (S := []) (w := wr) ?_ E7.out (by simp)⟩; all_goals (((repeat (first | (with_reducible exact HK6.out) | (with_reducible refine Keep.drew ?_) | (with_reducible refine Keep.drewN ?_ _) | (with_reducible refine Keep.alloc ?_ _) | ((with_reducible refine Keep.setCell ?_ ?_ _); rotate_left; focus (first | (simp; done) | (simp; omega) | (left; dsimp only; omega))))); done)))
                              | (refine ⟨Keep.cell (S := [gw]) (w := wr) ?_ D0.out (by simp; omega), Keep.cell (S := [gw]) (w := wr) ?_ D1.out (by simp; omega), Keep.cell (S := [gw]) (w := wr) ?_ D2.out (by simp; omega), Keep.cell (S := [gw]) (w := wr) ?_ G0.out (by simp; omega), Keep.cell (S := [gw]) (w := wr) ?_ G1.out (by simp; omega), Keep.cell (S := [gw]) (w := wr) ?_ E7.out (by simp; omega)⟩; all_goals (((repeat (first | (with_reducible exact HK6.out.mono (by simp)) | (with_reducible refine Keep.drew ?_) | (with_reducible refine Keep.drewN ?_ _) | (with_reducible refine Keep.alloc ?_ _) | ((with_reducible refine Keep.setCell ?_ ?_ _); rotate_left; focus (first | (simp; done) | (simp; omega) | (left; dsimp only; omega))))); done))))
                            (first
                              | (go_at_call 108; refine (HSTC.out _).mono ?_; rintro e w5 ⟨rfl, K5⟩; have HK5 := Lib.hid (show Keep [] wr w5 from by refine Keep.trans (a := wr) ?_ K5; first | (((repeat (first | (with_reducible exact HK6.out) | (with_reducible refine Keep.drew ?_) | (with_reducible refine Keep.drewN ?_ _) | (with_reducible refine Keep.alloc ?_ _) | ((with_reducible refine Keep.setCell ?_ ?_ _); rotate_left; focus (first | (simp; done) | (simp; omega) | (left; dsimp only; omega))))); done)) | (((repeat (first | (with_reducible exact Keep.refl _ _) | (with_reducible refine Keep.drew ?_) | (with_reducible refine Keep.drewN ?_ _) | (with_reducible refine Keep.alloc ?_ _) | ((with_reducible refine Keep.setCell ?_ ?_ _); rotate_left; focus (first | (simp; done) | (simp; omega) | (left; dsimp only; omega))))); done))); have HRW := Lib.hid (HK5.out.get HSQ.out.stg.row (by simp)); have hcw := row_cell HRW.out (i := A + 1 + f) jBl; have hfw := frozen_at HRW.out; have hlw5 := lt_of_block HRW.out; clear K5)
                              | (go_at_call 105; refine (HAT.out _ (by first | (((repeat (first | (with_reducible exact HK5.out) | (with_reducible refine Keep.drew ?_) | (with_reducible refine Keep.drewN ?_ _) | (with_reducible refine Keep.alloc ?_ _) | ((with_reducible refine Keep.setCell ?_ ?_ _); rotate_left; focus (first | (simp; done) | (simp; omega) | (left; dsimp only; omega))))); done)) | (((repeat (first | (with_reducible exact Keep.refl _ _) | (with_reducible refine Keep.drew ?_) | (with_reducible refine Keep.drewN ?_ _) | (with_reducible refine Keep.alloc ?_ _) | ((with_reducible refine Keep.setCell ?_ ?_ _); rotate_left; focus (first | (simp; done) | (simp; omega) | (left; dsimp only; omega))))); done)))).mono ?_; rintro e w6 ⟨rfl, hw6⟩; have HK6 := Lib.hid (show Keep [] wr w6 from by rw [hw6]; first | (((repeat (first | (with_reducible exact HK5.out) | (with_reducible refine Keep.drew ?_) | (with_reducible refine Keep.drewN ?_ _) | (with_reducible refine Keep.alloc ?_ _) | ((with_reducible refine Keep.setCell ?_ ?_ _); rotate_left; focus (first | (simp; done) | (simp; omega) | (left; dsimp only; omega))))); done)) | (((repeat (first | (with_reducible exact Keep.refl _ _) | (with_reducible refine Keep.drew ?_) | (with_reducible refine Keep.drewN ?_ _) | (with_reducible refine Keep.alloc ?_ _) | ((with_reducible refine Keep.setCell ?_ ?_ _); rotate_left; focus (first | (simp; done) | (simp; omega) | (left; dsimp only; omega))))); done))); have HRW := Lib.hid (HK6.out.get HSQ.out.stg.row (by simp)); have hcw := row_cell HRW.out (i := A + 1 + f) jBl; have hfw := frozen_at HRW.out; have hlw5 := lt_of_block HRW.out; clear hw6)))
                        | fail
                        all_goals (
                          generalize hw9 : World.setCell w6 _ _ = w9
                          have b9 : w9.heap[gw]? = some (.cells (cellsOf .u64 (V.set (A + 1 + f) ry)) 27 (0, 0)) := by rw [← hw9, ← cellsOf_set]; exact put_at HRW.out (A + 1 + f) _
                          have K9 : Keep [gw] wr w9 := by rw [← hw9]; ((repeat (first | (with_reducible exact HK6.out.mono (by simp)) | (with_reducible refine Keep.drew ?_) | (with_reducible refine Keep.drewN ?_ _) | (with_reducible refine Keep.alloc ?_ _) | ((with_reducible refine Keep.setCell ?_ ?_ _); rotate_left; focus (first | (simp; done) | (simp; omega) | (left; dsimp only; omega))))); done)
                          have hpz : putz V ((A : Int) + 1 + f) ry = V.set (A + 1 + f) ry := by rw [show (A : Int) + 1 + f = ((A + 1 + f : Nat) : Int) from by omega]; exact putz_nat jBl _
                          have hs9 := HSQ.out.put K9 b9 (by simp)
                          rw [← hpz, ← HSU.out] at hs9
                          have hbz9 := K9.get HBZQ.out (by simp; omega)
                          have HS9 := Lib.hid hs9; have HBZ9 := Lib.hid hbz9; have HRS9 := Lib.hid (HRSQ.out.keep K9 (fun g hg => by cases hg; simp; omega))
                          clear hw9 b9 K9 hs9 hbz9 hcw hfw hlw5 hpz cz lz
                          go_wp2_with fail
                          go_roundg (M - (f + 1))
                          case measure => omega
                          case rel => exact ⟨f + 1, by omega, by go_num, HS9.out, HRS9.out, HBZ9.out⟩)
                      · obtain rfl : f = M := by omega
                        have HSQ := Lib.hid hS; have HRSQ := Lib.hid hrs
                        clear hS hrs
                        have hT5 : Hid (Tot = putS all (sp.drop (p + 1) ++ rest) (cs.drop (m + 1)) (fldW all fl A f (W.set A wd))) := by have h := HT4.out; rw [← HM.out] at h; exact h
                        rcases hM1.2.2 with hfe | ⟨hfe, hfs⟩
                        · have g5 : ¬ (f : Int) < (fl.length : Int) := by omega
                          have g6 : decide ((f : Int) < (fl.length : Int)) = false := by simp; omega
                          go_wp2_with fail
                          go_roundg (C - (p + 1))
                          case measure => omega
                          case rel => exact ⟨p + 1, m + 1, _, by omega, by go_num, by go_num, by omega, HSQ.out, HRSQ.out, hT5.out⟩
                        · have g5 : (f : Int) < (fl.length : Int) := by omega
                          have g7 : ¬ (f : Int) < sz := by omega
                          have g8 : decide ((f : Int) < sz) = false := by simp; omega
                          go_wp2_with fail
                          go_roundg (C - (p + 1))
                          case measure => omega
                          case rel => exact ⟨p + 1, m + 1, _, by omega, by go_num, by go_num, by omega, HSQ.out, HRSQ.out, hT5.out⟩)
                · have htn : Hid (Tot = none) := by have := HT2.out; rwa [if_neg hgood] at this
                  have hR2 := hR
                  rw [htn.out] at hR2
                  unfold WordsR Lay.val at hR2
                  dsimp only at hR2
                  clear hR HT2
                  have d1 : ∀ i, wb.drew.cell? ⟨z + 1, i, none⟩ = #[.int .i64 0, .int .i64 0, .int .i64 0][i]? := c1
                  have d2 : ∀ i, wb.drew.cell? ⟨z + 1 + 1, i, none⟩ = #[.int .i64 0, .int .i64 0, .int .i64 0][i]? := c2
                  have e1' : ∀ i, wb.drew.frozen? ⟨z + 1, i, none⟩ = false := f1
                  cases may with
                  | false =>
                    go_wp2_with fail
                    go_region_o
                    all_goals go_wp2_with fail
                    all_goals (
                      generalize hw9 : World.drew _ = w9
                      have b9 : w9.heap[z + 1]? = some (.cells #[.int .i64 0, .int .i64 0, .int .i64 0] 88 (0, 0)) := by rw [← hw9]; exact put_at (put_at (put_at HSB.out.stg.res 0 _) 1 _) 2 _
                      have K9 : Keep [] w w9 := by have hzz := HSB.out.stg.ord; rw [← hw9]; ((repeat (first | (with_reducible exact HSB.out.stg.all) | (with_reducible refine Keep.drew ?_) | (with_reducible refine Keep.drewN ?_ _) | (with_reducible refine Keep.alloc ?_ _) | ((with_reducible refine Keep.setCell ?_ ?_ _); rotate_left; focus (first | (simp; done) | (simp; omega) | (left; dsimp only; omega))))); done)
                      have c3 := cell_at b9
                      clear c1 c2 f1 l1 l2 d1 d2 e1' hw9 ce le
                      refine bodyPost_ret (v := .tuple #[.slice none 0 0, .agg #[.int .i64 0, .int .i64 0, .int .i64 0], .bool false]) ?_ rfl ?_
                      · simp [results, Try.results50, go_sem, c3]
                      exact hR2.out _ _ ⟨rfl, K9⟩)
                  | true =>
                    have gs : decide (wn - 1 < sz) = true := by simp; simp at hgood; omega
                    go_wp2_with fail
                    go_region_o
                    all_goals go_wp2_with fail
                    all_goals (
                      generalize hw9 : World.drew _ = w9
                      have b9 : w9.heap[z + 1]? = some (.cells #[.int .i64 0, .int .i64 0, .int .i64 0] 88 (0, 0)) := by rw [← hw9]; exact put_at (put_at (put_at HSB.out.stg.res 0 _) 1 _) 2 _
                      have K9 : Keep [] w w9 := by have hzz := HSB.out.stg.ord; rw [← hw9]; ((repeat (first | (with_reducible exact HSB.out.stg.all) | (with_reducible refine Keep.drew ?_) | (with_reducible refine Keep.drewN ?_ _) | (with_reducible refine Keep.alloc ?_ _) | ((with_reducible refine Keep.setCell ?_ ?_ _); rotate_left; focus (first | (simp; done) | (simp; omega) | (left; dsimp only; omega))))); done)
                      have c3 := cell_at b9
                      clear c1 c2 f1 l1 l2 d1 d2 e1' hw9 ce le
                      refine bodyPost_ret (v := .tuple #[.slice none 0 0, .agg #[.int .i64 0, .int .i64 0, .int .i64 0], .bool false]) ?_ rfl ?_
                      · simp [results, Try.results50, go_sem, c3]
                      exact hR2.out _ _ ⟨rfl, K9⟩)
              · have g1 : decide ((cs.length : Int) ≤ (m : Int)) = true := by simp; omega
                have g2 : (cs.length : Int) ≤ (m : Int) := by omega
                have hdm : cs.drop m = [] := List.drop_eq_nil_of_le (by omega)
                rw [hdm] at hT
                rw [putS_nil] at hT
                have HS := Lib.hid hS; have HRS := Lib.hid hrs; have HT := Lib.hid hT; have HDM := Lib.hid hdm
                clear hS hrs hT hdm e1 e2 hdr
                go_wp2_with fail
                go_roundg (C - (p + 1))
                case measure => omega
                case rel => exact ⟨p + 1, m, W, by omega, by go_num, rfl, hmc, HS.out, HRS.out, by rw [HDM.out, putS_nil]; exact HT.out⟩
            · obtain rfl : p = C := by omega
              have hdr : sp.drop p = [] := List.drop_eq_nil_of_le (by rw [HSPL.out]; exact Nat.le_refl _)
              rw [hdr, List.nil_append] at hT
              have HS := Lib.hid hS; have HT := Lib.hid hT
              clear hS hrs hT hdr
              go_wp2_with fail
              go_roundg (b - (q + 1))
              case measure => omega
              case rel => exact ⟨q + 1, m, W, by omega, by go_num, rfl, hmc, HS.out, by rw [HT.out, show b - (q + 1) = b - q - 1 from by omega, HREST.out]⟩
        · obtain rfl : q = b := by omega
          have hTs : Tot = some W := by rw [hT, Nat.sub_self]; unfold spotsS; simp [putS]
          have hR2 := hR
          rw [hTs] at hR2
          dsimp only at hR2
          rw [show (Lay.mk 1 2 q).global 0 = 4 from by unfold Lay.global spot; dsimp only; rw [if_pos (by omega)]; omega, show (Lay.mk 1 2 q).global 1 = 5 from by unfold Lay.global spot; dsimp only; rw [if_pos (by omega)]; omega] at hR2
          unfold WordsR Lay.val at hR2
          dsimp only at hR2
          have hr0b := HH.out.root0; have hr1b := HH.out.root1
          have HSQ := Lib.hid hS
          clear hR hT hTs hS
          have D0 : Hid (wr.cell? ⟨z8, 0, none⟩ = some (.int .i64 1)) := by rw [Hid, cell_at HSQ.out.stg.lay]; rfl
          have D1 : Hid (wr.cell? ⟨z8, 1, none⟩ = some (.int .i64 2)) := by rw [Hid, cell_at HSQ.out.stg.lay]; rfl
          have D2 : Hid (wr.cell? ⟨z8, 2, none⟩ = some (.int .i64 q)) := by rw [Hid, cell_at HSQ.out.stg.lay]; rfl
          have D3 : Hid (wr.cell? ⟨z, 2, none⟩ = some (.int .u8 r0)) := by rw [Hid, cell_at HSQ.out.stg.box]; rfl
          have hat := fun (w' : World) (K : Keep [] wr w') => law21_at_fn all HALL.out hall100 r0 hr0b za _ w' (K.get HSQ.out.abox (by simp)) (HSQ.out.aread.keep K (fun _ _ => by simp))
          have hgl := fun w => ref06_global (Lay.mk 1 2 q) HLF.out 0 w
          rw [show (Lay.mk 1 2 q).global 0 = 4 from by unfold Lay.global spot; dsimp only; rw [if_pos (by omega)]; omega] at hgl
          unfold Lay.val at hgl
          dsimp only at hgl
          have hlv := HSQ.out.len
          generalize refS all r0 = y0 at *
          have HAT := Lib.hid hat; have HGL := Lib.hid hgl
          have hord := HSQ.out.stg.ord
          have hzz : z8 ≠ gw ∧ z ≠ gw := by omega
          have jn : (4 : Int) < 6 + 33 * q := by omega
          clear hat hgl
          go_wp2_with fail
          first
          | (go_region_held3 (fun w' => w'.cell? ⟨z8, 0, none⟩ = some (.int .i64 1) ∧ w'.cell? ⟨z8, 1, none⟩ = some (.int .i64 2) ∧ w'.cell? ⟨z8, 2, none⟩ = some (.int .i64 q) ∧ w'.cell? ⟨z, 2, none⟩ = some (.int .u8 r0))
              (first
                | (refine ⟨Keep.cell (S := []) (w := wr) ?_ D0.out (by simp), Keep.cell (S := []) (w := wr) ?_ D1.out (by simp), Keep.cell (S := []) (w := wr) ?_ D2.out (by simp), Keep.cell (S := []) (w := wr) ?_ D3.out (by simp)⟩; all_goals (((repeat (first | (with_reducible exact Keep.refl _ _) | (with_reducible refine Keep.drew ?_) | (with_reducible refine Keep.drewN ?_ _) | (with_reducible refine Keep.alloc ?_ _) | ((with_reducible refine Keep.setCell ?_ ?_ _); rotate_left; focus (first | (simp; done) | (simp; omega) | (left; dsimp only; omega))))); done)))
                | (refine ⟨Keep.cell (S := []) (w := wr) ?_ D0.out (by simp), Keep.cell (S := []) (w := wr) ?_ D1.out (by simp), Keep.cell (S := []) (w := wr) ?_ D2.out (by simp), Keep.cell (S := []) (w := wr) ?_ D3.out (by simp)⟩; all_goals (((repeat (first | (with_reducible exact HK5.out) | (with_reducible refine Keep.drew ?_) | (with_reducible refine Keep.drewN ?_ _) | (with_reducible refine Keep.alloc ?_ _) | ((with_reducible refine Keep.setCell ?_ ?_ _); rotate_left; focus (first | (simp; done) | (simp; omega) | (left; dsimp only; omega))))); done)))
                | (refine ⟨Keep.cell (S := []) (w := wr) ?_ D0.out (by simp), Keep.cell (S := []) (w := wr) ?_ D1.out (by simp), Keep.cell (S := []) (w := wr) ?_ D2.out (by simp), Keep.cell (S := []) (w := wr) ?_ D3.out (by simp)⟩; all_goals (((repeat (first | (with_reducible exact HK6.out) | (with_reducible refine Keep.drew ?_) | (with_reducible refine Keep.drewN ?_ _) | (with_reducible refine Keep.alloc ?_ _) | ((with_reducible refine Keep.setCell ?_ ?_ _); rotate_left; focus (first | (simp; done) | (simp; omega) | (left; dsimp only; omega))))); done)))
                | (refine ⟨Keep.cell (S := [gw]) (w := wr) ?_ D0.out (by simp; omega), Keep.cell (S := [gw]) (w := wr) ?_ D1.out (by simp; omega), Keep.cell (S := [gw]) (w := wr) ?_ D2.out (by simp; omega), Keep.cell (S := [gw]) (w := wr) ?_ D3.out (by simp; omega)⟩; all_goals (((repeat (first | (with_reducible exact HK6.out.mono (by simp)) | (with_reducible refine Keep.drew ?_) | (with_reducible refine Keep.drewN ?_ _) | (with_reducible refine Keep.alloc ?_ _) | ((with_reducible refine Keep.setCell ?_ ?_ _); rotate_left; focus (first | (simp; done) | (simp; omega) | (left; dsimp only; omega))))); done))))
              (first
                | (go_at_call 109; refine (HGL.out _).mono ?_; rintro e w5 ⟨rfl, K5⟩; have HK5 := Lib.hid (show Keep [] wr w5 from by refine Keep.trans (a := wr) ?_ K5; first | (((repeat (first | (with_reducible exact HK6.out) | (with_reducible refine Keep.drew ?_) | (with_reducible refine Keep.drewN ?_ _) | (with_reducible refine Keep.alloc ?_ _) | ((with_reducible refine Keep.setCell ?_ ?_ _); rotate_left; focus (first | (simp; done) | (simp; omega) | (left; dsimp only; omega))))); done)) | (((repeat (first | (with_reducible exact Keep.refl _ _) | (with_reducible refine Keep.drew ?_) | (with_reducible refine Keep.drewN ?_ _) | (with_reducible refine Keep.alloc ?_ _) | ((with_reducible refine Keep.setCell ?_ ?_ _); rotate_left; focus (first | (simp; done) | (simp; omega) | (left; dsimp only; omega))))); done))); have HRW := Lib.hid (HK5.out.get HSQ.out.stg.row (by simp)); have hcw := row_cell HRW.out (i := 4) (by omega); have hfw := frozen_at HRW.out; have hlw5 := lt_of_block HRW.out; clear K5)
                | (go_at_call 105; refine (HAT.out _ (by first | (((repeat (first | (with_reducible exact HK5.out) | (with_reducible refine Keep.drew ?_) | (with_reducible refine Keep.drewN ?_ _) | (with_reducible refine Keep.alloc ?_ _) | ((with_reducible refine Keep.setCell ?_ ?_ _); rotate_left; focus (first | (simp; done) | (simp; omega) | (left; dsimp only; omega))))); done)) | (((repeat (first | (with_reducible exact Keep.refl _ _) | (with_reducible refine Keep.drew ?_) | (with_reducible refine Keep.drewN ?_ _) | (with_reducible refine Keep.alloc ?_ _) | ((with_reducible refine Keep.setCell ?_ ?_ _); rotate_left; focus (first | (simp; done) | (simp; omega) | (left; dsimp only; omega))))); done)))).mono ?_; rintro e w6 ⟨rfl, hw6⟩; have HK6 := Lib.hid (show Keep [] wr w6 from by rw [hw6]; first | (((repeat (first | (with_reducible exact HK5.out) | (with_reducible refine Keep.drew ?_) | (with_reducible refine Keep.drewN ?_ _) | (with_reducible refine Keep.alloc ?_ _) | ((with_reducible refine Keep.setCell ?_ ?_ _); rotate_left; focus (first | (simp; done) | (simp; omega) | (left; dsimp only; omega))))); done)) | (((repeat (first | (with_reducible exact Keep.refl _ _) | (with_reducible refine Keep.drew ?_) | (with_reducible refine Keep.drewN ?_ _) | (with_reducible refine Keep.alloc ?_ _) | ((with_reducible refine Keep.setCell ?_ ?_ _); rotate_left; focus (first | (simp; done) | (simp; omega) | (left; dsimp only; omega))))); done))); have HRW := Lib.hid (HK6.out.get HSQ.out.stg.row (by simp)); have hcw := row_cell HRW.out (i := 4) (by omega); have hfw := frozen_at HRW.out; have hlw5 := lt_of_block HRW.out; clear hw6)))
          | fail
          all_goals (
            generalize hw9 : World.setCell w6 _ _ = w9
            have b9 : w9.heap[gw]? = some (.cells (cellsOf .u64 (W.set 4 y0)) 27 (0, 0)) := by rw [← hw9, ← cellsOf_set]; exact put_at HRW.out 4 _
            have K9 : Keep [gw] wr w9 := by rw [← hw9]; ((repeat (first | (with_reducible exact HK6.out.mono (by simp)) | (with_reducible refine Keep.drew ?_) | (with_reducible refine Keep.drewN ?_ _) | (with_reducible refine Keep.alloc ?_ _) | ((with_reducible refine Keep.setCell ?_ ?_ _); rotate_left; focus (first | (simp; done) | (simp; omega) | (left; dsimp only; omega))))); done)
            have hpz0 : putz W 4 y0 = W.set 4 y0 := putz_nat (i := 4) (by omega) _
            have hs9 := HSQ.out.put K9 b9 (by simp)
            clear hw9 b9 K9 HRW HK6 HK5 HAT HGL D0 D1 D2 D3 HSQ
            have HSQ := Lib.hid hs9
            clear hs9
            have D0 : Hid (w9.cell? ⟨z8, 0, none⟩ = some (.int .i64 1)) := by rw [Hid, cell_at HSQ.out.stg.lay]; rfl
            have D1 : Hid (w9.cell? ⟨z8, 1, none⟩ = some (.int .i64 2)) := by rw [Hid, cell_at HSQ.out.stg.lay]; rfl
            have D2 : Hid (w9.cell? ⟨z8, 2, none⟩ = some (.int .i64 q)) := by rw [Hid, cell_at HSQ.out.stg.lay]; rfl
            have D3 : Hid (w9.cell? ⟨z, 3, none⟩ = some (.int .u8 r1)) := by rw [Hid, cell_at HSQ.out.stg.box]; rfl
            have hat := fun (w' : World) (K : Keep [] w9 w') => law21_at_fn all HALL.out hall100 r1 hr1b za _ w' (K.get HSQ.out.abox (by simp)) (HSQ.out.aread.keep K (fun _ _ => by simp))
            have hgl := fun w => ref06_global (Lay.mk 1 2 q) HLF.out 1 w
            rw [show (Lay.mk 1 2 q).global 1 = 5 from by unfold Lay.global spot; dsimp only; rw [if_pos (by omega)]; omega] at hgl
            unfold Lay.val at hgl
            dsimp only at hgl
            have hlv := HSQ.out.len
            generalize refS all r1 = y1 at *
            have HAT := Lib.hid hat; have HGL := Lib.hid hgl
            have hord := HSQ.out.stg.ord
            have hzz : z8 ≠ gw ∧ z ≠ gw := by omega
            have jn : (5 : Int) < 6 + 33 * q := by omega
            clear hat hgl
            go_wp2_with fail
            first
            | (go_region_held3 (fun w' => w'.cell? ⟨z8, 0, none⟩ = some (.int .i64 1) ∧ w'.cell? ⟨z8, 1, none⟩ = some (.int .i64 2) ∧ w'.cell? ⟨z8, 2, none⟩ = some (.int .i64 q) ∧ w'.cell? ⟨z, 3, none⟩ = some (.int .u8 r1))
                (first
                  | (refine ⟨Keep.cell (S := []) (w := w9) ?_ D0.out (by simp), Keep.cell (S := []) (w := w9) ?_ D1.out (by simp), Keep.cell (S := []) (w := w9) ?_ D2.out (by simp), Keep.cell (S := []) (w := w9) ?_ D3.out (by simp)⟩; all_goals (((repeat (first | (with_reducible exact Keep.refl _ _) | (with_reducible refine Keep.drew ?_) | (with_reducible refine Keep.drewN ?_ _) | (with_reducible refine Keep.alloc ?_ _) | ((with_reducible refine Keep.setCell ?_ ?_ _); rotate_left; focus (first | (simp; done) | (simp; omega) | (left; dsimp only; omega))))); done)))
                  | (refine ⟨Keep.cell (S := []) (w := w9) ?_ D0.out (by simp), Keep.cell (S := []) (w := w9) ?_ D1.out (by simp), Keep.cell (S := []) (w := w9) ?_ D2.out (by simp), Keep.cell (S := []) (w := w9) ?_ D3.out (by simp)⟩; all_goals (((repeat (first | (with_reducible exact HK5.out) | (with_reducible refine Keep.drew ?_) | (with_reducible refine Keep.drewN ?_ _) | (with_reducible refine Keep.alloc ?_ _) | ((with_reducible refine Keep.setCell ?_ ?_ _); rotate_left; focus (first | (simp; done) | (simp; omega) | (left; dsimp only; omega))))); done)))
                  | (refine ⟨Keep.cell (S := []) (w := w9) ?_ D0.out (by simp), Keep.cell (S := []) (w := w9) ?_ D1.out (by simp), Keep.cell (S := []) (w := w9) ?_ D2.out (by simp), Keep.cell (S := []) (w := w9) ?_ D3.out (by simp)⟩; all_goals (((repeat (first | (with_reducible exact HK6.out) | (with_reducible refine Keep.drew ?_) | (with_reducible refine Keep.drewN ?_ _) | (with_reducible refine Keep.alloc ?_ _) | ((with_reducible refine Keep.setCell ?_ ?_ _); rotate_left; focus (first | (simp; done) | (simp; omega) | (left; dsimp only; omega))))); done)))
                  | (refine ⟨Keep.cell (S := [gw]) (w := w9) ?_ D0.out (by simp; omega), Keep.cell (S := [gw]) (w := w9) ?_ D1.out (by simp; omega), Keep.cell (S := [gw]) (w := w9) ?_ D2.out (by simp; omega), Keep.cell (S := [gw]) (w := w9) ?_ D3.out (by simp; omega)⟩; all_goals (((repeat (first | (with_reducible exact HK6.out.mono (by simp)) | (with_reducible refine Keep.drew ?_) | (with_reducible refine Keep.drewN ?_ _) | (with_reducible refine Keep.alloc ?_ _) | ((with_reducible refine Keep.setCell ?_ ?_ _); rotate_left; focus (first | (simp; done) | (simp; omega) | (left; dsimp only; omega))))); done))))
                (first
                  | (go_at_call 109; refine (HGL.out _).mono ?_; rintro e w5 ⟨rfl, K5⟩; have HK5 := Lib.hid (show Keep [] w9 w5 from by refine Keep.trans (a := w9) ?_ K5; first | (((repeat (first | (with_reducible exact HK6.out) | (with_reducible refine Keep.drew ?_) | (with_reducible refine Keep.drewN ?_ _) | (with_reducible refine Keep.alloc ?_ _) | ((with_reducible refine Keep.setCell ?_ ?_ _); rotate_left; focus (first | (simp; done) | (simp; omega) | (left; dsimp only; omega))))); done)) | (((repeat (first | (with_reducible exact Keep.refl _ _) | (with_reducible refine Keep.drew ?_) | (with_reducible refine Keep.drewN ?_ _) | (with_reducible refine Keep.alloc ?_ _) | ((with_reducible refine Keep.setCell ?_ ?_ _); rotate_left; focus (first | (simp; done) | (simp; omega) | (left; dsimp only; omega))))); done))); have HRW := Lib.hid (HK5.out.get HSQ.out.stg.row (by simp)); have hcw := row_cell HRW.out (i := 5) (by omega); have hfw := frozen_at HRW.out; have hlw5 := lt_of_block HRW.out; clear K5)
                  | (go_at_call 105; refine (HAT.out _ (by first | (((repeat (first | (with_reducible exact HK5.out) | (with_reducible refine Keep.drew ?_) | (with_reducible refine Keep.drewN ?_ _) | (with_reducible refine Keep.alloc ?_ _) | ((with_reducible refine Keep.setCell ?_ ?_ _); rotate_left; focus (first | (simp; done) | (simp; omega) | (left; dsimp only; omega))))); done)) | (((repeat (first | (with_reducible exact Keep.refl _ _) | (with_reducible refine Keep.drew ?_) | (with_reducible refine Keep.drewN ?_ _) | (with_reducible refine Keep.alloc ?_ _) | ((with_reducible refine Keep.setCell ?_ ?_ _); rotate_left; focus (first | (simp; done) | (simp; omega) | (left; dsimp only; omega))))); done)))).mono ?_; rintro e w6 ⟨rfl, hw6⟩; have HK6 := Lib.hid (show Keep [] w9 w6 from by rw [hw6]; first | (((repeat (first | (with_reducible exact HK5.out) | (with_reducible refine Keep.drew ?_) | (with_reducible refine Keep.drewN ?_ _) | (with_reducible refine Keep.alloc ?_ _) | ((with_reducible refine Keep.setCell ?_ ?_ _); rotate_left; focus (first | (simp; done) | (simp; omega) | (left; dsimp only; omega))))); done)) | (((repeat (first | (with_reducible exact Keep.refl _ _) | (with_reducible refine Keep.drew ?_) | (with_reducible refine Keep.drewN ?_ _) | (with_reducible refine Keep.alloc ?_ _) | ((with_reducible refine Keep.setCell ?_ ?_ _); rotate_left; focus (first | (simp; done) | (simp; omega) | (left; dsimp only; omega))))); done))); have HRW := Lib.hid (HK6.out.get HSQ.out.stg.row (by simp)); have hcw := row_cell HRW.out (i := 5) (by omega); have hfw := frozen_at HRW.out; have hlw5 := lt_of_block HRW.out; clear hw6)))
            | fail
            all_goals (
              generalize hw9 : World.setCell w6 _ _ = w10
              have b9 : w10.heap[gw]? = some (.cells (cellsOf .u64 ((W.set 4 y0).set 5 y1)) 27 (0, 0)) := by rw [← hw9, ← cellsOf_set]; exact put_at HRW.out 5 _
              have K9 : Keep [gw] w9 w10 := by rw [← hw9]; ((repeat (first | (with_reducible exact HK6.out.mono (by simp)) | (with_reducible refine Keep.drew ?_) | (with_reducible refine Keep.drewN ?_ _) | (with_reducible refine Keep.alloc ?_ _) | ((with_reducible refine Keep.setCell ?_ ?_ _); rotate_left; focus (first | (simp; done) | (simp; omega) | (left; dsimp only; omega))))); done)
              have hpz1 : putz (W.set 4 y0) 5 y1 = (W.set 4 y0).set 5 y1 := putz_nat (i := 5) (by omega) _
              have hs9 := HSQ.out.put K9 b9 (by simp)
              clear hw9 b9 K9 HRW HK6 HK5 HAT HGL D0 D1 D2 D3 HSQ
              have HSQ := Lib.hid hs9
              clear hs9
              rw [hpz0, hpz1] at hR2
              clear hpz0 hpz1
              have c1 := cell_at HSQ.out.stg.res; have f1 := frozen_at HSQ.out.stg.res; have l1 := lt_of_block HSQ.out.stg.res; have c8 := cell_at HSQ.out.stg.lay; have l8 := lt_of_block HSQ.out.stg.lay
              have d1 : ∀ i, w10.drew.cell? ⟨z + 1, i, none⟩ = #[.int .i64 0, .int .i64 0, .int .i64 0][i]? := c1
              have d8 : ∀ i, w10.drew.cell? ⟨z8, i, none⟩ = #[.int .i64 1, .int .i64 2, .int .i64 q][i]? := c8
              have e1' : ∀ i, w10.drew.frozen? ⟨z + 1, i, none⟩ = false := f1
              have hzn : ¬ z8 = z + 1 ∧ ¬ z + 1 = z8 := by omega
              obtain ⟨hzn1, hzn2⟩ := hzn
              go_wp2_with fail
              go_region_o
              all_goals go_wp2_with fail
              all_goals (
                generalize hw11 : World.drew _ = w11
                have b11 : w11.heap[z + 1]? = some (.cells #[.int .i64 1, .int .i64 2, .int .i64 q] 88 (0, 0)) := by rw [← hw11]; exact put_at (put_at (put_at HSQ.out.stg.res 0 _) 1 _) 2 _
                have K11 : Keep [z + 1] w10 w11 := by rw [← hw11]; ((repeat (first | (with_reducible exact Keep.refl _ _) | (with_reducible refine Keep.drew ?_) | (with_reducible refine Keep.drewN ?_ _) | (with_reducible refine Keep.alloc ?_ _) | ((with_reducible refine Keep.setCell ?_ ?_ _); rotate_left; focus (first | (simp; done) | (simp; omega) | (left; dsimp only; omega))))); done)
                have c3 := cell_at b11
                have hg := K11.get HSQ.out.stg.row (by simp; omega)
                have hK := HSQ.out.stg.all.fresh K11 (by simp; omega)
                clear c1 f1 l1 c8 l8 d1 d8 e1' hw11
                refine bodyPost_ret (v := .tuple #[.slice (some ⟨gw, 0, none⟩) (6 + 33 * q) (6 + 33 * q), .agg #[.int .i64 1, .int .i64 2, .int .i64 q], .bool true]) ?_ rfl ?_
                · simp [results, Try.results50, go_sem, c3]
                exact hR2.out _ _ ⟨gw, rfl, hg, by omega, hK⟩)))
end Go.Proofs.Ytnadiddaeolanaa
