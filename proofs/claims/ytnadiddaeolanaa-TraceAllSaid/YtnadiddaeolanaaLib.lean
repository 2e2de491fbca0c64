/- Small general facts on worlds: what a block holds, what a step keeps. -/
import Derived.WalkKit
import Derived.Lib.Hide
import Derived.Deep.Draws
namespace Go.Proofs.Ytnadiddaeolanaa
open Go.RowKit

@[go_sem] theorem alloc_drewN (w : World) (n : Nat) (o : Obj) : (w.drewN n).alloc o = (w.alloc o).drewN n := rfl
@[go_sem] theorem setCell_drewN (w : World) (n : Nat) (a : Addr) (v : Value) : (w.drewN n).setCell a v = (w.setCell a v).drewN n := rfl

/-- A post that the walk leaves as it is: it stands behind a name till the end. -/
theorem calls_abs {P : Program} {f : FuncId} {args : Array Value} {w : World} {Q : Ending → World → Prop}
    (h : ∀ R : Ending → World → Prop, Hid (∀ e w', Q e w' → R e w') → Calls P f args w R) : Calls P f args w Q := h Q fun _ _ q => q

/-- Every block that was there is as it was, but for those named. -/
structure Keep (S : List Nat) (w w' : World) : Prop where
  os : w'.os = w.os
  tape : w'.tape = w.tape
  output : w'.output = w.output
  size : w.heap.size ≤ w'.heap.size
  block : ∀ k, k < w.heap.size → k ∉ S → w'.heap[k]? = w.heap[k]?

theorem Keep.refl (S : List Nat) (w : World) : Keep S w w := ⟨rfl, rfl, rfl, Nat.le_refl _, fun _ _ _ => rfl⟩
theorem Keep.trans {S : List Nat} {a b c : World} (h : Keep S a b) (k : Keep S b c) : Keep S a c :=
  ⟨k.os.trans h.os, k.tape.trans h.tape, k.output.trans h.output, Nat.le_trans h.size k.size,
    fun i hi hn => (k.block i (Nat.lt_of_lt_of_le hi h.size) hn).trans (h.block i hi hn)⟩
theorem Keep.mono {S S' : List Nat} {a b : World} (h : Keep S a b) (hs : ∀ x ∈ S, x ∈ S') : Keep S' a b :=
  ⟨h.os, h.tape, h.output, h.size, fun i hi hn => h.block i hi (fun m => hn (hs i m))⟩
theorem Keep.drew {S : List Nat} {a w : World} (h : Keep S a w) : Keep S a w.drew := ⟨h.os, h.tape, h.output, h.size, h.block⟩
theorem Keep.drewN {S : List Nat} {a w : World} (h : Keep S a w) (n : Nat) : Keep S a (w.drewN n) := ⟨h.os, h.tape, h.output, h.size, h.block⟩
theorem Keep.alloc {S : List Nat} {a w : World} (h : Keep S a w) (o : Obj) : Keep S a (w.alloc o) :=
  h.trans ⟨rfl, rfl, rfl, by simp, fun k hk _ => Below.heap_alloc w o k hk⟩
theorem Keep.setCell {S : List Nat} {a w : World} (h : Keep S a w) {p : Addr} (hp : a.heap.size ≤ p.block ∨ p.block ∈ S) (u : Value) : Keep S a (w.setCell p u) :=
  ⟨h.os, h.tape, h.output, by simpa using h.size, fun k hk hn => by
    rw [Below.heap_setCell _ _ _ _ (by rcases hp with hp | hp <;> intro e <;> subst e <;> first | omega | exact hn hp)]
    exact h.block k hk hn⟩
theorem Keep.grown {S : List Nat} {a w w' : World} {row : Option Nat} (h : Keep S a w) (hg : w.grownBy w' row) (hr : ∀ k, row = some k → a.heap.size ≤ k ∨ k ∈ S) : Keep S a w' :=
  ⟨hg.os.trans h.os, hg.tape.trans h.tape, hg.output.trans h.output, Nat.le_trans h.size hg.size, fun k hk hn => by
    rw [hg.block k (Nat.lt_of_lt_of_le hk h.size) (fun e => by rcases hr k e.symm with h1 | h1 <;> first | omega | exact hn h1)]
    exact h.block k hk hn⟩
theorem Keep.off_drew {S : List Nat} {a b : World} (h : Keep S a.drew b) : Keep S a b := ⟨h.os, h.tape, h.output, h.size, h.block⟩
theorem Keep.off_drewN {S : List Nat} {a b : World} {n : Nat} (h : Keep S (a.drewN n) b) : Keep S a b := ⟨h.os, h.tape, h.output, h.size, h.block⟩

/-- What is new may be written. -/
theorem Keep.fresh {S T : List Nat} {a b c : World} (h : Keep S a b) (k : Keep T b c) (hT : ∀ x ∈ T, a.heap.size ≤ x ∨ x ∈ S) : Keep S a c :=
  ⟨k.os.trans h.os, k.tape.trans h.tape, k.output.trans h.output, Nat.le_trans h.size k.size, fun i hi hn => by
    rw [k.block i (Nat.lt_of_lt_of_le hi h.size) (fun m => by rcases hT i m with h1 | h1 <;> first | omega | exact hn h1)]
    exact h.block i hi hn⟩
theorem Keep.of_below {w w' : World} (h : Below w.heap.size w w') : Keep [] w w' := ⟨h.os, h.tape, h.output, h.size, fun k hk _ => h.block k hk⟩
theorem Keep.below {S : List Nat} {w w' : World} {B : Nat} (h : Keep S w w') (hB : B ≤ w.heap.size) (hS : ∀ x ∈ S, B ≤ x) : Below B w w' :=
  ⟨h.os, h.tape, h.output, h.size, fun k hk => h.block k (by omega) (fun m => by have := hS k m; omega)⟩
/-- What a block held it holds. -/
theorem Keep.get {S : List Nat} {w w' : World} {b : Nat} {o : Obj} (h : Keep S w w') (hb : w.heap[b]? = some o) (hn : b ∉ S) : w'.heap[b]? = some o :=
  (h.block b (lt_of_block hb) hn).trans hb
theorem Keep.cell {S : List Nat} {w w' : World} {b i : Nat} {u : Value} (h : Keep S w w') (hb : w.cell? ⟨b, i, none⟩ = some u) (hn : b ∉ S) : w'.cell? ⟨b, i, none⟩ = some u :=
  (World.cell?_of_block (w := w) (w' := w') (h.block b (World.block_lt_of_cell? w _ hb) hn)).trans hb
theorem Keep.owns {S : List Nat} {w w' : World} {base : Nat} {e : TypeId} {size : Nat} {v : Value} {n : Nat} {xs : List Value} (h : Keep S w w') (ho : w.ownsRow base e size v n xs) (hn : ∀ g, v.ownBlock = some g → g ∉ S) : w'.ownsRow base e size v n xs := by
  obtain ⟨h1, h2⟩ := ho
  refine ⟨h1, ?_⟩
  rcases h2 with h2 | ⟨g, cap, cur, rfl, hb, hg, r⟩
  · exact .inl h2
  · exact .inr ⟨g, cap, cur, rfl, hb, (h.block g (lt_of_block hg) (hn g rfl)).trans hg, r⟩
theorem Keep.lt {S : List Nat} {w w' : World} {b : Nat} {o : Obj} (h : Keep S w w') (hb : w.heap[b]? = some o) : b < w'.heap.size :=
  Nat.lt_of_lt_of_le (lt_of_block hb) h.size

/-- A block of cells: its cells; that they may be written. -/
theorem cell_at {w : World} {b : Nat} {cs : Array Value} {t : TypeId} {fr : Nat × Nat} (h : w.heap[b]? = some (.cells cs t fr)) (i : Nat) : w.cell? ⟨b, i, none⟩ = cs[i]? := by simp [World.cell?, h]
theorem frozen_at {w : World} {b : Nat} {cs : Array Value} {t : TypeId} (h : w.heap[b]? = some (.cells cs t (0, 0))) (i : Nat) : w.frozen? ⟨b, i, none⟩ = false := by simp [World.frozen?, h]
theorem put_at {w : World} {b : Nat} {cs : Array Value} {t : TypeId} {fr : Nat × Nat} (h : w.heap[b]? = some (.cells cs t fr)) (i : Nat) (u : Value) :
    (w.setCell ⟨b, i, none⟩ u).heap[b]? = some (.cells (cs.setIfInBounds i u) t fr) := by
  simp [World.setCell, Array.getElem?_modify, h]
theorem put_other {w : World} {b : Nat} {o : Obj} {a : Addr} (h : w.heap[b]? = some o) (hne : b ≠ a.block) (u : Value) : (w.setCell a u).heap[b]? = some o :=
  (Below.heap_setCell w a u b hne).trans h
theorem alloc_keeps {w : World} {b : Nat} {o : Obj} (h : w.heap[b]? = some o) (x : Obj) : (w.alloc x).heap[b]? = some o :=
  (Below.heap_alloc w x b (lt_of_block h)).trans h
theorem alloc_new (w : World) (x : Obj) (n : Nat) (hn : n = w.heap.size) : (w.alloc x).heap[n]? = some x := by subst hn; show (w.heap.push x)[_]? = _; simp
theorem drew_heap {w : World} {b : Nat} {o : Obj} (h : w.heap[b]? = some o) : w.drew.heap[b]? = some o := h

theorem lit_wf_i64 {x : Int} (h : (Lit.int .i64 x).wf = true) : -9223372036854775808 ≤ x ∧ x ≤ 9223372036854775807 := by
  have h2 : decide (IntKind.i64.min ≤ x) = true ∧ decide (x ≤ IntKind.i64.max) = true := by simpa [Lit.wf] using h
  have hmin : IntKind.i64.min = -9223372036854775808 := rfl
  have hmax : IntKind.i64.max = 9223372036854775807 := rfl
  rw [hmin, hmax] at h2
  exact ⟨of_decide_eq_true h2.1, of_decide_eq_true h2.2⟩

theorem lit_wf_u8 {x : Int} (h : (Lit.int .u8 x).wf = true) : 0 ≤ x ∧ x ≤ 255 := by
  have h2 : decide (IntKind.u8.min ≤ x) = true ∧ decide (x ≤ IntKind.u8.max) = true := by simpa [Lit.wf] using h
  have hmin : IntKind.u8.min = 0 := rfl
  have hmax : IntKind.u8.max = 255 := rfl
  rw [hmin, hmax] at h2
  exact ⟨of_decide_eq_true h2.1, of_decide_eq_true h2.2⟩

/-- 'append' of one value within the capacity, wherever the row lies in its block. -/
theorem wpList_append_one {P : Program} (w : World) {ops : Array Oper} {rest : List Oper} {o : Oper} {a : Act} {Q : Exit → Act → World → Prop}
    (hg : o.guard = none) (s x : Operand) (t : TypeId) (hop : o.op = Op.call { callee := Callee.builtin Builtin.append, args := #[s, x], argTypes := #[t, t] })
    (e : TypeId) (i : TypeInfo) (h1 : P.underlying t = some (.slice e)) (h2 : P.info? e = some i) (h4 : i.size = 1)
    (g n cap : Nat) (hs : a.eval s = .slice (some ⟨g, 0, none⟩) n cap) (cur : Array Value) (hgc : w.heap[g]? = some (.cells cur e (0, 0)))
    (ad : Addr) (c : Nat) (u : Value) (hx : a.eval x = .slice (some ad) 1 c)
    (hc : w.cell? ad = some u) (h1c : u.oneCell' = true) (b1 : n < cap) (b2 : n < cur.size)
    (hK : wpList P ops Q rest (a.put o.dst (.slice (some ⟨g, 0, none⟩) (n + 1) cap)) (w.setCell ⟨g, n, none⟩ u)) :
    wpList P ops Q (o :: rest) a w := by
  refine wpList_plain hg fun K hK' => ?_
  have hrun := run_append_room (P := P) w t o.type e i h1 h2 g n cap cur hgc ad 1 c [u] (by simp [h4])
    (by intro j v hv; cases j with
        | zero => simp at hv; subst hv; simpa [Addr.add] using hc
        | succ j => simp at hv) (by simpa using h1c) (by omega) (by simp [h4]; omega)
  have hw : w.setRow g (cur.toList.take (n * i.size) ++ [u] ++ cur.toList.drop (n * i.size + [u].length)).toArray = w.setCell ⟨g, n, none⟩ u := by
    unfold World.setRow World.setCell
    congr 1
    apply Array.ext_getElem?
    intro k
    simp only [Array.getElem?_modify]
    by_cases hk : g = k
    · subst hk
      simp only [hgc, if_true, Option.map_some]
      congr 2
      simp only [h4, Nat.mul_one, List.length_singleton]
      apply Array.ext_getElem?
      intro j
      rw [List.getElem?_toArray, if_neg (by simp), Array.getElem?_setIfInBounds, List.append_assoc, List.getElem?_append]
      simp only [List.length_take, Array.length_toList, Nat.min_eq_left (Nat.le_of_lt b2)]
      by_cases hj : j < n
      · rw [if_pos hj, List.getElem?_take_of_lt hj, if_neg (by omega)]
        simp
      · rw [if_neg hj]
        by_cases hj2 : j = n
        · subst hj2; simp [b2]
        · rw [if_neg (fun h => hj2 h.symm)]
          obtain ⟨m, rfl⟩ : ∃ m, j = n + 1 + m := ⟨j - n - 1, by omega⟩
          have : n + 1 + m - n = m + 1 := by omega
          simp [this]
    · simp [hk]
  rw [hw] at hrun
  unfold Oper.wp
  simp [execOp, hop, resolve, invoke, builtin, hs, hx, hrun, Result.andThen]
  exact hK' _ _ hK

/-- An element type: its slice type, its zero, its cells, its bytes. -/
structure Elem (P : Program) (t e : TypeId) (z : Value) (size bytes : Nat) : Prop where
  under : P.underlying t = some (.slice e)
  info : ∃ i, P.info? e = some i ∧ i.zero = some z ∧ i.size = size ∧ i.bytes = bytes
  zs : z.cells.size = size
  pos : 0 < size

theorem Elem.of {P : Program} {t e : TypeId} {z : Value} {size bytes : Nat} (hu : P.underlying t = some (.slice e))
    (h : (P.info? e).map (fun i => (i.zero, i.size, i.bytes)) = some (some z, size, bytes)) (hz : z.cells.size = size) (hp : 0 < size) : Elem P t e z size bytes :=
  ⟨hu, info_parts h, hz, hp⟩

/-- A slice value that can be read: n elements, their cells. -/
def Rd (w : World) (v : Value) (n : Nat) (cs : List Value) : Prop :=
  ∃ ao cap, v = .slice ao n cap ∧ n ≤ cap ∧ cap ≤ maxLen ∧ (ao = none → n = 0 ∧ cap = 0 ∧ cs = []) ∧ (∀ u ∈ cs, u.oneCell' = true) ∧
    ∀ a, ao = some a → ∀ i u, cs[i]? = some u → w.cell? (a.add i) = some u

theorem Rd.nil (w : World) : Rd w (.slice none 0 0) 0 [] := ⟨none, 0, rfl, Nat.le_refl _, Nat.zero_le _, fun _ => ⟨rfl, rfl, rfl⟩, by simp, fun a h => by cases h⟩

theorem Rd.ones {w : World} {v : Value} {n : Nat} {cs : List Value} (h : Rd w v n cs) : ∀ u ∈ cs, u.oneCell' = true := by
  obtain ⟨_, _, _, _, _, _, h4, _⟩ := h
  exact h4

theorem add_block (a : Addr) (i : Nat) : (a.add i).block = a.block := by unfold Addr.add; split <;> rfl

theorem Rd.keep {S : List Nat} {w w' : World} {v : Value} {n : Nat} {cs : List Value} (h : Rd w v n cs) (k : Keep S w w') (hn : ∀ g, v.ownBlock = some g → g ∉ S) : Rd w' v n cs := by
  obtain ⟨ao, cap, rfl, h1, h2, h3, h4, h5⟩ := h
  refine ⟨ao, cap, rfl, h1, h2, h3, h4, fun a ha i u hu => ?_⟩
  have a3 := h5 a ha i u hu
  have a2 := World.block_lt_of_cell? w _ a3
  rw [World.cell?_of_block (w := w) (w' := w') (k.block _ a2 (by rw [add_block]; exact hn _ (by subst ha; rfl)))]
  exact a3

theorem Rd.of_owns {w : World} {base : Nat} {e : TypeId} {size : Nat} {v : Value} {n : Nat} {xs : List Value} (h : w.ownsRow base e size v n xs) (ho : ∀ u ∈ xs, u.oneCell' = true) : Rd w v n xs := by
  obtain ⟨hl, h⟩ := h
  rcases h with ⟨rfl, rfl⟩ | ⟨g, cap, cur, rfl, hb, hg, hn, hm, hs, ht⟩
  · obtain rfl : xs = [] := List.eq_nil_of_length_eq_zero (by simpa using hl)
    exact Rd.nil w
  · refine ⟨some ⟨g, 0, none⟩, cap, rfl, hn, hm, by simp, ho, fun a ha => ?_⟩
    cases ha
    intro i u hu
    have hadd : (⟨g, 0, none⟩ : Addr).add i = ⟨g, i, none⟩ := by unfold Addr.add; split <;> simp_all
    rw [hadd, cell_at hg]
    rw [← ht, List.getElem?_take] at hu
    split at hu
    · simpa using hu
    · cases hu

/-- The row of one value that a walk lays ahead of an append. -/
theorem Rd.one {w : World} {b : Nat} {u : Value} {t : TypeId} {fr : Nat × Nat} (hb : w.heap[b]? = some (.cells #[u] t fr)) (hu : u.oneCell' = true) : Rd w (.slice (some ⟨b, 0, none⟩) 1 1) 1 [u] := by
  refine ⟨_, _, rfl, Nat.le_refl _, by simp [maxLen], by simp, by simpa using hu, fun a ha i v hv => ?_⟩
  cases ha
  cases i with
  | zero => simp at hv; subst hv; simp [Addr.add, World.cell?, hb]
  | succ i => simp at hv
theorem Rd.lit (w : World) (u : Value) (t : TypeId) (hu : u.oneCell' = true) : Rd (w.alloc (.cells #[u] t)) (.slice (some ⟨w.heap.size, 0, none⟩) 1 1) 1 [u] :=
  Rd.one (b := w.heap.size) (t := t) (fr := (0, 0)) (by show (w.heap.push _)[_]? = _; simp) hu

theorem owns_block {w : World} {base : Nat} {e : TypeId} {size : Nat} {v : Value} {n : Nat} {xs : List Value} (h : w.ownsRow base e size v n xs) : ∀ g, v.ownBlock = some g → base ≤ g ∧ g < w.heap.size := fun g hg => h.lt g hg

theorem owns_val {w : World} {base : Nat} {e : TypeId} {size : Nat} {v : Value} {n : Nat} {xs : List Value} (h : w.ownsRow base e size v n xs) : ∃ ao cap, v = .slice ao n cap ∧ n ≤ cap ∧ cap ≤ maxLen := by
  rcases h.2 with ⟨rfl, rfl⟩ | ⟨g, cap, cur, rfl, _, _, h1, h2, _⟩
  · exact ⟨_, _, rfl, Nat.le_refl _, Nat.zero_le _⟩
  · exact ⟨_, _, rfl, h1, h2⟩
theorem owns_some {w : World} {base : Nat} {e : TypeId} {size : Nat} {v : Value} {n : Nat} {xs : List Value} (h : w.ownsRow base e size v n xs) (hn : 0 < n) : ∃ g cap, v = .slice (some ⟨g, 0, none⟩) n cap ∧ n ≤ cap ∧ cap ≤ maxLen ∧ base ≤ g ∧ g < w.heap.size ∧ (∀ j u, xs[j]? = some u → w.cell? ⟨g, j, none⟩ = some u) ∧ ∀ j, w.frozen? ⟨g, j, none⟩ = false := by
  rcases h.2 with ⟨rfl, rfl⟩ | ⟨g, cap, cur, rfl, hb, hg, h1, h2, hs, ht⟩
  · omega
  · refine ⟨g, cap, rfl, h1, h2, hb, lt_of_block hg, fun j u hu => ?_, fun j => frozen_at hg j⟩
    rw [cell_at hg]
    rw [← ht, List.getElem?_take] at hu
    split at hu
    · simpa using hu
    · cases hu

/-- The cell of an element, at a whole number. -/
theorem Rd.at {w : World} {b o n cap : Nat} {cs : List Value} (h : Rd w (.slice (some ⟨b, o, none⟩) n cap) n cs) (i : Nat) (u : Value) (hu : cs[i]? = some u) : w.cell? ⟨b, o + i, none⟩ = some u := by
  obtain ⟨ao, cap', hv, _, _, _, _, h5⟩ := h
  cases hv
  have := h5 _ rfl i u hu
  rwa [Addr.add_lit] at this

theorem run_append_rd {P : Program} (w : World) (t ty : TypeId) {e : TypeId} {z : Value} {size bytes : Nat} (E : Elem P t e z size bytes) (base : Nat)
    (v : Value) (n : Nat) (xs : List Value) (hown : w.ownsRow base e size v n xs) (xv : Value) (m : Nat) (news : List Value) (hr : Rd w xv m news) (hl : news.length = m * size)
    (h63 : n + m ≤ maxLen) (hbytes : (n + m) * bytes ≤ 140737488355328) (hbase : base ≤ w.heap.size) :
    ∃ ao cap w', (Builtin.append_ #[t, t] ty #[v, xv]).run P w = .ok (.slice ao (n + m) cap) w' ∧ w'.ownsRow base e size (.slice ao (n + m) cap) (n + m) (xs ++ news) ∧ w.grownBy w' v.ownBlock := by
  obtain ⟨i, h2, h3, h4, h5⟩ := E.info
  obtain ⟨ao, cap, rfl, r1, r2, r3, r4, r5⟩ := hr
  cases ao with
  | some ad =>
    obtain ⟨v', w', hrun, q1, q2, _⟩ := run_append_own (P := P) w base t ty e i z size bytes E.under h2 h3 h4 h5 E.zs E.pos v n xs hown ad m cap news hl (r5 ad rfl) r4 h63 hbytes hbase
    obtain ⟨ao', cap', rfl, _, _⟩ := owns_val q1
    exact ⟨ao', cap', w', hrun, q1, q2⟩
  | none =>
    obtain ⟨rfl, rfl, rfl⟩ := r3 rfl
    obtain ⟨ao', cap', rfl, _, _⟩ := owns_val hown
    exact ⟨ao', cap', w, run_append_owned_none (P := P) w base t ty e i size E.under h2 _ n xs hown, by simpa using hown, World.grownBy.refl _ _⟩

/-- 'append' of a slice that can be read to a row of the call's own. -/
theorem wpList_append_rd {P : Program} (w : World) {ops : Array Oper} {rest : List Oper} {o : Oper} {a : Act} {Q : Exit → Act → World → Prop}
    (hg : o.guard = none) (s x : Operand) (t : TypeId) (hop : o.op = Op.call { callee := Callee.builtin Builtin.append, args := #[s, x], argTypes := #[t, t] })
    {e : TypeId} {z : Value} {size bytes : Nat} (E : Elem P t e z size bytes) (base : Nat)
    (v : Value) (n : Nat) (xs : List Value) (hs : a.eval s = v) (hown : w.ownsRow base e size v n xs)
    (xv : Value) (m : Nat) (news : List Value) (hx : a.eval x = xv) (hr : Rd w xv m news) (hl : news.length = m * size)
    (h63 : n + m ≤ maxLen) (hbytes : (n + m) * bytes ≤ 140737488355328) (hbase : base ≤ w.heap.size)
    (hK : ∀ ao cap w', w'.ownsRow base e size (.slice ao (n + m) cap) (n + m) (xs ++ news) → w.grownBy w' v.ownBlock → wpList P ops Q rest (a.put o.dst (.slice ao (n + m) cap)) w') :
    wpList P ops Q (o :: rest) a w := by
  refine wpList_plain hg fun K hK' => ?_
  obtain ⟨ao, cap, w', hrun, q1, q2⟩ := run_append_rd (P := P) w t o.type E base v n xs hown xv m news hr hl h63 hbytes hbase
  unfold Oper.wp
  simp [execOp, hop, resolve, invoke, builtin, hs, hx, hrun, Result.andThen]
  exact hK' _ _ (hK ao cap w' q1 q2)

/-- The same at a step of a region that draws its order. -/
theorem step_append_rd {P : Program} (w : World) {ops : Array Oper} {o : Oper} {a : Act} {K : Act → World → Prop} {Q : Exit → Act → World → Prop} {G : Prop}
    (hg : o.guard = none) (s x : Operand) (t : TypeId) (hop : o.op = Op.call { callee := Callee.builtin Builtin.append, args := #[s, x], argTypes := #[t, t] })
    {e : TypeId} {z : Value} {size bytes : Nat} (E : Elem P t e z size bytes) (base : Nat)
    (v : Value) (n : Nat) (xs : List Value) (hs : a.eval s = v) (hown : w.ownsRow base e size v n xs)
    (xv : Value) (m : Nat) (news : List Value) (hx : a.eval x = xv) (hr : Rd w xv m news) (hl : news.length = m * size)
    (h63 : n + m ≤ maxLen) (hbytes : (n + m) * bytes ≤ 140737488355328) (hbase : base ≤ w.heap.size)
    (hK : ∀ ao cap w', w'.ownsRow base e size (.slice ao (n + m) cap) (n + m) (xs ++ news) → w.grownBy w' v.ownBlock → K (a.put o.dst (.slice ao (n + m) cap)) w') :
    if Region.wanted o (yielded ops a.tmps) = true then Oper.wp P o a w K Q else G := by
  rw [if_pos (by simp [Region.wanted, hg])]
  obtain ⟨ao, cap, w', hrun, q1, q2⟩ := run_append_rd (P := P) w t o.type E base v n xs hown xv m news hr hl h63 hbytes hbase
  unfold Oper.wp
  simp [execOp, hop, resolve, invoke, builtin, hs, hx, hrun, Result.andThen]
  exact hK ao cap w' q1 q2

/-- 'append([]T(nil), xs...)'. -/
theorem wpList_append_nil {P : Program} (w : World) {ops : Array Oper} {rest : List Oper} {o : Oper} {a : Act} {Q : Exit → Act → World → Prop}
    (hg : o.guard = none) (s x : Operand) (t : TypeId) (hop : o.op = Op.call { callee := Callee.builtin Builtin.append, args := #[s, x], argTypes := #[t, t] })
    {e : TypeId} {z : Value} {size bytes : Nat} (E : Elem P t e z size bytes) (base : Nat) (hs : a.eval s = .slice none 0 0)
    (xv : Value) (m : Nat) (news : List Value) (hx : a.eval x = xv) (hr : Rd w xv m news) (hl : news.length = m * size)
    (h63 : m ≤ maxLen) (hbytes : m * bytes ≤ 140737488355328) (hbase : base ≤ w.heap.size)
    (hK : ∀ ao cap w', w'.ownsRow base e size (.slice ao m cap) m news → w.grownBy w' none → wpList P ops Q rest (a.put o.dst (.slice ao m cap)) w') :
    wpList P ops Q (o :: rest) a w :=
  wpList_append_rd w hg s x t hop E base (.slice none 0 0) 0 [] hs (World.ownsRow_nil _ _ _ _) xv m news hx hr hl (by omega) (by rw [Nat.zero_add]; exact hbytes) hbase
    (fun ao cap w' h1 h2 => by rw [Nat.zero_add] at h1 ⊢; exact hK ao cap w' h1 h2)

theorem step_append_nil {P : Program} (w : World) {ops : Array Oper} {o : Oper} {a : Act} {K : Act → World → Prop} {Q : Exit → Act → World → Prop} {G : Prop}
    (hg : o.guard = none) (s x : Operand) (t : TypeId) (hop : o.op = Op.call { callee := Callee.builtin Builtin.append, args := #[s, x], argTypes := #[t, t] })
    {e : TypeId} {z : Value} {size bytes : Nat} (E : Elem P t e z size bytes) (base : Nat) (hs : a.eval s = .slice none 0 0)
    (xv : Value) (m : Nat) (news : List Value) (hx : a.eval x = xv) (hr : Rd w xv m news) (hl : news.length = m * size)
    (h63 : m ≤ maxLen) (hbytes : m * bytes ≤ 140737488355328) (hbase : base ≤ w.heap.size)
    (hK : ∀ ao cap w', w'.ownsRow base e size (.slice ao m cap) m news → w.grownBy w' none → K (a.put o.dst (.slice ao m cap)) w') :
    if Region.wanted o (yielded ops a.tmps) = true then Oper.wp P o a w K Q else G :=
  step_append_rd w hg s x t hop E base (.slice none 0 0) 0 [] hs (World.ownsRow_nil _ _ _ _) xv m news hx hr hl (by omega) (by rw [Nat.zero_add]; exact hbytes) hbase
    (fun ao cap w' h1 h2 => by rw [Nat.zero_add] at h1 ⊢; exact hK ao cap w' h1 h2)

theorem grown_get {w w' : World} {row : Option Nat} {b : Nat} {o : Obj} (h : w.grownBy w' row) (hb : w.heap[b]? = some o) (hn : some b ≠ row) : w'.heap[b]? = some o :=
  (h.block b (lt_of_block hb) hn).trans hb

theorem spot_of_cell {w : World} {a : Addr} {u : Value} (h : w.cell? a = some u) : a.spot = none := by
  unfold World.cell? at h
  split at h
  · cases hs : a.spot with
    | none => rfl
    | some x => simp [hs] at h
  · cases h

theorem Rd.shape {w : World} {v : Value} {n : Nat} {cs : List Value} (h : Rd w v n cs) : ∃ ao cap, v = .slice ao n cap ∧ n ≤ cap ∧ cap ≤ maxLen := by
  obtain ⟨ao, cap, rfl, h1, h2, _⟩ := h
  exact ⟨ao, cap, rfl, h1, h2⟩
theorem Rd.len {w : World} {ao : Option Addr} {m n cap : Nat} {cs : List Value} (h : Rd w (.slice ao m cap) n cs) : m = n ∧ n ≤ cap ∧ cap ≤ maxLen := by
  obtain ⟨ao', cap', hv, h1, h2, _⟩ := h
  cases hv
  exact ⟨rfl, h1, h2⟩
theorem Rd.some {w : World} {ao : Option Addr} {m n cap : Nat} {cs : List Value} (h : Rd w (.slice ao m cap) n cs) (hc : 0 < cs.length) :
    ∃ b o, ao = some ⟨b, o, none⟩ ∧ b < w.heap.size ∧ ∀ i u, cs[i]? = some u → w.cell? ⟨b, o + i, none⟩ = some u := by
  obtain ⟨ao', cap', hv, h1, h2, h3, h4, h5⟩ := h
  cases hv
  cases ao with
  | none => obtain ⟨_, _, rfl⟩ := h3 rfl; simp at hc
  | some a =>
    have h0 := h5 a rfl 0 _ (List.getElem?_eq_getElem hc)
    have hlt := World.block_lt_of_cell? w _ h0
    have hsp := spot_of_cell h0
    rw [show a.add 0 = a from by simp [Addr.add]] at hsp
    rw [add_block] at hlt
    obtain ⟨b, o, sp⟩ := a
    simp at hsp
    subst hsp
    refine ⟨b, o, rfl, hlt, fun i u hu => ?_⟩
    have := h5 _ rfl i u hu
    rwa [Addr.add_lit] at this
theorem Rd.take {w : World} {ao : Option Addr} {n cap k : Nat} {cs : List Value} (h : Rd w (.slice ao n cap) n cs) (hk : k ≤ n) : Rd w (.slice ao k cap) k (cs.take k) := by
  obtain ⟨ao', cap', hv, h1, h2, h3, h4, h5⟩ := h
  cases hv
  refine ⟨_, _, rfl, by omega, h2, fun e => by obtain ⟨rfl, rfl, rfl⟩ := h3 e; exact ⟨by omega, rfl, by simp⟩, fun u hu => h4 u (List.mem_of_mem_take hu), fun a ha i u hu => h5 a ha i u ?_⟩
  rw [List.getElem?_take] at hu
  split at hu
  · exact hu
  · cases hu

theorem run_equalIn_func_nil {P : Program} (w : World) (d : Nat) {t : TypeId} {ps rs : Array TypeId} {v : Bool} (fn : Fn) (a c : Array Value) (h : P.underlying t = some (.func ps rs v)) :
    (Op.equalIn (d + 1) t (.func fn a c) .nilFunc).run P w = .ok false w := by simp [Op.equalIn, run_underlying h]
theorem run_equalIn_nil_func_nil {P : Program} (w : World) (d : Nat) {t : TypeId} {ps rs : Array TypeId} {v : Bool} (h : P.underlying t = some (.func ps rs v)) :
    (Op.equalIn (d + 1) t .nilFunc .nilFunc).run P w = .ok true w := by simp [Op.equalIn, run_underlying h]
theorem run_eql_func_nil {P : Program} (w : World) {t : TypeId} {ps rs : Array TypeId} {v : Bool} (fn : Fn) (a c : Array Value) (h : P.underlying t = some (.func ps rs v)) :
    (binOp .eql t (.func fn a c) .nilFunc).run P w = .ok (.bool false) w := by
  simp only [binOp]
  simp [Op.equal, Op.maxDepth, run_equalIn_func_nil w 9999 fn a c h]
theorem run_eql_nil_func_nil {P : Program} (w : World) {t : TypeId} {ps rs : Array TypeId} {v : Bool} (h : P.underlying t = some (.func ps rs v)) :
    (binOp .eql t .nilFunc .nilFunc).run P w = .ok (.bool true) w := by
  simp only [binOp]
  simp [Op.equal, Op.maxDepth, run_equalIn_nil_func_nil w 9999 h]
end Go.Proofs.Ytnadiddaeolanaa
