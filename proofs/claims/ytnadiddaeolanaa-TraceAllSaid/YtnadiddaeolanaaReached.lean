/- What demesnelaw21.reached answers. -/
import Derived.Test.YtnadiddaeolanaaAllLaw
import Derived.Test.YtnadiddaeolanaaOff
namespace Go.Proofs.Ytnadiddaeolanaa
open Go.RowKit
set_option linter.unusedVariables false
set_option linter.unusedSimpArgs false

def LeadsAt (W : List Int) (c a : Int) (k : Nat) (v : Int) : Prop := 1 ≤ k ∧ (k : Int) ≤ (takeH (rdz W a)).refs ∧ a + k < W.length ∧ rdz W (a + k) = v ∧ v ≠ 0 ∧ v < W.length ∧ tellOf (rdz W v) c = 1
theorem leadsTo_at {W : List Int} {c a v : Int} : LeadsTo W c a v ↔ ∃ k, LeadsAt W c a k v := Iff.rfl
/-- What stands while the reached are looked for; but of one not. -/
structure RI (W : List Int) (c : Int) (hs : List Int) (ex : Option Int) (out : List Bool) (work : List Int) : Prop where
  len : out.length = W.length
  sound : ∀ v : Nat, out.getD v false = true → Src W c hs v
  wrk : ∀ a ∈ work, Src W c hs a
  opn : ∀ a, some a ≠ ex → ((a ∈ hs ∧ tellOf (rdz W a) c = 2) ∨ ∃ v : Nat, a = v ∧ out.getD v false = true) → a ∈ work ∨ ∀ v, LeadsTo W c a v → out.getD v.toNat false = true
theorem RI.start {W : List Int} {c : Int} {hs : List Int} : RI W c hs none (List.replicate W.length false) (hs.filter fun a => tellOf (rdz W a) c == 2) where
  len := by simp
  sound := fun v h => by
    rw [List.getD_eq_getElem?_getD, List.getElem?_replicate] at h
    split at h <;> simp at h
  wrk := fun a ha => by
    rw [List.mem_filter] at ha
    exact .grey a ha.1 (by simpa using ha.2)
  opn := fun a _ h => .inl (by
    rcases h with h | ⟨v, _, h⟩
    · rw [List.mem_filter]; exact ⟨h.1, by simp [h.2]⟩
    · rw [List.getD_eq_getElem?_getD, List.getElem?_replicate] at h
      split at h <;> simp at h)
theorem RI.pop {W : List Int} {c : Int} {hs : List Int} {out : List Bool} {a : Int} {work : List Int} (h : RI W c hs none out (a :: work)) : RI W c hs (some a) out work :=
  ⟨h.len, h.sound, fun b hb => h.wrk b (by simp [hb]), fun b hn hb => by
    rcases h.opn b (by simp) hb with h1 | h1
    · rcases List.mem_cons.1 h1 with rfl | h1
      · exact absurd rfl hn
      · exact .inl h1
    · exact .inr h1⟩
theorem RI.close {W : List Int} {c : Int} {hs : List Int} {out : List Bool} {a : Int} {work : List Int} (h : RI W c hs (some a) out work) (hp : ∀ v, LeadsTo W c a v → out.getD v.toNat false = true) : RI W c hs none out work :=
  ⟨h.len, h.sound, h.wrk, fun b _ hb => by
    by_cases e : b = a
    · subst e; exact .inr hp
    · exact h.opn b (by simpa using e) hb⟩
theorem getD_set_true (out : List Bool) (v w : Nat) (h : out.getD w false = true) : (out.set v true).getD w false = true := by
  rw [List.getD_eq_getElem?_getD] at h ⊢
  rw [List.getElem?_set]
  split
  · split
    · rfl
    · rename_i e h2; subst e; rw [List.getElem?_eq_none (by omega)] at h; simp at h
  · exact h
theorem RI.push {W : List Int} {c : Int} {hs : List Int} {out : List Bool} {a : Int} {work : List Int} (h : RI W c hs (some a) out work) (hS : Src W c hs a) (V : Nat) (hv : V < W.length) (hl : LeadsTo W c a V) : RI W c hs (some a) (out.set V true) (work ++ [(V : Int)]) where
  len := by rw [List.length_set]; exact h.len
  sound := fun v h1 => by
    by_cases e : v = V
    · subst e; exact .led a _ hS hl
    · refine h.sound v ?_
      rw [List.getD_eq_getElem?_getD, List.getElem?_set_ne (fun x => e x.symm)] at h1
      rw [List.getD_eq_getElem?_getD]; exact h1
  wrk := fun b hb => by
    rcases List.mem_append.1 hb with h1 | h1
    · exact h.wrk b h1
    · rw [List.mem_singleton] at h1; subst h1; exact .led a _ hS hl
  opn := fun b hn hb => by
    by_cases e : b = (V : Int)
    · subst e; exact .inl (by simp)
    · have hb' : (b ∈ hs ∧ tellOf (rdz W b) c = 2) ∨ ∃ v : Nat, b = v ∧ out.getD v false = true := by
        rcases hb with h1 | ⟨v, h1, h2⟩
        · exact .inl h1
        · refine .inr ⟨v, h1, ?_⟩
          have : ¬ V = v := fun x => e (by rw [h1, x])
          rw [List.getD_eq_getElem?_getD, List.getElem?_set_ne this] at h2
          rw [List.getD_eq_getElem?_getD]; exact h2
      rcases h.opn b hn hb' with h1 | h1
      · exact .inl (by simp [h1])
      · exact .inr fun v hv => getD_set_true out V _ (h1 v hv)
/-- In the end: what is reached, and nothing else. -/
theorem RI.ended {W : List Int} {c : Int} {hs : List Int} {out : List Bool} (h : RI W c hs none out []) (hin : ∀ a, Src W c hs a → 0 ≤ a) {a : Int} (hS : Src W c hs a) : (a ∈ hs ∧ tellOf (rdz W a) c = 2) ∨ out.getD a.toNat false = true := by
  induction hS with
  | grey a ha ht => exact .inl ⟨ha, ht⟩
  | led a v hS hl ih =>
    right
    have h1 := h.opn a (by simp) (by
      rcases ih with h1 | h1
      · exact .inl h1
      · exact .inr ⟨a.toNat, by have := hin a hS; omega, h1⟩)
    rcases h1 with h1 | h1
    · cases h1
    · exact h1 v hl
/-- How many are not marked. -/
def falses (out : List Bool) : Nat := out.countP fun b => b == false
theorem falses_set : ∀ (out : List Bool) (v : Nat), v < out.length → out.getD v false = false → falses (out.set v true) + 1 = falses out
  | [], v, h, _ => by simp at h
  | b :: out, 0, _, h => by
    have hb : b = false := by simpa using h
    subst hb
    simp [falses, List.countP_cons]
  | b :: out, v + 1, h, h2 => by
    have ih := falses_set out v (by simpa using h) (by simpa using h2)
    simp only [falses, List.set_cons_succ, List.countP_cons] at ih ⊢
    omega

def cellsB (B : List Bool) : Array Value := (B.map Value.bool).toArray
theorem cellsB_get (B : List Bool) (i : Nat) : (cellsB B)[i]? = B[i]?.map Value.bool := by simp [cellsB]
theorem cellsB_set (B : List Bool) (i : Nat) (v : Bool) : (cellsB B).setIfInBounds i (.bool v) = cellsB (B.set i v) := by simp [cellsB, List.map_set]
theorem made_cellsB (n : Nat) (z : Bool) : madeCells #[.bool z] n = cellsB (List.replicate n z) := by
  apply Array.ext'
  rw [toList_madeCells_one]
  simp [cellsB]
theorem Try.info4 : (Try.prog.info? 4).map (fun i => (i.zero, i.size, i.bytes)) = some (some (.bool false), 1, 1) := by kernel_rfl
theorem make_bool (n : Nat) (h : n ≤ 4096) (w : World) : (Instr.makeSlice 95 (.int .i64 n) (.int .i64 n)).run Try.prog w = .ok (.slice (some ⟨w.heap.size, 0, none⟩) n n) (w.alloc (.cells (cellsB (List.replicate n false)) 4)) := by
  obtain ⟨i0, hi, hz0, hz1, hz2⟩ := info_parts Try.info4
  have h := run_make (P := Try.prog) w 95 4 i0 _ Try.underlying95 hi hz0 .i64 .i64 n n (by omega) (by omega) (by rw [hz2]; omega) (by omega)
  simp only [Int.toNat_natCast, hz1, Nat.mul_one] at h
  rw [h, show (Value.bool false).cells = #[.bool false] from rfl, made_cellsB]

/-- 'append' of one number to a row that may begin within its block. -/
theorem wpList_append_offs {P : Program} (w : World) {ops : Array Oper} {rest : List Oper} {o : Oper} {a : Act} {Q : Exit → Act → World → Prop}
    (hg : o.guard = none) (s x : Operand) (t : TypeId) (hop : o.op = Op.call { callee := Callee.builtin Builtin.append, args := #[s, x], argTypes := #[t, t] })
    {e : TypeId} {z : Value} {bytes : Nat} (E : Elem P t e z 1 bytes) (base : Nat)
    (v : Value) (n : Nat) (xs : List Int) (hs : a.eval s = v) (hown : Offs w base e v n xs)
    (xv : Value) (y : Int) (hx : a.eval x = xv) (hr : Rd w xv 1 [.int .i64 y])
    (h63 : n + 1 ≤ maxLen) (hbytes : (n + 1) * bytes ≤ 140737488355328) (hbase : base ≤ w.heap.size)
    (hK : ∀ ao cap w', Offs w' base e (.slice ao (n + 1) cap) (n + 1) (xs ++ [y]) → w.grownBy w' v.ownBlock → (∀ g, (Value.slice ao (n + 1) cap).ownBlock = some g → v.ownBlock = some g ∨ w.heap.size ≤ g) → wpList P ops Q rest (a.put o.dst (.slice ao (n + 1) cap)) w') :
    wpList P ops Q (o :: rest) a w := by
  refine wpList_plain hg fun K hK' => ?_
  obtain ⟨ao, cap, w', hrun, q1, q2, q3⟩ := run_append_offs (P := P) w t o.type E base v n xs hown xv y hr h63 hbytes hbase
  unfold Oper.wp
  simp [execOp, hop, resolve, invoke, builtin, hs, hx, hrun, Result.andThen]
  exact hK' _ _ (hK ao cap w' q1 q2 q3)
theorem src_in {W : List Int} (hW : Words W) {c : Int} {hs : List Int} (hh : ∀ a ∈ hs, 0 ≤ a ∧ a < W.length) {a : Int} (h : Src W c hs a) : 0 ≤ a ∧ a < W.length := by
  cases h with
  | grey _ ha _ => exact hh a ha
  | led b _ _ hl =>
    obtain ⟨k, _, _, _, hv, _, h1, _⟩ := hl
    exact ⟨by rw [← hv]; exact (hW _).1, h1⟩
end Go.Proofs.Ytnadiddaeolanaa
