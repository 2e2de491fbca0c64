/- ListOnce: what stands behind an act; map operations as laws at the operation. -/
import Derived.Test.YtgdbccficcgbdaaOnce
import Derived.Test.YtgdbccficcgbdaaListRev
namespace Go.Proofs.Ytgdbccficcgbdaa
open Go.RowKit Go.Maps Go.Shelf Go.ChangeMaps Go.MapKept Go.WideShapes
set_option linter.unusedVariables false
set_option linter.unusedSimpArgs false

/-- The list at b, the map at c. -/
structure LM (w0 : World) (b c n : Nat) (wr : World) (L : Nat → List Int) (V : Nat → Value) : Prop where
  lst : Lst wr b V L
  map : MapI wr c n L
  apart : c ∉ lblocks b V
  keep : Keep [] w0 wr
  above : w0.heap.size ≤ b ∧ w0.heap.size ≤ c
theorem LM.still {w0 w w' : World} {b c n : Nat} {L : Nat → List Int} {V : Nat → Value} (h : LM w0 b c n w L V) (k : Keep [] w w') : LM w0 b c n w' L V :=
  ⟨h.lst.keep k (fun _ _ => by simp), h.map.keep k (by simp), h.apart, h.keep.trans k, h.above⟩
theorem LM.mono {w0 w : World} {b c n n' : Nat} {L : Nat → List Int} {V : Nat → Value} (h : LM w0 b c n w L V) (hn : n ≤ n') : LM w0 b c n' w L V :=
  ⟨h.lst, h.map.mono hn, h.apart, h.keep, h.above⟩
theorem LM.listed {w0 w w2 : World} {b c n : Nat} {L L' : Nat → List Int} {V V' : Nat → Value} (h : LM w0 b c n w L V) (hl : Lst w2 b V' L') (k : Keep (lblocks b V) w w2) (hf : ∀ g ∈ lblocks b V', g ∈ lblocks b V ∨ w.heap.size ≤ g) :
    MapI w2 c n L ∧ c ∉ lblocks b V' ∧ Keep [] w0 w2 := by
  have hq := h.map.lt
  refine ⟨h.map.keep k h.apart, fun hm => ?_, h.keep.fresh k (fun x hx => .inl ?_)⟩
  · rcases hf c hm with h1 | h1
    · exact h.apart h1
    · omega
  · have := (h.lst.blocks x hx).1; have := h.above; omega
theorem LM.made {w0 w2 w3 : World} {b c n : Nat} {L' : Nat → List Int} {V' : Nat → Value} (hl : Lst w2 b V' L') (ap : c ∉ lblocks b V') (k0 : Keep [] w0 w2) (ab : w0.heap.size ≤ b ∧ w0.heap.size ≤ c) (k3 : Keep [c] w2 w3) (hm : MapI w3 c n L') : LM w0 b c n w3 L' V' :=
  ⟨hl.keep k3 (fun g hg => by simp; intro e; subst e; exact ap hg), hm, ap, k0.fresh k3 (by simp; omega), ab⟩

section
variable {ops : Array Oper} {rest : List Oper} {o : Oper} {a : Act} {Q : Exit → Act → World → Prop}
theorem wpList_len_I (w : World) (hg : o.guard = none) (m : Operand) (hop : o.op = Op.call { callee := Callee.builtin Builtin.len, args := #[m], argTypes := #[106] })
    {b n : Nat} {L : Nat → List Int} (hm : a.eval m = .map (some b)) (h : MapI w b n L) (hK : wpList Try.prog ops Q rest (a.put o.dst (.int .i64 (total L : Nat))) w) :
    wpList Try.prog ops Q (o :: rest) a w := by
  obtain ⟨D, h1, h2, h3, h4, h5⟩ := h
  refine wpList_len_own w hg m 106 hop 3 3 Try.underlying106 _ b n D hm h1 ?_
  rw [MapI.size h1 h2 h4 h5]
  exact hK
theorem wpList_delete_I (w : World) (hg : o.guard = none) (m x : Operand) (hop : o.op = Op.call { callee := Callee.builtin Builtin.delete, args := #[m, x], argTypes := #[106, 3] })
    {b n k : Nat} {L : Nat → List Int} {xs : List Int} {y : Int} (hm : a.eval m = .map (some b)) (hx : a.eval x = .int .i64 y) (h : MapI w b n L) (hk : k < 4) (hL : L k = xs ++ [y])
    (hK : ∀ w', MapI w' b n (upd L k xs) → Keep [b] w w' → wpList Try.prog ops Q rest (a.put o.dst (.tuple #[])) w') :
    wpList Try.prog ops Q (o :: rest) a w := by
  refine wpList_plain hg fun K' hK' => ?_
  obtain ⟨w', hrun, r1, r2⟩ := h.del hk hL o.type
  unfold Oper.wp
  simp [execOp, hop, resolve, invoke, builtin, hm, hx, hrun, Result.andThen]
  exact hK' _ _ (hK w' r1 r2)
end
theorem sum_rows (L : Nat → List Int) : ((List.range 4).map fun c => (L c).length).sum = total L := by
  have : (List.range 4) = [0, 1, 2, 3] := by decide
  simp [this, total]; omega
theorem sum_le (L : Nat → List Int) {c : Nat} (hc : c ≤ 4) : ((List.range c).map fun c => (L c).length).sum ≤ total L := by
  have : c = 0 ∨ c = 1 ∨ c = 2 ∨ c = 3 ∨ c = 4 := by omega
  rcases this with rfl | rfl | rfl | rfl | rfl <;> simp [List.range_succ, total] <;> omega
theorem popE_cases {L : Nat → List Int} {c : Int} : (popE L c = 0 ∧ ∃ (k : Nat) (xs : List Int) (x : Int), c = k ∧ k < 4 ∧ L k = xs ++ [x] ∧ popX L c = x ∧ popL L c = upd L k xs) ∨ (popE L c ≠ 0 ∧ popX L c = 0 ∧ popL L c = L) := by
  by_cases h : popE L c = 0
  · left
    refine ⟨h, ?_⟩
    have hc : inC c = true := by
      unfold popE at h
      cases hi : inC c with
      | true => rfl
      | false => simp [hi] at h
    obtain ⟨k, rfl, hk⟩ := inC_true hc
    have hn : L k ≠ [] := fun e => by simp [popE, hc, e] at h
    refine ⟨k, (L k).dropLast, (L k).getLast hn, rfl, hk, (List.dropLast_concat_getLast hn).symm, ?_, ?_⟩
    · unfold popX; rw [if_pos h]; simp [List.getLastD_eq_getLast?, List.getLast?_eq_some_getLast hn]
    · unfold popL; rw [if_pos h]; rfl
  · exact .inr ⟨h, by simp [popX, h], by simp [popL, h]⟩
theorem pushE_cases {L : Nat → List Int} {c x : Int} : (pushE L c x = 0 ∧ hasL L x = false ∧ ∃ k : Nat, c = k ∧ k < 4 ∧ pushL L c x = upd L k (L k ++ [x])) ∨ (pushE L c x = 6 ∧ hasL L x = true ∧ pushL L c x = L) ∨ (pushE L c x = 2 ∧ pushL L c x = L) := by
  cases hc : inC c with
  | false => right; right; simp [pushE, pushL, hc]
  | true =>
    obtain ⟨k, rfl, hk⟩ := inC_true hc
    by_cases hx : x < 1
    · right; right; simp [pushE, pushL, hc, hx]
    · cases hh : hasL L x with
      | true => right; left; simp [pushE, pushL, hc, hx, hh]
      | false => left; exact ⟨by simp [pushE, hc, hx, hh], rfl, k, rfl, hk, by simp [pushL, pushE, hc, hx, hh]⟩
end Go.Proofs.Ytgdbccficcgbdaa
