/- 'append' to a row of the call's own, and where the row lies behind it. -/
import Derived.Test.YtnadiddaeolanaaLib
namespace Go.Proofs.Ytnadiddaeolanaa
open Go.RowKit

/-- As run_append_rd; the row is where it was, or new. -/
theorem run_append_rd2 {P : Program} (w : World) (t ty : TypeId) {e : TypeId} {z : Value} {size bytes : Nat} (E : Elem P t e z size bytes) (base : Nat)
    (v : Value) (n : Nat) (xs : List Value) (hown : w.ownsRow base e size v n xs) (xv : Value) (m : Nat) (news : List Value) (hr : Rd w xv m news) (hl : news.length = m * size)
    (h63 : n + m ≤ maxLen) (hbytes : (n + m) * bytes ≤ 140737488355328) (hbase : base ≤ w.heap.size) :
    ∃ ao cap w', (Builtin.append_ #[t, t] ty #[v, xv]).run P w = .ok (.slice ao (n + m) cap) w' ∧ w'.ownsRow base e size (.slice ao (n + m) cap) (n + m) (xs ++ news) ∧ w.grownBy w' v.ownBlock ∧
      ∀ g, (Value.slice ao (n + m) cap).ownBlock = some g → v.ownBlock = some g ∨ w.heap.size ≤ g := by
  obtain ⟨ao, cap, w', hrun, h1, h2⟩ := run_append_rd (P := P) w t ty E base v n xs hown xv m news hr hl h63 hbytes hbase
  refine ⟨ao, cap, w', hrun, h1, h2, fun g hg => ?_⟩
  obtain ⟨i, i2, i3, i4, i5⟩ := E.info
  obtain ⟨ax, cx, rfl, r1, r2, r3, r4, r5⟩ := hr
  cases ax with
  | none =>
    obtain ⟨rfl, rfl, rfl⟩ := r3 rfl
    have hn := run_append_owned_none (P := P) w base t ty e i size E.under i2 v n xs hown
    rw [hrun] at hn
    cases hn
    exact .inl hg
  | some ad =>
    rcases hown.2 with ⟨rfl, rfl⟩ | ⟨g', cap', cur, rfl, hb, hgc, hc1, hc2, hcs, ht⟩
    · obtain ⟨ao2, cap2, w2, hrun2, h12, _⟩ := run_append_rd (P := P) w t ty E w.heap.size (.slice none 0 0) 0 [] (World.ownsRow_nil _ _ _ _) (.slice (some ad) m cx) m news ⟨some ad, cx, rfl, r1, r2, r3, r4, r5⟩ hl (by omega) (by simpa using hbytes) (Nat.le_refl _)
      rw [hrun] at hrun2
      cases hrun2
      exact .inr (owns_block h12 g hg).1
    · by_cases hroom : n + m ≤ cap'
      · have hfit : n * i.size + news.length ≤ cur.size := by rw [hl, hcs, i4, ← Nat.add_mul]; exact Nat.mul_le_mul_right _ hroom
        have hx := run_append_room (P := P) w t ty e i E.under i2 g' n cap' cur hgc ad m cx news (by rw [i4]; exact hl) (r5 ad rfl) r4 hroom hfit
        rw [hrun] at hx
        cases hx
        simp [Value.ownBlock] at hg ⊢
        exact .inl hg
      · have holds : ∀ j u, xs[j]? = some u → w.cell? ((⟨g', 0, none⟩ : Addr).add j) = some u := hown.cells (g := g') rfl
        have hsm : n + m ≤ 9223372036854775807 := by simp only [maxLen] at h63; omega
        have hx := run_append_grow (P := P) w t ty e i z E.under i2 i3 ⟨g', 0, none⟩ n cap' xs (by rw [i4]; exact hown.1) holds ad m cx news (by rw [i4]; exact hl) (r5 ad rfl) (by omega) (by omega) (growslice_fits (by omega) (by rw [i5]; exact hbytes))
        rw [hrun] at hx
        cases hx
        simp [Value.ownBlock] at hg
        exact .inr (by omega)

/-- 'append' of a slice that can be read to a row of the call's own. -/
theorem wpList_append_rd2 {P : Program} (w : World) {ops : Array Oper} {rest : List Oper} {o : Oper} {a : Act} {Q : Exit → Act → World → Prop}
    (hg : o.guard = none) (s x : Operand) (t : TypeId) (hop : o.op = Op.call { callee := Callee.builtin Builtin.append, args := #[s, x], argTypes := #[t, t] })
    {e : TypeId} {z : Value} {size bytes : Nat} (E : Elem P t e z size bytes) (base : Nat)
    (v : Value) (n : Nat) (xs : List Value) (hs : a.eval s = v) (hown : w.ownsRow base e size v n xs)
    (xv : Value) (m : Nat) (news : List Value) (hx : a.eval x = xv) (hr : Rd w xv m news) (hl : news.length = m * size)
    (h63 : n + m ≤ maxLen) (hbytes : (n + m) * bytes ≤ 140737488355328) (hbase : base ≤ w.heap.size)
    (hK : ∀ ao cap w', w'.ownsRow base e size (.slice ao (n + m) cap) (n + m) (xs ++ news) → w.grownBy w' v.ownBlock → (∀ g, (Value.slice ao (n + m) cap).ownBlock = some g → v.ownBlock = some g ∨ w.heap.size ≤ g) → wpList P ops Q rest (a.put o.dst (.slice ao (n + m) cap)) w') :
    wpList P ops Q (o :: rest) a w := by
  refine wpList_plain hg fun K hK' => ?_
  obtain ⟨ao, cap, w', hrun, q1, q2, q3⟩ := run_append_rd2 (P := P) w t o.type E base v n xs hown xv m news hr hl h63 hbytes hbase
  unfold Oper.wp
  simp [execOp, hop, resolve, invoke, builtin, hs, hx, hrun, Result.andThen]
  exact hK' _ _ (hK ao cap w' q1 q2 q3)

/-- The same at a step of a region that draws its order. -/
theorem step_append_rd2 {P : Program} (w : World) {ops : Array Oper} {o : Oper} {a : Act} {K : Act → World → Prop} {Q : Exit → Act → World → Prop} {G : Prop}
    (hg : o.guard = none) (s x : Operand) (t : TypeId) (hop : o.op = Op.call { callee := Callee.builtin Builtin.append, args := #[s, x], argTypes := #[t, t] })
    {e : TypeId} {z : Value} {size bytes : Nat} (E : Elem P t e z size bytes) (base : Nat)
    (v : Value) (n : Nat) (xs : List Value) (hs : a.eval s = v) (hown : w.ownsRow base e size v n xs)
    (xv : Value) (m : Nat) (news : List Value) (hx : a.eval x = xv) (hr : Rd w xv m news) (hl : news.length = m * size)
    (h63 : n + m ≤ maxLen) (hbytes : (n + m) * bytes ≤ 140737488355328) (hbase : base ≤ w.heap.size)
    (hK : ∀ ao cap w', w'.ownsRow base e size (.slice ao (n + m) cap) (n + m) (xs ++ news) → w.grownBy w' v.ownBlock → (∀ g, (Value.slice ao (n + m) cap).ownBlock = some g → v.ownBlock = some g ∨ w.heap.size ≤ g) → K (a.put o.dst (.slice ao (n + m) cap)) w') :
    if Region.wanted o (yielded ops a.tmps) = true then Oper.wp P o a w K Q else G := by
  rw [if_pos (by simp [Region.wanted, hg])]
  obtain ⟨ao, cap, w', hrun, q1, q2, q3⟩ := run_append_rd2 (P := P) w t o.type E base v n xs hown xv m news hr hl h63 hbytes hbase
  unfold Oper.wp
  simp [execOp, hop, resolve, invoke, builtin, hs, hx, hrun, Result.andThen]
  exact hK ao cap w' q1 q2 q3
end Go.Proofs.Ytnadiddaeolanaa
