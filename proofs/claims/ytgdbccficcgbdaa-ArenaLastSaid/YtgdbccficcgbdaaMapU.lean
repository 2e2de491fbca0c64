/- A map[int]uint64 of the call's own. -/
import Derived.Test.YtgdbccficcgbdaaArena3
import Derived.Maps.Own
import Derived.Maps.OwnOps
import Derived.Maps.Views
import Derived.Maps.OwnSet
namespace Go.Proofs.Ytgdbccficcgbdaa
open Go.RowKit Go.Maps
set_option linter.unusedVariables false
set_option linter.unusedSimpArgs false

/-- Block b is a map of at most n entries: at key k it has M k (0 where there is none). -/
def OwnM (w : World) (b n : Nat) (M : Int → Int) : Prop :=
  ∃ D : DataW Unit, w.ownsMap Try.prog 3 (plainElem Try.prog 49) b n D ∧ IsMap D ∧ ∀ k, (Lit.int .i64 k).wf = true → D.atKey (.int .i64 k) (.lit (.int .u64 0)) = .lit (.int .u64 (M k))

theorem zero_u64 (w : World) : (zeroValue 49).run Try.prog w = .ok (.int .u64 0) w := by kernel_rfl

theorem OwnM.made (w : World) : OwnM (w.alloc (.map #[] 0)) w.heap.size 0 (fun _ => 0) :=
  ⟨_, World.ownsMap_made w _ _ _, isMap_empty, fun k hk => rfl⟩

theorem OwnM.congr {w : World} {b n : Nat} {M M' : Int → Int} (h : OwnM w b n M) (he : ∀ k, (Lit.int .i64 k).wf = true → M k = M' k) : OwnM w b n M' := by
  obtain ⟨D, h1, h2, h3⟩ := h
  exact ⟨D, h1, h2, fun k hk => by rw [h3 k hk, he k hk]⟩
theorem OwnM.mono {w : World} {b n n' : Nat} {M : Int → Int} (h : OwnM w b n M) (hn : n ≤ n') : OwnM w b n' M := by
  obtain ⟨D, h1, h2, h3⟩ := h
  exact ⟨D, h1.mono hn, h2, h3⟩
theorem OwnM.lt {w : World} {b n : Nat} {M : Int → Int} (h : OwnM w b n M) : b < w.heap.size := by
  obtain ⟨D, h1, h2, h3⟩ := h
  exact h1.lt
theorem OwnM.keep {S : List Nat} {w w' : World} {b n : Nat} {M : Int → Int} (h : OwnM w b n M) (k : Keep S w w') (hb : b ∉ S) : OwnM w' b n M := by
  obtain ⟨D, ⟨es, clock, h0, h1⟩, h2, h3⟩ := h
  exact ⟨D, ⟨es, clock, k.get h0 hb, h1⟩, h2, h3⟩
theorem OwnM.look {w : World} {b n : Nat} {M : Int → Int} (h : OwnM w b n M) {k : Int} (hk : (Lit.int .i64 k).wf = true) :
    (Instr.lookup 66 (.map (some b)) (.int .i64 k) false).run Try.prog w = .ok (.int .u64 (M k)) w := by
  obtain ⟨D, h1, h2, h3⟩ := h
  obtain ⟨c, hrun, hat, _⟩ := h1.lookup_int (int_keyed Try.underlying3) Try.underlying66 Try.underlying49 (zero_u64 w) (keyOf_int_mk Try.underlying3 hk)
  rw [h3 k hk] at hat
  cases hat
  exact hrun
theorem OwnM.put {w : World} {b n : Nat} {M : Int → Int} (h : OwnM w b n M) {k v : Int} (hk : (Lit.int .i64 k).wf = true) (hv : (Lit.int .u64 v).wf = true) (hn : n < maxLen) :
    ∃ w', (Instr.mapUpdate 66 (.map (some b)) (.int .i64 k) (.int .u64 v)).run Try.prog w = .ok () w' ∧ OwnM w' b (n + 1) (fun j => if j = k then v else M j) ∧ Keep [b] w w' := by
  obtain ⟨D, h1, h2, h3⟩ := h
  obtain ⟨w', hrun, r1, r2⟩ := h1.update (int_keyed Try.underlying3) Try.underlying66 hn (keyOf_int_mk Try.underlying3 hk) (plainElem_int Try.underlying49 hv)
  refine ⟨w', hrun, ⟨_, r1, h2.put _ _, fun j hj => ?_⟩, Keep.grown (Keep.refl _ _) r2 (fun g hg => .inr (by cases hg; simp))⟩
  by_cases e : j = k
  · subst e
    rw [atKey_put_same h2 (by simp [WideAt.IsKeyLit])]
    simp
  · rw [atKey_put_other (by simpa using e), h3 j hj]
    simp [e]
end Go.Proofs.Ytgdbccficcgbdaa
