/- The contracts of demesneref14: a state of so many blocks, a map, entries. -/
import Derived.Test.YtnadiddaeolanaaRef04
import Derived.Test.YtnadiddaeolanaaRef05
import Derived.Test.YtnadiddaeolanaaGive4
import Derived.Test.YtnadiddaeolanaaLaw16
import Derived.Deep.RegionWith
namespace Go.Proofs.Ytnadiddaeolanaa
open Go.RowKit
set_option linter.unusedVariables false
set_option linter.unusedSimpArgs false

/-- The entries of a state, in a row of their own. -/
structure Ents (w : World) (base : Nat) (v : Value) (n : Nat) (E : List Int) : Prop where
  own : w.ownsRow base 27 1 v n (u64s E)
  len : E.length = n
  words : ∀ x ∈ E, 0 ≤ x ∧ x < 18446744073709551616
theorem Ents.keep {S : List Nat} {w w' : World} {base : Nat} {v : Value} {n : Nat} {E : List Int} (h : Ents w base v n E) (k : Keep S w w') (hS : ∀ x ∈ S, x < base) : Ents w' base v n E :=
  ⟨k.owns h.own (fun g hg hm => by have := owns_block h.own g hg; have := hS g hm; omega), h.len, h.words⟩
theorem Ents.still {w w' : World} {base : Nat} {v : Value} {n : Nat} {E : List Int} (h : Ents w base v n E) (k : Keep [] w w') : Ents w' base v n E := h.keep k (by simp)
/-- A row is none of a block that holds other things. -/
theorem Ents.other {w : World} {base : Nat} {v : Value} {n : Nat} {E : List Int} (h : Ents w base v n E) {q : Nat} {cs : Array Value} {t : TypeId} {fr : Nat × Nat} (hq : w.heap[q]? = some (.cells cs t fr)) (ht : t ≠ 27) : ∀ g, v.ownBlock = some g → g ≠ q := fun g hg e => by
  subst e
  obtain ⟨_, h2⟩ := h.own
  rcases h2 with ⟨rfl, _⟩ | ⟨g', cap, cur, rfl, _, hg', _⟩
  · simp [Value.ownBlock] at hg
  · simp [Value.ownBlock] at hg
    subst hg
    rw [hq] at hg'
    cases hg'
    exact ht rfl
theorem Ents.beside {w w' : World} {base : Nat} {v : Value} {n : Nat} {E : List Int} (h : Ents w base v n E) {q : Nat} {cs : Array Value} {t : TypeId} {fr : Nat × Nat} (hq : w.heap[q]? = some (.cells cs t fr)) (ht : t ≠ 27) (k : Keep [q] w w') : Ents w' base v n E :=
  ⟨k.owns h.own (fun g hg => by simpa using h.other hq ht g hg), h.len, h.words⟩
theorem owns_base2 {w : World} {b b' : Nat} {e : TypeId} {size : Nat} {v : Value} {n : Nat} {xs : List Value} (h : w.ownsRow b e size v n xs) (hb : b' ≤ b) : w.ownsRow b' e size v n xs := by
  obtain ⟨h1, h2⟩ := h
  refine ⟨h1, ?_⟩
  rcases h2 with h2 | ⟨g, cap, cur, rfl, hb', r⟩
  · exact .inl h2
  · exact .inr ⟨g, cap, cur, rfl, Nat.le_trans hb hb', r⟩
theorem owns_put2 {w : World} {base : Nat} {e : TypeId} {g n cap : Nat} {xs : List Value} (h : w.ownsRow base e 1 (.slice (some ⟨g, 0, none⟩) n cap) n xs) {k : Nat} (hk : k < n) (u : Value) :
    (w.setCell ⟨g, k, none⟩ u).ownsRow base e 1 (.slice (some ⟨g, 0, none⟩) n cap) n (xs.set k u) := by
  obtain ⟨hl, h2⟩ := h
  refine ⟨by simpa using hl, .inr ?_⟩
  rcases h2 with ⟨h2, _⟩ | ⟨g', cap', cur, hv, hb, hg, hn, hm, hs, ht⟩
  · cases h2
  · cases hv
    refine ⟨g, cap, cur.setIfInBounds k u, rfl, hb, put_at hg k u, hn, hm, by simpa using hs, ?_⟩
    rw [← ht]
    apply List.ext_getElem?
    intro j
    simp only [List.getElem?_take, Array.toList_setIfInBounds, List.getElem?_set, Nat.mul_one]
    by_cases e : k = j
    · subst e
      have hn' : n ≤ cur.size := by omega
      simp [hk, Nat.min_eq_left hn', show k < cur.size from by omega]
    · by_cases hj : j < n <;> simp [e, hj]

def stVal (n : Nat) (m : Nat) (v : Value) : Value := .agg #[.int .i64 n, .int .u64 m, v]

set_option maxRecDepth 100000 in
set_option maxHeartbeats 2000000 in
theorem ref14_set_ {w : World} {base : Nat} {v : Value} {n : Nat} {E : List Int} (h : Ents w base v n E) (hn : n ≤ 64) (hb : base ≤ w.heap.size) (m k : Nat) (hk : k < n) (x : Int) (hx : 0 ≤ x ∧ x < 18446744073709551616) :
    Calls Try.prog 95 #[stVal n m v, .int .i64 k, .int .u64 x] w fun e w' => ∃ v', e = .returned (stVal n m v') ∧ Ents w' base v' n (E.set k x) ∧ Keep [] w w' := by
  refine calls_abs fun R hR => ?_
  have H := Lib.hid h
  obtain ⟨g0, cap0, rfl, hc1, hc2, hb0, hg0, -, -⟩ := owns_some h.own (by omega)
  have hrd := Rd.of_owns h.own (by simp [u64s, Value.oneCell'])
  have HRD := Lib.hid hrd
  have k0 : (0 : Int) ≤ (k : Int) := by omega
  have k1 : (k : Int) < (n : Int) := by omega
  clear h hrd
  unfold stVal
  go_enter Try.func95, Try.ntmps95
  obtain ⟨z, hz⟩ : ∃ z, z = w.heap.size := ⟨_, rfl⟩
  have HZ := Lib.hid hz
  have hEk : k < (u64s E).length := by rw [u64s_len, H.out.len]; exact hk
  go_wp2_with (at_builtin; go_loud (refine wpList_append_nil _ rfl _ _ _ rfl elem_u64 (w.heap.size + 2) rfl _ n (u64s E) rfl (HRD.out.keep (S := []) (by repeat (first | (with_reducible exact Keep.refl _ _) | (with_reducible refine Keep.drew ?_) | (with_reducible refine Keep.drewN ?_ _) | (with_reducible refine Keep.alloc ?_ _) | (with_reducible refine Keep.setCell ?_ (by first | (simp; done) | (simp; omega) | (left; dsimp only; omega)) _))) (fun _ _ => by simp)) (by rw [u64s_len, H.out.len]; omega) (by simp only [maxLen]; omega) (by omega) (by simp) ?_); intro ao' cap' w2 ho hg; go_loud (obtain ⟨g2, cap2, hv2, hcc1, hcc2, hge2, hlt2, hcl2, hfr2⟩ := owns_some ho (by omega)); go_loud (cases hv2); go_loud (have b2 := grown_get hg (alloc_keeps (alloc_new w (.cells #[.int .i64 n, .int .u64 m, .slice (some ⟨g0, 0, none⟩) n cap0] 58 (0, 0)) _ rfl) (.cells #[.int .i64 0, .int .u64 0, .slice none 0 0] 58 (0, 0))) (by simp)); go_loud (have b3 := grown_get hg (alloc_new (w.alloc (.cells #[.int .i64 n, .int .u64 m, .slice (some ⟨g0, 0, none⟩) n cap0] 58 (0, 0))) (.cells #[.int .i64 0, .int .u64 0, .slice none 0 0] 58 (0, 0)) (w.heap.size + 1) (by simp)) (by simp)); go_loud (have c2 := cell_at b2); go_loud (have f2 := frozen_at b2); go_loud (have c3 := cell_at b3); go_loud (have f3 := frozen_at b3); go_loud (have cg := hcl2 k _ (List.getElem?_eq_getElem hEk)); go_loud (have fg := hfr2 k); go_loud (have n1 : ¬ g2 = w.heap.size := by omega); go_loud (have n2 : ¬ w.heap.size = g2 := by omega); go_loud (have n3 : ¬ g2 = w.heap.size + 1 := by omega); go_loud (have n4 : ¬ w.heap.size + 1 = g2 := by omega); go_loud (have hK2 : Keep [] w w2 := Keep.grown (w := (w.alloc _).alloc _) (by repeat (first | (with_reducible exact Keep.refl _ _) | (with_reducible refine Keep.drew ?_) | (with_reducible refine Keep.drewN ?_ _) | (with_reducible refine Keep.alloc ?_ _) | (with_reducible refine Keep.setCell ?_ (by first | (simp; done) | (simp; omega) | (left; dsimp only; omega)) _))) hg (by simp)); go_loud (have HO2 := Lib.hid ho); go_loud (have HK2 := Lib.hid hK2); go_loud (have HGE := Lib.hid hge2); go_loud (clear ho hg hcl2 hfr2 b2 b3 hK2 hge2); go_loud (generalize (u64s E)[k]'hEk = old at cg))
  refine bodyPost_ret (v := .agg #[.int .i64 n, .int .u64 m, .slice (some ⟨g2, 0, none⟩) n cap']) ?_ rfl ?_
  · simp [results, Try.results95, go_sem, c2, c3, n1, n2, n3, n4]
  refine hR.out _ _ ⟨_, rfl, ⟨?_, by rw [List.length_set]; exact H.out.len, fun y hy => ?_⟩, ?_⟩
  · rw [show u64s (E.set k x) = (u64s E).set k (.int .u64 x) from by simp [u64s, List.map_set]]
    have ho := owns_base2 HO2.out (b' := base) (by omega)
    have hge := HGE.out
    refine Keep.owns (S := [w.heap.size + 1]) (w := World.setCell (World.setCell w2 ⟨w.heap.size, 2, none⟩ _) ⟨g2, k, none⟩ (.int .u64 x)) (by repeat (first | (with_reducible exact Keep.refl _ _) | (with_reducible refine Keep.drew ?_) | (with_reducible refine Keep.drewN ?_ _) | (with_reducible refine Keep.alloc ?_ _) | (with_reducible refine Keep.setCell ?_ (by first | (simp; done) | (simp; omega) | (left; dsimp only; omega)) _))) (owns_put2 (Keep.owns (w := w2) (S := [w.heap.size]) (by repeat (first | (with_reducible exact Keep.refl _ _) | (with_reducible refine Keep.drew ?_) | (with_reducible refine Keep.drewN ?_ _) | (with_reducible refine Keep.alloc ?_ _) | (with_reducible refine Keep.setCell ?_ (by first | (simp; done) | (simp; omega) | (left; dsimp only; omega)) _))) ho (fun g hg => ?_)) hk _) (fun g hg => ?_)
    · simp [Value.ownBlock] at hg ⊢; omega
    · simp [Value.ownBlock] at hg ⊢; omega
  · rcases List.mem_or_eq_of_mem_set hy with hy | rfl
    · exact H.out.words y hy
    · exact hx
  · have hk2 := HK2.out
    have hge := HGE.out
    ((repeat (first | (with_reducible exact HK2.out) | (with_reducible refine Keep.drew ?_) | (with_reducible refine Keep.drewN ?_ _) | (with_reducible refine Keep.alloc ?_ _) | ((with_reducible refine Keep.setCell ?_ ?_ _); rotate_left; focus (first | (simp; done) | (simp; omega) | (left; dsimp only; omega))))); done)
end Go.Proofs.Ytnadiddaeolanaa
