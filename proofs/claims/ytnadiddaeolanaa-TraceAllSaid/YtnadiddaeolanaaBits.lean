/- Small things that stages of rows and words share. -/
import Derived.Test.YtnadiddaeolanaaApp
import Derived.Test.YtnadiddaeolanaaRef01
import Derived.Test.YtnadiddaeolanaaWordsPut
import Derived.Shelf.RegionOpenPlain
import Derived.Deep.LoopGhost
import Derived.Test.YtnadiddaeolanaaOpen
namespace Go.Proofs.Ytnadiddaeolanaa
open Go.RowKit
set_option linter.unusedVariables false
set_option linter.unusedSimpArgs false

theorem Try.info3 : (Try.prog.info? 3).map (fun i => (i.zero, i.size, i.bytes)) = some (some (.int .i64 0), 1, 8) := by kernel_rfl
theorem elem_int : Elem Try.prog 22 3 (.int .i64 0) 1 8 := Elem.of Try.underlying22 Try.info3 rfl (by omega)
def u64s (xs : List Int) : List Value := xs.map (Value.int .u64)
theorem u64s_get (xs : List Int) (i : Nat) : (u64s xs)[i]? = xs[i]?.map (Value.int .u64) := by simp [u64s]
theorem u64s_len (xs : List Int) : (u64s xs).length = xs.length := by simp [u64s]
theorem owns_base {w : World} {b b' : Nat} {e : TypeId} {size : Nat} {v : Value} {n : Nat} {xs : List Value} (h : w.ownsRow b e size v n xs) (hb : b' ≤ b) : w.ownsRow b' e size v n xs := by
  obtain ⟨h1, h2⟩ := h
  refine ⟨h1, ?_⟩
  rcases h2 with h2 | ⟨g, cap, cur, rfl, hb', r⟩
  · exact .inl h2
  · exact .inr ⟨g, cap, cur, rfl, Nat.le_trans hb hb', r⟩

theorem owns_put {w : World} {base : Nat} {e : TypeId} {g n cap : Nat} {xs : List Value} (h : w.ownsRow base e 1 (.slice (some ⟨g, 0, none⟩) n cap) n xs) {k : Nat} (hk : k < n) (u : Value) :
    (w.setCell ⟨g, k, none⟩ u).ownsRow base e 1 (.slice (some ⟨g, 0, none⟩) n cap) n (xs.set k u) := by
  obtain ⟨hl, h2⟩ := h
  refine ⟨by simpa using hl, .inr ?_⟩
  rcases h2 with ⟨h2, _⟩ | ⟨g', cap', cur, hv, hb, hg, hn, hm, hs, ht⟩
  · cases h2
  · cases hv
    refine ⟨g, cap, cur.setIfInBounds k u, rfl, hb, put_at hg k u, hn, hm, by simpa using hs, ?_⟩
    rw [← ht]
    apply List.ext_getElem?
    intro j
    simp only [List.getElem?_take, Array.toList_setIfInBounds, List.getElem?_set, Nat.mul_one]
    by_cases e : k = j
    · subst e
      have hn' : n ≤ cur.size := by omega
      simp [hk, Nat.min_eq_left hn', show k < cur.size from by omega]
    · by_cases hj : j < n <;> simp [e, hj]

theorem hdOf_word {h : Hd} (hu : h.u8) (hm : h.may = true) : hdOf h.word = h := by
  obtain ⟨⟨k0, k1⟩, ⟨c0, c1⟩, ⟨o0, o1⟩, ⟨r0, r1⟩, ⟨s0, s1⟩⟩ := hu
  obtain ⟨b1, b2, b3, b4, b5⟩ : h.kind ≤ 3 ∧ h.colour ≤ 1 ∧ h.owner ≤ 63 ∧ h.size ≤ 95 ∧ h.refs ≤ h.size := by
    unfold Hd.may at hm
    split at hm
    · cases hm
    · omega
  obtain ⟨kind, colour, grey, marked, owner, refs, size⟩ := h
  dsimp only at *
  unfold hdOf Hd.word
  dsimp only
  cases grey <;> cases marked <;> simp only [Hd.mk.injEq, if_true, if_false, Bool.false_eq_true, beq_iff_eq, beq_eq_false_iff_ne] <;> refine ⟨?_, ?_, ?_, ?_, ?_, ?_, ?_⟩ <;> first | omega | (simp; omega)
theorem isHd_word {h : Hd} (hu : h.u8) (hm : h.may = true) : isHd h.word = true := by
  simp [isHd, hdOf_word hu hm, hm]
theorem takeH_word {h : Hd} (hu : h.u8) (hm : h.may = true) : takeH h.word = h := by
  rw [takeH, isHd_word hu hm, if_pos rfl, hdOf_word hu hm]

end Go.Proofs.Ytnadiddaeolanaa
