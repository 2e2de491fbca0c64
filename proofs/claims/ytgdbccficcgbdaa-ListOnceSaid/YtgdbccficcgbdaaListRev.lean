/- The list and its reference: rows the other way round. -/
import Derived.Test.YtgdbccficcgbdaaRef07d
import Derived.Test.YtgdbccficcgbdaaLaw07
namespace Go.Proofs.Ytgdbccficcgbdaa
open Go.RowKit Go.Shelf
set_option linter.unusedVariables false
set_option linter.unusedSimpArgs false

def rev (L : Nat → List Int) : Nat → List Int := fun c => (L c).reverse
theorem rev_upd (L : Nat → List Int) (c : Nat) (xs : List Int) : rev (upd L c xs) = upd (rev L) c xs.reverse := by
  funext d; unfold rev upd; split <;> rfl
theorem rev_total (L : Nat → List Int) : total (rev L) = total L := by simp [total, rev]
theorem rev_has (L : Nat → List Int) (x : Int) : hasL (rev L) x = hasL L x := by simp [hasL, rev]
theorem rev_pushE (L : Nat → List Int) (c x : Int) : pushE (rev L) c x = pushE L c x := by simp [pushE, rev_has]
theorem rev_pushL (L : Nat → List Int) (c x : Int) : pushR (rev L) c x = rev (pushL L c x) := by
  unfold pushR pushL
  rw [rev_pushE]
  split
  · rw [rev_upd]; simp [rev]
  · rfl
theorem rev_popE (L : Nat → List Int) (c : Int) : popE (rev L) c = popE L c := by simp [popE, rev]
theorem rev_popX (L : Nat → List Int) (c : Int) : popXR (rev L) c = popX L c := by
  unfold popXR popX
  rw [rev_popE]
  split
  · simp only [rev]
    rcases List.eq_nil_or_concat (L c.toNat) with h | ⟨xs, x, h⟩
    · simp [h]
    · simp [h]
  · rfl
theorem rev_popL (L : Nat → List Int) (c : Int) : popR (rev L) c = rev (popL L c) := by
  unfold popR popL
  rw [rev_popE]
  split
  · rw [rev_upd]
    simp only [rev]
    rcases List.eq_nil_or_concat (L c.toNat) with h | ⟨xs, x, h⟩
    · simp [h]
    · simp [h]
  · rfl
theorem rev_left (lo hi : Int) (L : Nat → List Int) : (fun c => left lo hi (rev L c)) = rev (fun c => left lo hi (L c)) := by
  funext c; simp [rev, left, List.filter_reverse]
theorem total_pushL (L : Nat → List Int) (c x : Int) : total (pushL L c x) ≤ total L + 1 := by
  unfold pushL
  split
  · rename_i h
    have hc : inC c = true := by
      unfold pushE at h
      cases hi : inC c with
      | true => rfl
      | false => simp [hi] at h
    obtain ⟨k, rfl, hk⟩ := inC_true hc
    have := total_upd L k hk (L k ++ [x])
    simp at this ⊢
    omega
  · omega
theorem total_popL (L : Nat → List Int) (c : Int) : total (popL L c) ≤ total L := by
  unfold popL
  split
  · rename_i h
    have hc : inC c = true := by
      unfold popE at h
      cases hi : inC c with
      | true => rfl
      | false => simp [hi] at h
    obtain ⟨k, rfl, hk⟩ := inC_true hc
    have := total_upd L k hk (L k).dropLast
    simp at this ⊢
    omega
  · omega
theorem total_left (lo hi : Int) (L : Nat → List Int) : total (fun c => left lo hi (L c)) ≤ total L := by
  have h0 := left_len_le lo hi (L 0); have h1 := left_len_le lo hi (L 1); have h2 := left_len_le lo hi (L 2); have h3 := left_len_le lo hi (L 3)
  simp only [total]
  omega

/-- What an act makes of the rows. -/
def actL (d : Int) (c x y : Int) (L : Nat → List Int) : Nat → List Int := if d = 0 then popL L c else if d = 1 then fun c => left x y (L c) else pushL L c x
theorem total_actL (d c x y : Int) (L : Nat → List Int) : total (actL d c x y L) ≤ total L + 1 := by
  unfold actL
  split
  · have := total_popL L c; omega
  · split
    · have := total_left x y L; omega
    · exact total_pushL L c x

/-- What stands behind an act: the list at b, the reference's rows in block q. -/
structure LP (w0 : World) (b q : Nat) (wr : World) (L : Nat → List Int) (V U : Nat → Value) : Prop where
  lst : Lst wr b V L
  box : wr.heap[q]? = some (.cells #[U 0, U 1, U 2, U 3] 93 (0, 0))
  rl : RL wr U (rev L)
  lo : Lo4 wr U
  apart : q ∉ lblocks b V
  apart2 : ∀ c g, c < 4 → (U c).ownBlock = some g → g ∉ lblocks b V ∧ g ≠ q
  keep : Keep [] w0 wr
  above : w0.heap.size ≤ b ∧ w0.heap.size ≤ q

theorem LP.still {w0 w w' : World} {b q : Nat} {L : Nat → List Int} {V U : Nat → Value} (h : LP w0 b q w L V U) (k : Keep [] w w') : LP w0 b q w' L V U :=
  ⟨h.lst.keep k (fun _ _ => by simp), k.get h.box (by simp), h.rl.keep0 k, fun c g hc hg => by have := h.lo c g hc hg; have := k.size; omega, h.apart, h.apart2, h.keep.trans k, h.above⟩

/-- The list has acted; the reference has not. -/
theorem LP.listed {w0 w w2 : World} {b q : Nat} {L L' : Nat → List Int} {V U : Nat → Value} (h : LP w0 b q w L V U) {V' : Nat → Value} (hl : Lst w2 b V' L') (k : Keep (lblocks b V) w w2) (hf : ∀ g ∈ lblocks b V', g ∈ lblocks b V ∨ w.heap.size ≤ g) :
    w2.heap[q]? = some (.cells #[U 0, U 1, U 2, U 3] 93 (0, 0)) ∧ RL w2 U (rev L) ∧ Lo4 w2 U ∧ q ∉ lblocks b V' ∧ (∀ c g, c < 4 → (U c).ownBlock = some g → g ∉ lblocks b V' ∧ g ≠ q) ∧ Keep [] w0 w2 := by
  have hq := lt_of_block h.box
  refine ⟨k.get h.box h.apart, h.rl.keep k (fun c g hc hg => (h.apart2 c g hc hg).1), fun c g hc hg => by have := h.lo c g hc hg; have := k.size; omega, fun hm => ?_, fun c g hc hg => ⟨fun hm => ?_, (h.apart2 c g hc hg).2⟩, h.keep.fresh k (fun x hx => .inl ?_)⟩
  · rcases hf q hm with h1 | h1
    · exact h.apart h1
    · omega
  · rcases hf g hm with h1 | h1
    · exact (h.apart2 c g hc hg).1 h1
    · have := h.lo c g hc hg; omega
  · have := (h.lst.blocks x hx).1; have := h.above; omega

/-- The reference has acted too, and stands in its block. -/
theorem LP.made {w0 w2 w3 w4 : World} {b q : Nat} {L' : Nat → List Int} {V' U U' : Nat → Value} (hl : Lst w2 b V' L') (lo : Lo4 w2 U) (ap : q ∉ lblocks b V') (ap2 : ∀ c g, c < 4 → (U c).ownBlock = some g → g ∉ lblocks b V' ∧ g ≠ q) (k0 : Keep [] w0 w2) (ab : w0.heap.size ≤ b ∧ w0.heap.size ≤ q) (hq2 : q < w2.heap.size)
    (k3 : Keep [] w2 w3) (rl : RL w3 U' (rev L')) (fr : Fresh4 w2 w3 U U') (k4 : Keep [q] w3 w4) (hq : w4.heap[q]? = some (.cells #[U' 0, U' 1, U' 2, U' 3] 93 (0, 0))) : LP w0 b q w4 L' V' U' := by
  have hlo := fr.lo lo k3.size
  have ap3 : ∀ c g, c < 4 → (U' c).ownBlock = some g → g ∉ lblocks b V' ∧ g ≠ q := fun c g hc hg => by
    rcases fr c g hc hg with ⟨d, hd, h⟩ | ⟨h, _⟩
    · exact ap2 d g hd h
    · exact ⟨fun hm => by have := (hl.blocks g hm).2; omega, by omega⟩
  refine ⟨(hl.keep k3 (fun _ _ => by simp)).keep k4 (fun g hg => by simp; intro e; subst e; exact ap hg), hq, rl.keep k4 (fun c g hc hg => by simpa using (ap3 c g hc hg).2), fun c g hc hg => ?_, ap, ap3, (k0.trans k3).fresh k4 (by simp; omega), ab⟩
  have := hlo c g hc hg; have := k4.size; omega
end Go.Proofs.Ytgdbccficcgbdaa
