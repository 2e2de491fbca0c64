/- The contracts of demesneref07. -/
import Derived.Test.YtgdbccficcgbdaaList5
namespace Go.Proofs.Ytgdbccficcgbdaa
open Go.RowKit Go.Shelf
set_option linter.unusedVariables false
set_option linter.unusedSimpArgs false

/-- The reference's rows, as values U. -/
def RL (w : World) (U : Nat → Value) (R : Nat → List Int) : Prop := ∀ c, c < 4 → Rd w (U c) (R c).length (ints (R c))
def rlVal (U : Nat → Value) : Value := .agg #[U 0, U 1, U 2, U 3]
theorem RL.keep {S : List Nat} {w w' : World} {U : Nat → Value} {R : Nat → List Int} (h : RL w U R) (k : Keep S w w') (hS : ∀ c g, c < 4 → (U c).ownBlock = some g → g ∉ S) : RL w' U R :=
  fun c hc => (h c hc).keep k (fun g hg => hS c g hc hg)
theorem RL.keep0 {w w' : World} {U : Nat → Value} {R : Nat → List Int} (h : RL w U R) (k : Keep [] w w') : RL w' U R := h.keep k (fun _ _ _ _ => by simp)
/-- Rows U' are rows of U, or new. -/
def Fresh4 (w w' : World) (U U' : Nat → Value) : Prop := ∀ c g, c < 4 → (U' c).ownBlock = some g → (∃ d, d < 4 ∧ (U d).ownBlock = some g) ∨ (w.heap.size ≤ g ∧ g < w'.heap.size)
theorem Fresh4.refl (w w' : World) (U : Nat → Value) : Fresh4 w w' U U := fun c g hc hg => .inl ⟨c, hc, hg⟩
/-- The rows' blocks are there. -/
def Lo4 (w : World) (U : Nat → Value) : Prop := ∀ c g, c < 4 → (U c).ownBlock = some g → g < w.heap.size
theorem Fresh4.lo {w w' : World} {U U' : Nat → Value} (h : Fresh4 w w' U U') (hl : Lo4 w U) (hs : w.heap.size ≤ w'.heap.size) : Lo4 w' U' := fun c g hc hg => by
  rcases h c g hc hg with ⟨d, hd, h2⟩ | ⟨_, h2⟩
  · have := hl d g hd h2; omega
  · exact h2
theorem four {c : Nat} (h : c < 4) : c = 0 ∨ c = 1 ∨ c = 2 ∨ c = 3 := by omega
theorem box4 {U : Nat → Value} {c : Nat} (h : c < 4) : (#[U 0, U 1, U 2, U 3] : Array Value)[c]? = some (U c) := by
  rcases four h with rfl | rfl | rfl | rfl <;> rfl
theorem put4 {U : Nat → Value} {c : Nat} (h : c < 4) (v : Value) : (#[U 0, U 1, U 2, U 3] : Array Value).setIfInBounds c v = #[upd U c v 0, upd U c v 1, upd U c v 2, upd U c v 3] := by
  rcases four h with rfl | rfl | rfl | rfl <;> simp [upd]

set_option maxRecDepth 100000 in
set_option maxHeartbeats 4000000 in
theorem ref07_has {w : World} {U : Nat → Value} {R : Nat → List Int} (h : RL w U R) (hs : total R ≤ 100000) (x : Int) :
    Calls Try.prog 62 #[rlVal U, .int .i64 x] w fun e w' => e = .returned (.bool (hasL R x)) ∧ Keep [] w w' := by
  refine calls_abs fun R' hR => ?_
  have H := Lib.hid h
  clear h
  unfold rlVal
  have hone : ∀ c, c < 4 → ∃ ao n cap, U c = .slice ao n cap := fun c hc => by obtain ⟨ao, cap, hv, _⟩ := (H.out c hc).shape; exact ⟨_, _, _, hv⟩
  obtain ⟨a0, n0, q0, h0⟩ := hone 0 (by omega)
  obtain ⟨a1, n1, q1, h1⟩ := hone 1 (by omega)
  obtain ⟨a2, n2, q2, h2⟩ := hone 2 (by omega)
  obtain ⟨a3, n3, q3, h3⟩ := hone 3 (by omega)
  have hU : #[Value.slice a0 n0 q0, .slice a1 n1 q1, .slice a2 n2 q2, .slice a3 n3 q3] = #[U 0, U 1, U 2, U 3] := by rw [h0, h1, h2, h3]
  rw [← hU]
  go_enter Try.func62, Try.ntmps62
  go_wp2_with fail
  rw [hU]
  generalize hw1 : World.alloc w _ = w1
  have hb1 : w1.heap[w.heap.size]? = some (.cells #[U 0, U 1, U 2, U 3] 93 (0, 0)) := by rw [← hw1]; exact alloc_new w _ _ rfl
  have K1 : Keep [] w w1 := by rw [← hw1]; exact (by repeat (first | (with_reducible exact Keep.refl _ _) | (with_reducible refine Keep.drew ?_) | (with_reducible refine Keep.drewN ?_ _) | (with_reducible refine Keep.alloc ?_ _) | (with_reducible refine Keep.setCell ?_ (by first | (simp; done) | (simp; omega) | (left; dsimp only; omega)) _)))
  clear hw1 hone h0 h1 h2 h3
  have HB := Lib.hid hb1; have HK := Lib.hid K1; have H1 := Lib.hid (H.out.keep0 K1)
  clear hb1 K1
  go_loopg [5] 4 (fun j i wr => ∃ k : Nat, k + j = 4 ∧ i = .int .i64 k ∧ (∀ c, c < k → x ∉ R c) ∧ wr = w1)
  case atStart => exact ⟨0, by omega, rfl, fun c hc => by omega, rfl⟩
  case round =>
    obtain ⟨k, hk, rfl, hne, rfl⟩ := hrel
    have HNE := Lib.hid hne; clear hne
    by_cases hk4 : k < 4
    · have i0 : (k : Int) < 4 := by omega
      have i1 : (0 : Int) ≤ (k : Int) := by omega
      have hlen := total_row R k hk4
      obtain ⟨ao, cap, hv, hcap, hmax⟩ := (H1.out k hk4).shape
      have hcell : wr.cell? ⟨w.heap.size, k, none⟩ = some (.slice ao (R k).length cap) := by rw [cell_at HB.out, box4 hk4, hv]
      have hrd := H1.out k hk4
      rw [hv] at hrd
      have HRD := Lib.hid hrd
      clear hrd hv
      go_wp2_with fail
      go_loopg [6] (R k).length (fun j i wz => ∃ p : Nat, p + j = (R k).length ∧ i = .int .i64 p ∧ (∀ t y, t < p → (R k)[t]? = some y → y ≠ x) ∧ wz = wr)
      case atStart => exact ⟨0, by omega, rfl, fun t y ht => by omega, rfl⟩
      case round =>
        obtain ⟨p, hp, rfl, hnp, hwz⟩ := hrel
        subst hwz
        have HNP := Lib.hid hnp; clear hnp
        by_cases hpl : p < (R k).length
        · obtain ⟨b4, o4, rfl, hb4, hc4⟩ := HRD.out.some (by rw [ints_len]; omega)
          have e4 := hc4 p (.int .i64 (R k)[p]) (by rw [ints_get]; simp [hpl])
          have j0 : (0 : Int) ≤ (p : Int) := by omega
          have j1 : (p : Int) < ((R k).length : Int) := by omega
          clear hc4
          generalize hy : (R k)[p] = y at e4
          by_cases hyx : y = x
          · have hy1 : (y == x) = true := by simp [hyx]
            go_wp2_with fail
            have hin : hasL R x = true := by
              rw [hasL, List.any_eq_true]
              exact ⟨k, by simpa using hk4, by rw [← hyx, ← hy]; simp⟩
            exact hR.out _ _ ⟨by simp [hin], HK.out⟩
          · have hy1 : (y == x) = false := by simp [hyx]
            go_wp2_with fail
            go_roundg ((R k).length - (p + 1))
            case measure => omega
            case rel =>
              refine ⟨p + 1, by omega, by go_num, fun t z ht hz => ?_, by first | trivial | rfl⟩
              by_cases e : t = p
              · subst e
                rw [List.getElem?_eq_getElem hpl, hy] at hz
                cases hz
                exact hyx
              · exact HNP.out t z (by omega) hz
        · have hpe : p = (R k).length := by omega
          go_wp2_with fail
          go_roundg (4 - (k + 1))
          case measure => omega
          case rel =>
            refine ⟨k + 1, by omega, by go_num, fun c hc => ?_, by first | trivial | rfl⟩
            by_cases e : c = k
            · subst e
              intro hm
              obtain ⟨t, ht, hx⟩ := List.getElem_of_mem hm
              exact HNP.out t x (by omega) (by rw [List.getElem?_eq_getElem ht, hx]) rfl
            · exact HNE.out c (by omega)
    · obtain rfl : k = 4 := by omega
      go_wp2_with fail
      have hin : hasL R x = false := by
        rw [hasL, List.any_eq_false]
        intro c hc
        simpa using HNE.out c (by simpa using hc)
      exact hR.out _ _ ⟨by simp [hin], HK.out⟩
end Go.Proofs.Ytgdbccficcgbdaa
