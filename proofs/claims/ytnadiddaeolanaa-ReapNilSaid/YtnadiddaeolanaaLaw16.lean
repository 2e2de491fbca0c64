/- The laws of stage 16: Made, Same. -/
import Derived.Test.YtnadiddaeolanaaPublish5
import Derived.Test.YtnadiddaeolanaaOpen
import Derived.Deep.LoopGhost
namespace Go.Proofs.Ytnadiddaeolanaa
open Go.RowKit
set_option linter.unusedVariables false
set_option linter.unusedSimpArgs false

def u64s (xs : List Int) : List Value := xs.map (Value.int .u64)
theorem u64s_get (xs : List Int) (i : Nat) : (u64s xs)[i]? = xs[i]?.map (Value.int .u64) := by simp [u64s]
theorem u64s_len (xs : List Int) : (u64s xs).length = xs.length := by simp [u64s]

set_option maxRecDepth 100000 in
set_option maxHeartbeats 2000000 in
theorem law16_made {w : World} {v0 : Value} {n : Nat} {xs : List Int} (h : Rd w v0 n (u64s xs)) (hn : xs.length = n) (h1 : 1 ≤ n) (h2 : n ≤ 4096) :
    Calls Try.prog 15 #[v0] w fun e w' => ∃ b g t l, e = .returned (.pointer (some ⟨b, 0, none⟩)) ∧ Arn w' b g xs t l ∧ Keep [] w w' ∧ w.heap.size ≤ b ∧ w.heap.size ≤ g := by
  refine calls_abs fun R hR => ?_
  obtain ⟨ao, cap, rfl, hcap, hmax⟩ := h.shape
  have H := Lib.hid h
  clear h
  go_enter Try.func15, Try.ntmps15
  go_wp2_with fail
  refine (arena_new n n rfl h1 h2 _).mono ?_
  rintro e w1 ⟨b, g, rfl, A1, K1, hb, hg⟩
  have HA1 := Lib.hid A1; have HK1 := Lib.hid K1; have HB := Lib.hid hb; have HG := Lib.hid hg
  clear A1 K1 hb hg
  go_wp2_with fail
  go_loopg [5] n (fun j i wr => ∃ (k : Nat) (W : List Int) (t l : Int), k + j = n ∧ i = .int .i64 k ∧ Arn wr b g W t l ∧ W.length = n ∧ (∀ p, p < k → W[p]? = xs[p]?) ∧ Keep [] w wr)
  case atStart => exact ⟨0, _, _, _, by omega, rfl, HA1.out, by simp, fun p hp => by omega, HK1.out⟩
  case round =>
    obtain ⟨k, W, t, l, hk, rfl, hA, hWl, hW, hKw⟩ := hrel
    have HA := Lib.hid hA; have HW := Lib.hid hW; have HKW := Lib.hid hKw
    have hsm := hA.small
    clear hA hW hKw
    by_cases hkn : k < n
    · obtain ⟨b4, o4, rfl, hb4, hc4⟩ := (H.out.keep HKW.out (fun _ _ => by simp)).some (by rw [u64s_len]; omega)
      have hkx : k < xs.length := by omega
      have e4 := hc4 k (.int .u64 xs[k]) (by rw [u64s_get]; simp [hkx])
      have i0 : (0 : Int) ≤ (k : Int) := by omega
      have i1 : (k : Int) < (n : Int) := by omega
      have hx : xs[k]? = some xs[k] := List.getElem?_eq_getElem hkx
      clear hc4
      generalize xs[k] = x at e4 hx
      go_wp2_with fail
      refine (arena_write HA.out k k rfl (by omega) x).mono ?_
      rintro e w2 ⟨rfl, A2, K2⟩
      have HA2 := Lib.hid A2; have HK2 := Lib.hid (HKW.out.fresh K2 (by have := HB.out; have := HG.out; simp; omega))
      clear A2 K2
      go_wp2_with fail
      go_roundg (n - (k + 1))
      case measure => omega
      case rel =>
        refine ⟨k + 1, W.set k x, _, _, by omega, by go_num, HA2.out, by simpa using hWl, fun p hp => ?_, HK2.out⟩
        rw [List.getElem?_set]
        by_cases e : k = p
        · subst e
          rw [if_pos rfl, if_pos (by omega), hx]
        · rw [if_neg e]
          exact HW.out p (by omega)
    · have hke : k = n := by omega
      go_wp2_with fail
      have hxs : W = xs := by
        apply List.ext_getElem?
        intro p
        by_cases hp : p < n
        · exact HW.out p (by omega)
        · rw [List.getElem?_eq_none (by omega), List.getElem?_eq_none (by omega)]
      exact hR.out _ _ ⟨b, g, t, l, rfl, by rw [← hxs]; exact HA.out, HKW.out, HB.out, HG.out⟩

set_option maxRecDepth 100000 in
set_option maxHeartbeats 2000000 in
theorem law16_same {w : World} {b g : Nat} {W : List Int} {t l : Int} (hA : Arn w b g W t l) {v0 : Value} {n : Nat} {xs : List Int} (h : Rd w v0 n (u64s xs)) (hn : xs.length = n) :
    Calls Try.prog 16 #[.pointer (some ⟨b, 0, none⟩), v0] w fun e w' => e = .returned (.bool (decide (W = xs))) ∧ Keep [] w w' := by
  refine calls_abs fun R hR => ?_
  obtain ⟨ao, cap, rfl, hcap, hmax⟩ := h.shape
  have H := Lib.hid h; have HA := Lib.hid hA
  clear h hA
  go_enter Try.func16, Try.ntmps16
  go_wp2_with fail
  refine (arena_all HA.out).mono ?_
  rintro e w1 ⟨a1, c1, rfl, R1, K1, F1⟩
  have HR1 := Lib.hid R1; have HK1 := Lib.hid K1; have H1 := Lib.hid (H.out.keep K1 (fun _ _ => by simp))
  clear R1 K1 F1
  by_cases hl : W.length = n
  · have hl1 : ((W.length : Int) == (n : Int)) = true := by simp [hl]
    have hsm : n ≤ 4096 := by have := HA.out.small; omega
    have hlb : (((W.length : Nat) : Int) != (n : Int)) = false := by simp [hl]
    go_wp2_with fail
    go_loopg [6] n (fun j i wr => ∃ k : Nat, k + j = n ∧ i = .int .i64 k ∧ (∀ p, p < k → W[p]? = xs[p]?) ∧ ∃ nq, wr = w1.drewN nq)
    case atStart => exact ⟨0, by omega, rfl, fun p hp => by omega, 0, rfl⟩
    case round =>
      obtain ⟨k, hk, rfl, hW, nq, rfl⟩ := hrel
      have HW := Lib.hid hW
      clear hW
      by_cases hkn : k < n
      · obtain ⟨b4, o4, rfl, hb4, hc4⟩ := HR1.out.some (by rw [List.length_map]; omega)
        obtain ⟨b5, o5, rfl, hb5, hc5⟩ := H1.out.some (by rw [u64s_len]; omega)
        have hkw : k < W.length := by omega
        have hkx : k < xs.length := by omega
        have e4 := hc4 k (.int .u64 W[k]) (by simp [hkw])
        have e5 := hc5 k (.int .u64 xs[k]) (by rw [u64s_get]; simp [hkx])
        have i0 : (0 : Int) ≤ (k : Int) := by omega
        have i1 : (k : Int) < (n : Int) := by omega
        have i2 : (k : Int) < (W.length : Int) := by omega
        have hx : xs[k]? = some xs[k] := List.getElem?_eq_getElem hkx
        have hy : W[k]? = some W[k] := List.getElem?_eq_getElem hkw
        clear hc4 hc5
        generalize xs[k] = x at e5 hx
        generalize W[k] = y at e4 hy
        by_cases hxy : y = x
        · subst hxy
          go_wp2_with fail
          go_quiet (fail)
          go_wp2_with fail
          go_roundg (n - (k + 1))
          case measure => omega
          case rel =>
            refine ⟨k + 1, by omega, by go_num, fun p hp => ?_, _, rfl⟩
            by_cases e : p = k
            · subst e; rw [hx, hy]
            · exact HW.out p (by omega)
        · have q1 : (y == x) = false := by simp [hxy]
          have q2 : (y != x) = true := by simp [hxy]
          have hne : ¬ W = xs := fun e => hxy (by rw [e, hx] at hy; cases hy; rfl)
          clear hxy hx hy
          go_wp2_with fail
          go_quiet (fail)
          go_wp2_with fail
          exact hR.out _ _ ⟨by simp [hne], by ((repeat (first | (with_reducible exact HK1.out) | (with_reducible refine Keep.drew ?_) | (with_reducible refine Keep.drewN ?_ _) | (with_reducible refine Keep.alloc ?_ _) | ((with_reducible refine Keep.setCell ?_ ?_ _); rotate_left; focus (first | (simp; done) | (simp; omega) | (left; dsimp only; omega))))); done)⟩
      · have hke : k = n := by omega
        have hlx : ¬ (k : Int) < (W.length : Int) := by omega
        go_wp2_with fail
        have hxs : W = xs := by
          apply List.ext_getElem?
          intro p
          by_cases hp : p < n
          · exact HW.out p (by omega)
          · rw [List.getElem?_eq_none (by omega), List.getElem?_eq_none (by omega)]
        exact hR.out _ _ ⟨by simp [hxs], by ((repeat (first | (with_reducible exact HK1.out) | (with_reducible refine Keep.drew ?_) | (with_reducible refine Keep.drewN ?_ _) | (with_reducible refine Keep.alloc ?_ _) | ((with_reducible refine Keep.setCell ?_ ?_ _); rotate_left; focus (first | (simp; done) | (simp; omega) | (left; dsimp only; omega))))); done)⟩
  · have hl1 : ((W.length : Int) == (n : Int)) = false := by simp; omega
    go_wp2_with fail
    refine hR.out _ _ ⟨?_, HK1.out⟩
    have : ¬ W = xs := fun e => hl (by rw [e, hn])
    simp [this]
end Go.Proofs.Ytnadiddaeolanaa
