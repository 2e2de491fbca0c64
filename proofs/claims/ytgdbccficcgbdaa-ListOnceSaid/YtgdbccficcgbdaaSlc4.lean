/- The contract of slices.DeleteFunc with list.Drop's own function. -/
import Derived.Test.YtgdbccficcgbdaaSlc3
namespace Go.Proofs.Ytgdbccficcgbdaa
open Go.RowKit
set_option linter.unusedVariables false
set_option linter.unusedSimpArgs false

def left (lo hi : Int) (xs : List Int) : List Int := xs.filter fun x => !btw lo hi x
theorem zero_int (w : World) : (zeroValue 3).run Try.prog w = .ok (.int .i64 0) w := by kernel_rfl

theorem left_none {lo hi : Int} {xs : List Int} (h : ∀ p, p < xs.length → btw lo hi (xs.getD p 0) = false) : left lo hi xs = xs := by
  unfold left
  refine List.filter_eq_self.2 fun x hx => ?_
  obtain ⟨p, hp, rfl⟩ := List.getElem_of_mem hx
  have := h p hp
  simp [hp] at this
  simp [this]
theorem left_take_succ {lo hi : Int} {xs : List Int} {j : Nat} (hj : j < xs.length) : left lo hi (xs.take (j + 1)) = if btw lo hi xs[j] then left lo hi (xs.take j) else left lo hi (xs.take j) ++ [xs[j]] := by
  unfold left
  rw [List.take_succ_eq_append_getElem hj, List.filter_append]
  cases h : btw lo hi xs[j] <;> simp [h]
theorem left_len_le (lo hi : Int) (xs : List Int) : (left lo hi xs).length ≤ xs.length := List.length_filter_le _ _

set_option maxRecDepth 100000 in
set_option maxHeartbeats 4000000 in
theorem slices_deletefunc {w : World} {base g n cap f t c : Nat} {xs : List Int} {lo hi : Int} {k0 : Nat} (h : Row w base g n cap xs) (hd : Dropping w f t c lo hi k0) (hc : c ≠ g) (hf : f ≠ g) (ht : t ≠ g) (hk0 : k0 + n < 1000000) (hs : n ≤ 100000) :
    Calls Try.prog 77 #[.slice (some ⟨g, 0, none⟩) n cap, .func (.func 75) #[] #[.pointer (some ⟨f, 0, none⟩), .pointer (some ⟨t, 0, none⟩), .pointer (some ⟨c, 0, none⟩)]] w fun e w' =>
      e = .returned (.slice (some ⟨g, 0, none⟩) (left lo hi xs).length cap) ∧ Row w' base g (left lo hi xs).length cap (left lo hi xs) ∧ Dropping w' f t c lo hi (k0 + (n - (left lo hi xs).length)) ∧ Keep [c, g] w w' := by
  refine calls_abs fun R hR => ?_
  have H := Lib.hid h; have HD := Lib.hid hd
  have hl := h.len
  have hfit := h.fits
  have hix := Lib.hid (slices_indexfunc h hd hc (by omega) hs)
  clear h hd
  have hF := Try.call75
  have hcl := fun (w : World) => Go.Lib.run_clear_slice (P := Try.prog) w 28 3
  go_enter Try.func77, Try.ntmps77
  go_wp2_with fail
  refine hix.out.mono ?_
  rintro e w2 ⟨⟨i0, hi0, hp0, hn0, rfl, D2⟩ | ⟨hn0, rfl, D2⟩, K2⟩
  rotate_left
  · have hleft : left lo hi xs = xs := left_none (fun p hp => hn0 p (by omega))
    have HD2 := Lib.hid D2; have HK2 := Lib.hid K2
    clear D2 K2 hn0
    go_wp2_with fail
    refine hR.out _ _ ⟨?_, ?_, ?_, HK2.out.mono (by simp)⟩
    · simp [hleft, hl]
    · rw [hleft, hl]; exact H.out.keep HK2.out (by simp; exact fun h => hc h.symm)
    · rw [hleft, hl]; simpa using HD2.out
  · have HD2 := Lib.hid D2; have HK2 := Lib.hid K2; have HN := Lib.hid hn0
    clear D2 K2 hn0
    have i1 : ((i0 : Int) == -1) = false := by simp
    have hw1 : IntKind.i64.wrap ((i0 : Int) + 1) = ((i0 + 1 : Nat) : Int) := by rw [IntKind.wrap_i64]; omega
    have hl0 : left lo hi (xs.take (i0 + 1)) = xs.take i0 := by
      rw [left_take_succ (by omega)]
      have h1 : btw lo hi xs[i0] = true := by simpa [show i0 < xs.length from by omega] using hp0
      rw [if_pos h1]
      refine left_none fun p hp => ?_
      simp at hp
      have := HN.out p (by omega)
      simpa [show p < i0 from by omega, show p < xs.length from by omega, List.getElem?_take] using this
    go_wp2_with fail
    go_loopg [5, 6] (n - (i0 + 1)) (fun m i jj wr => ∃ (j : Nat) (ys : List Int), j + m = n ∧ i0 < j ∧ j ≤ n ∧ i = .int .i64 ((left lo hi (xs.take j)).length : Nat) ∧ jj = .int .i64 j ∧ Row wr base g n cap ys ∧ ys.take (left lo hi (xs.take j)).length = left lo hi (xs.take j) ∧ ys.drop j = xs.drop j ∧
      (left lo hi (xs.take j)).length < j ∧ Dropping wr f t c lo hi (k0 + (j - (left lo hi (xs.take j)).length)) ∧ Keep [c, g] w wr)
    case atStart =>
      have hlen0 : (xs.take i0).length = i0 := by simp; omega
      refine ⟨i0 + 1, xs, by omega, by omega, by omega, ?_, by go_num, H.out.keep HK2.out (by simp; exact fun h => hc h.symm), ?_, rfl, ?_, ?_, HK2.out.mono (by simp)⟩
      · rw [hl0, hlen0]
      · rw [hl0, hlen0]
      · rw [hl0, hlen0]; omega
      · rw [hl0, hlen0, show k0 + (i0 + 1 - i0) = k0 + 1 from by omega]; exact HD2.out
    case round =>
      obtain ⟨j, ys, hj, hij, hjn, rfl, rfl, hrow, hys, hydrop, hlt, hdr, hkeep⟩ := hrel
      have HR := Lib.hid hrow; have HDR := Lib.hid hdr; have HK := Lib.hid hkeep; have HY1 := Lib.hid hys; have HY2 := Lib.hid hydrop
      have hyl := hrow.len
      clear hrow hdr hkeep hys hydrop
      generalize hq : (left lo hi (xs.take j)).length = q at *
      by_cases hjl : j < n
      · have hyj : ys[j]'(by omega) = xs[j]'(by omega) := by
          have := congrArg (fun l => l[0]?) HY2.out
          simp at this
          rw [List.getElem?_eq_getElem (by omega), List.getElem?_eq_getElem (by omega)] at this
          simpa using this
        have e4 := HR.out.cell j (by omega)
        have f4 := HR.out.frozen
        have hsucc := left_take_succ (lo := lo) (hi := hi) (show j < xs.length from by omega)
        rw [hyj] at e4
        have HSU := Lib.hid hsucc
        clear hsucc hyj
        generalize hxk : xs[j]'(by omega) = xk at e4 HSU
        have q0 : (0 : Int) ≤ (j : Int) := by omega
        have q1 : (j : Int) < (n : Int) := by omega
        have q2 : (0 : Int) ≤ (q : Int) := by omega
        have q3 : (q : Int) < (n : Int) := by omega
        go_wp2_with fail
        refine (list_goes HDR.out (by omega) xk).mono ?_
        rintro e w3 ⟨rfl, D3, K3⟩
        have HD3 := Lib.hid D3; have HK3 := Lib.hid (HK.out.trans (K3.mono (by simp)))
        have HR3 := Lib.hid (HR.out.keep K3 (by simp; exact fun h => hc h.symm))
        have f5 := HR3.out.frozen
        have e5 := HR3.out.cell q (by omega)
        clear D3 K3
        cases hp : btw lo hi xk with
        | true =>
          rw [hp] at HD3 HSU
          go_wp2_with fail
          go_roundg (n - (j + 1))
          case measure => omega
          case rel =>
            have hs := HSU.out
            simp only [if_true] at hs
            refine ⟨j + 1, ys, by omega, by omega, by omega, ?_, by go_num, HR3.out, ?_, ?_, ?_, ?_, HK3.out⟩
            · rw [hs, hq]
            · rw [hs, hq]; exact HY1.out
            · have := congrArg (List.drop 1) HY2.out
              simpa [List.drop_drop, Nat.add_comm] using this
            · rw [hs, hq]; omega
            · rw [hs, hq]
              have := HD3.out
              simpa [show k0 + (j + 1 - q) = k0 + (j - q) + 1 from by omega] using this
        | false =>
          rw [hp] at HD3 HSU
          go_wp2_with fail
          go_roundg (n - (j + 1))
          case measure => omega
          case rel =>
            have hs := HSU.out
            simp only [Bool.false_eq_true, if_false] at hs
            have hql : (left lo hi (xs.take j) ++ [xk]).length = q + 1 := by simp [hq]
            refine ⟨j + 1, ys.set q xk, by omega, by omega, by omega, ?_, by go_num, HR3.out.set q xk (by omega), ?_, ?_, ?_, ?_, ?_⟩
            · rw [hs, hql]; go_num
            · rw [hs, hql, ← HY1.out]
              apply List.ext_getElem?
              intro p
              simp only [List.getElem?_take, List.getElem?_set, List.getElem?_append, List.length_take]
              by_cases hp1 : p < q
              · rw [if_pos (by omega), if_neg (by omega), if_pos (by omega), if_pos hp1]
              · by_cases hp2 : p = q
                · subst hp2
                  rw [if_pos (by omega), if_pos rfl, if_pos (by omega), if_neg (by omega)]
                  simp [show min p ys.length = p from by omega]
                · rw [if_neg (by omega), if_neg (by omega), List.getElem?_eq_none (by simp; omega)]
            · have := congrArg (List.drop 1) HY2.out
              rw [List.drop_set_of_lt (by omega)]
              simpa [List.drop_drop, Nat.add_comm] using this
            · rw [hs, hql]; omega
            · rw [hs, hql, show j + 1 - (q + 1) = j - q from by omega]
              refine Dropping.keep (S := [g]) HD3.out (by repeat (first | (with_reducible exact Keep.refl _ _) | (with_reducible refine Keep.drew ?_) | (with_reducible refine Keep.drewN ?_ _) | (with_reducible refine Keep.alloc ?_ _) | (with_reducible refine Keep.setCell ?_ (by first | (simp; done) | (simp; omega) | (left; dsimp only; omega)) _))) (by simpa using hf) (by simpa using ht) (by simpa using hc)
            · ((repeat (first | (with_reducible exact HK3.out) | (with_reducible refine Keep.drew ?_) | (with_reducible refine Keep.drewN ?_ _) | (with_reducible refine Keep.alloc ?_ _) | ((with_reducible refine Keep.setCell ?_ ?_ _); rotate_left; focus (first | (simp; done) | (simp; omega) | (left; dsimp only; omega))))); done)
      · have hjn2 : j = n := by omega
        subst hjn2
        have htake : xs.take j = xs := by rw [← hl]; exact List.take_length
        rw [htake] at hq
        have q2 : (0 : Int) ≤ (q : Int) := by omega
        have q3 : (q : Int) ≤ (j : Int) := by omega
        have q4 : ¬ q = j := by omega
        have q5 : (q : Int) ≤ (cap : Int) := by omega
        have q6 : (j : Int) ≤ (cap : Int) := by omega
        have hc5 : (Builtin.clear_ #[28] 0 #[.slice (some ⟨g, q, none⟩) (j - q) (cap - q)]).run Try.prog wr = .ok (.tuple #[]) (wr.setCells g q (List.replicate (j - q) (.int .i64 0))) :=
          Go.Lib.run_clear_slice wr 28 3 0 (.int .i64 0) Try.underlying28 zero_int rfl rfl g q (j - q) (cap - q) (by omega) (fun p hp => by rw [HR.out.cell (q + p) (by omega)]; rfl) (fun p hp => HR.out.frozen _)
        go_wp2_with fail
        refine hR.out _ _ ⟨by simp [hq], ?_, ?_, ?_⟩
        · have h1 := HR.out.clear q (by omega) (List.replicate (j - q) (.int .i64 0))
          have h2 := HY1.out
          rw [htake] at h2
          rw [h2] at h1
          rw [hq]
          exact h1
        · rw [hq]
          refine Dropping.keep (S := [g]) HDR.out (Keep.setCells (by simp) _ _ (Keep.refl _ _)) (by simpa using hf) (by simpa using ht) (by simpa using hc)
        · exact Keep.setCells (by simp) _ _ HK.out
end Go.Proofs.Ytgdbccficcgbdaa
