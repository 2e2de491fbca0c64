/- The contracts of list's Pop, All, Len. -/
import Derived.Test.YtgdbccficcgbdaaList4
namespace Go.Proofs.Ytgdbccficcgbdaa
open Go.RowKit Go.Shelf
set_option linter.unusedVariables false
set_option linter.unusedSimpArgs false

def popE (L : Nat → List Int) (c : Int) : Int := if inC c then (if L c.toNat = [] then 5 else 0) else 2
def popX (L : Nat → List Int) (c : Int) : Int := if popE L c = 0 then (L c.toNat).getLastD 0 else 0
def popL (L : Nat → List Int) (c : Int) : Nat → List Int := if popE L c = 0 then upd L c.toNat (L c.toNat).dropLast else L

set_option maxRecDepth 100000 in
theorem list_pop_nil (c : Int) (w : World) :
    Calls Try.prog 55 #[.pointer none, .int .i64 c] w fun e w' => e = .returned (.tuple #[.int .i64 0, .int .i64 1]) ∧ w' = w := by
  refine calls_abs fun R hR => ?_
  go_enter Try.func55, Try.ntmps55
  go_wp2_with fail
  refine (list_row_nil c w).mono ?_
  rintro e w' ⟨rfl, rfl⟩
  go_wp2_with fail
  exact hR.out _ _ ⟨rfl, rfl⟩

theorem inC_true {c : Int} (h : inC c = true) : ∃ k : Nat, c = k ∧ k < 4 := ⟨c.toNat, by simp [inC] at h; omega, by simp [inC] at h; omega⟩
theorem inC_false {c : Int} (h : inC c = false) : c < 0 ∨ 4 ≤ c := by simp [inC] at h; omega

set_option maxRecDepth 100000 in
set_option maxHeartbeats 1000000 in
theorem list_pop {w : World} {b : Nat} {V : Nat → Value} {L : Nat → List Int} (h : Lst w b V L) (hs : total L ≤ 100000) (c : Int) :
    Calls Try.prog 55 #[.pointer (some ⟨b, 0, none⟩), .int .i64 c] w fun e w' => e = .returned (.tuple #[.int .i64 (popX L c), .int .i64 (popE L c)]) ∧ ListTo w w' b V (popL L c) := by
  refine calls_abs fun R hR => ?_
  have H := Lib.hid h
  have hbl := lt_of_block h.head
  clear h
  cases hc : inC c with
  | false =>
    have hc' := inC_false hc
    have hp : popE L c = 2 := by simp [popE, hc]
    have hx : popX L c = 0 := by simp [popX, hp]
    go_enter Try.func55, Try.ntmps55
    go_wp2_with fail
    refine (list_row_out b c hc' w).mono ?_
    rintro e w' ⟨rfl, rfl⟩
    go_wp2_with fail
    exact hR.out _ _ ⟨by simp [hp, hx], by rw [popL, if_neg (by omega)]; exact ListTo.same H.out (Keep.refl _ _)⟩
  | true =>
    obtain ⟨k, rfl, hk⟩ := inC_true hc
    have hcell := H.out.cell k hk
    have hrow := row_of_owns (H.out.rows k hk)
    have hfr := frozen_at H.out.head
    have hlen := total_row L k hk
    by_cases hnil : L k = []
    · have hp : popE L k = 5 := by simp [popE, hc, hnil]
      have hx : popX L k = 0 := by simp [popX, hp]
      obtain ⟨ao, cap, hv⟩ : ∃ ao cap, V k = .slice ao 0 cap := by
        rcases hrow with ⟨hv, _⟩ | ⟨g, cap, hv, _⟩
        · exact ⟨_, _, hv⟩
        · rw [hnil] at hv; exact ⟨_, _, hv⟩
      rw [hv] at hcell
      go_enter Try.func55, Try.ntmps55
      go_wp2_with fail
      refine (list_row b k k rfl hk w).mono ?_
      rintro e w' ⟨rfl, rfl⟩
      go_wp2_with fail
      exact hR.out _ _ ⟨by simp [hp, hx], by rw [popL, if_neg (by omega)]; exact ListTo.same H.out (Keep.refl _ _)⟩
    · rcases hrow with ⟨_, _, hn⟩ | ⟨g, cap, hv, hrow⟩
      · exact absurd hn hnil
      obtain ⟨xs, x, hxs⟩ : ∃ xs x, L k = xs ++ [x] := ⟨(L k).dropLast, (L k).getLast hnil, (List.dropLast_concat_getLast hnil).symm⟩
      have hp : popE L k = 0 := by simp [popE, hc, hnil]
      have hx : popX L k = x := by simp [popX, hp, hxs]
      have hpl : popL L k = upd L k xs := by simp [popL, hp, hxs]
      rw [hv] at hcell
      rw [hxs] at hcell hrow hlen
      rw [hxs] at hv
      simp only [List.length_append, List.length_singleton] at hcell hrow hlen hv
      have hbg := H.out.row_above hk (by rw [hv]; rfl)
      have e1 := hrow.cell xs.length (by simp)
      simp at e1
      have htake := hrow.take xs.length (by omega)
      rw [show (xs ++ [x]).take xs.length = xs from by simp] at htake
      have hfit := hrow.fits
      have hw1 : IntKind.i64.wrap ((xs.length : Int) + 1 - 1) = (xs.length : Int) := by rw [IntKind.wrap_i64]; omega
      have i0 : (0 : Int) ≤ (xs.length : Int) := by omega
      have i1 : (xs.length : Int) < ((xs.length + 1 : Nat) : Int) := by omega
      have i2 : (xs.length : Int) ≤ (cap : Int) := by omega
      have HT := Lib.hid htake
      clear htake hrow hnil
      generalize hq : xs.length = q at *
      go_enter Try.func55, Try.ntmps55
      go_wp2_with fail
      refine (list_row b k k rfl hk w).mono ?_
      rintro e w' ⟨rfl, rfl⟩
      go_wp2_with fail
      have hgl : (Value.slice (some ⟨g, 0, none⟩) (q + 1) cap).ownBlock = some g := rfl
      refine hR.out _ _ ⟨by simp [hp, hx], upd V k (.slice (some ⟨g, 0, none⟩) q cap), ?_, (Keep.refl _ _).setCell (p := ⟨b, k, none⟩) (.inr (by simp [lblocks])) _, fun g' hg => ?_⟩
      · rw [hpl]
        have ho := HT.out.owns
        refine H.out.put k hk _ xs (S := []) (Keep.refl _ _) (by simp) (fun _ _ _ _ _ => by simp) (by rw [hq]; exact ho) (fun d g' hd hne hg' h => ?_)
        simp [Value.ownBlock] at h
        subst h
        exact hne (H.out.apart d k g hd hk hg' (by rw [hv]; rfl))
      · left
        rcases mem_lblocks.1 hg with rfl | ⟨d, hd, hg⟩
        · simp [lblocks]
        · by_cases e : d = k
          · subst e
            rw [upd_same] at hg
            simp [Value.ownBlock] at hg
            subst hg
            exact mem_lblocks.2 (.inr ⟨d, hd, by rw [hv]; rfl⟩)
          · rw [upd_other _ _ _ _ e] at hg
            exact mem_lblocks.2 (.inr ⟨d, hd, hg⟩)

def allL (L : Nat → List Int) (c : Int) : List Int := if inC c then (L c.toNat).reverse else []

set_option maxRecDepth 100000 in
theorem slices_reverse_none (w : World) :
    Calls Try.prog 79 #[.slice none 0 0] w fun e w' => e = .returned (.tuple #[]) ∧ w' = w := by
  refine calls_abs fun R hR => ?_
  go_enter Try.func79, Try.ntmps79
  go_wp2_with fail
  go_loopg [2, 3] 0 (fun j i jj wr => i = .int .i64 0 ∧ jj = .int .i64 (-1) ∧ wr = w)
  case atStart => exact ⟨rfl, rfl, rfl⟩
  case round =>
    obtain ⟨rfl, rfl, rfl⟩ := hrel
    go_wp2_with fail
    refine bodyPost_end (v := .tuple #[]) ?_ rfl ?_
    · kernel_rfl
    exact hR.out _ _ ⟨rfl, rfl⟩

set_option maxRecDepth 100000 in
theorem list_all_nil (c : Int) (w : World) :
    Calls Try.prog 63 #[.pointer none, .int .i64 c] w fun e w' => e = .returned (.slice none 0 0) ∧ w' = w := by
  refine calls_abs fun R hR => ?_
  go_enter Try.func63, Try.ntmps63
  go_wp2_with fail
  refine (list_row_nil c w).mono ?_
  rintro e w' ⟨rfl, rfl⟩
  go_wp2_with fail
  exact hR.out _ _ ⟨rfl, rfl⟩

set_option maxRecDepth 100000 in
set_option maxHeartbeats 1000000 in
/-- All: a row of the call's own. -/
theorem list_all {w : World} {b : Nat} {V : Nat → Value} {L : Nat → List Int} (h : Lst w b V L) (hs : total L ≤ 100000) (c : Int) :
    Calls Try.prog 63 #[.pointer (some ⟨b, 0, none⟩), .int .i64 c] w fun e w' => ∃ v, e = .returned v ∧ w'.ownsRow w.heap.size 3 1 v (allL L c).length (ints (allL L c)) ∧ Keep [] w w' := by
  refine calls_abs fun R hR => ?_
  have H := Lib.hid h
  have hbl := lt_of_block h.head
  clear h
  cases hc : inC c with
  | false =>
    have hc' := inC_false hc
    have ha : allL L c = [] := by simp [allL, hc]
    go_enter Try.func63, Try.ntmps63
    go_wp2_with fail
    refine (list_row_out b c hc' w).mono ?_
    rintro e w' ⟨rfl, rfl⟩
    go_wp2_with fail
    exact hR.out _ _ ⟨_, rfl, by rw [ha]; exact World.ownsRow_nil _ _ _ _, Keep.refl _ _⟩
  | true =>
    obtain ⟨k, rfl, hk⟩ := inC_true hc
    have ha : allL L k = (L k).reverse := by simp [allL, hc]
    have hcell := H.out.cell k hk
    have hrd := Rd.of_owns (H.out.rows k hk) (by simp [ints, Value.oneCell'])
    have hlen := total_row L k hk
    have hsh := hrd.shape
    obtain ⟨ao, cap, hv, _, _⟩ := hsh
    rw [hv] at hcell hrd
    have HRD := Lib.hid hrd
    clear hrd
    go_enter Try.func63, Try.ntmps63
    go_wp2_with fail
    refine (list_row b k k rfl hk w).mono ?_
    rintro e w' ⟨rfl, rfl⟩
    go_wp2_with fail
    refine (slices_clone HRD.out rfl (by omega)).mono ?_
    rintro e w2 ⟨v, rfl, O2, K2⟩
    have HK2 := Lib.hid K2
    clear K2
    rcases row_of_owns O2 with ⟨rfl, hn0, hnil⟩ | ⟨g, cap2, rfl, hrow⟩
    · go_wp2_with fail
      refine (slices_reverse_none w2).mono ?_
      rintro e w3 ⟨rfl, rfl⟩
      go_wp2_with fail
      exact hR.out _ _ ⟨_, rfl, by rw [ha, hnil]; exact World.ownsRow_nil _ _ _ _, HK2.out⟩
    · have HROW := Lib.hid hrow
      clear hrow O2
      go_wp2_with fail
      refine (slices_reverse HROW.out (by omega)).mono ?_
      rintro e w3 ⟨rfl, R3, K3⟩
      have HR3 := Lib.hid R3; have HK3 := Lib.hid K3
      clear R3 K3
      go_wp2_with fail
      refine hR.out _ _ ⟨.slice (some ⟨g, 0, none⟩) (L k).length cap2, by simp, ?_, HK2.out.fresh HK3.out (by have := HROW.out.above; simp; omega)⟩
      rw [ha]
      have := HR3.out.owns
      rw [show (L k).reverse.length = (L k).length from by simp]
      exact this

set_option maxRecDepth 100000 in
theorem list_len {w : World} {b : Nat} {V : Nat → Value} {L : Nat → List Int} (h : Lst w b V L) (hs : total L ≤ 100000) (c : Int) :
    Calls Try.prog 64 #[.pointer (some ⟨b, 0, none⟩), .int .i64 c] w fun e w' => e = .returned (.int .i64 ((allL L c).length : Nat)) ∧ Keep [] w w' := by
  refine calls_abs fun R hR => ?_
  have H := Lib.hid h
  clear h
  go_enter Try.func64, Try.ntmps64
  go_wp2_with fail
  refine (list_all H.out hs c).mono ?_
  rintro e w2 ⟨v, rfl, O2, K2⟩
  obtain ⟨ao, cap, rfl, _, _⟩ := owns_val O2
  have HK2 := Lib.hid K2
  clear K2 O2
  go_wp2_with fail
  exact hR.out _ _ ⟨by simp, HK2.out⟩
set_option maxRecDepth 100000 in
theorem list_len_nil (c : Int) (w : World) :
    Calls Try.prog 64 #[.pointer none, .int .i64 c] w fun e w' => e = .returned (.int .i64 0) ∧ w' = w := by
  refine calls_abs fun R hR => ?_
  go_enter Try.func64, Try.ntmps64
  go_wp2_with fail
  refine (list_all_nil c w).mono ?_
  rintro e w2 ⟨rfl, rfl⟩
  go_wp2_with fail
  exact hR.out _ _ ⟨rfl, rfl⟩
end Go.Proofs.Ytgdbccficcgbdaa
