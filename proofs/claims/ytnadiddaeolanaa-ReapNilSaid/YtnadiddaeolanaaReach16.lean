/- The contracts of demesneref16: Reached, Published. -/
import Derived.Test.YtnadiddaeolanaaRef16
namespace Go.Proofs.Ytnadiddaeolanaa
open Go.RowKit
set_option linter.unusedVariables false
set_option linter.unusedSimpArgs false

/-- What Local objects lead to, from a place on. -/
inductive Reach (W : List Int) (n : Int) : Nat → Prop where
  | base (i : Nat) (hi : n = i) (h : isLoc (rdz W i) = true) : Reach W n i
  | step (i j k : Nat) (h : Reach W n i) (hk : k < (refsAt W i).length) (hv : (refsAt W i)[k] = j) (h0 : j ≠ 0) (hl : isLoc (rdz W j) = true) : Reach W n j
theorem loc_lt {W : List Int} {i : Nat} (h : isLoc (rdz W i) = true) : i < W.length := by
  have := loc_in h
  simp [inr] at this
  omega
theorem Reach.lt {W : List Int} {n : Int} {i : Nat} (h : Reach W n i) : i < W.length := by
  cases h with
  | base _ _ h => exact loc_lt h
  | step _ _ _ _ _ _ _ h => exact loc_lt h

def bools (B : List Bool) : List Value := B.map Value.bool
theorem bools_len (B : List Bool) : (bools B).length = B.length := by simp [bools]
theorem bools_get (B : List Bool) (i : Nat) : (bools B)[i]? = B[i]?.map Value.bool := by simp [bools]
theorem Try.info4 : (Try.prog.info? 4).map (fun i => (i.zero, i.size, i.bytes)) = some (some (.bool false), 1, 1) := by kernel_rfl
def cellsB (B : List Bool) : Array Value := (B.map Value.bool).toArray
theorem cellsB_get (B : List Bool) (i : Nat) : (cellsB B)[i]? = B[i]?.map Value.bool := by simp [cellsB]
theorem cellsB_set (B : List Bool) (i : Nat) (v : Bool) : (cellsB B).setIfInBounds i (.bool v) = cellsB (B.set i v) := by simp [cellsB, List.map_set]
theorem make_bool (n : Nat) (h : n ≤ 4096) (w : World) : (Instr.makeSlice 95 (.int .i64 n) (.int .i64 n)).run Try.prog w = .ok (.slice (some ⟨w.heap.size, 0, none⟩) n n) (w.alloc (.cells (cellsB (List.replicate n false)) 4)) := by
  obtain ⟨i0, hi, hz0, hz1, hz2⟩ := info_parts Try.info4
  have h := run_make (P := Try.prog) w 95 4 i0 _ Try.underlying95 hi hz0 .i64 .i64 n n (by omega) (by omega) (by rw [hz2]; omega) (by omega)
  simp only [Int.toNat_natCast, hz1, Nat.mul_one] at h
  rw [h, show (Value.bool false).cells = #[.bool false] from rfl]
  rw [show madeCells #[.bool false] n = cellsB (List.replicate n false) from by apply Array.ext'; rw [toList_madeCells_one]; simp [cellsB]]

/-- Slice g of bools. -/
def BRow (w : World) (g : Nat) (B : List Bool) : Prop := w.heap[g]? = some (.cells (cellsB B) 4 (0, 0))
theorem BRow.cell {w : World} {g : Nat} {B : List Bool} (h : BRow w g B) (i : Nat) (hi : i < B.length) : w.cell? ⟨g, i, none⟩ = some (.bool B[i]) := by
  rw [cell_at h, cellsB_get, List.getElem?_eq_getElem hi]; rfl
theorem BRow.put {w : World} {g : Nat} {B : List Bool} (h : BRow w g B) (i : Nat) (v : Bool) : BRow (w.setCell ⟨g, i, none⟩ (.bool v)) g (B.set i v) := by
  unfold BRow; rw [put_at h, cellsB_set]

def falses (B : List Bool) : Nat := B.countP fun b => !b
theorem falses_set {B : List Bool} {i : Nat} (hi : i < B.length) (h : B[i] = false) : falses (B.set i true) + 1 = falses B := by
  unfold falses
  rw [List.countP_set hi, h]
  have : 0 < B.countP (fun b => !b) := List.countP_pos_iff.2 ⟨_, List.getElem_mem hi, by simp [h]⟩
  simp
  omega
theorem falses_le (B : List Bool) : falses B ≤ B.length := List.countP_le_length
/-- Are all that the first i rows lead to there? -/
def ClosedTo (W : List Int) (B : List Bool) (i : Nat) : Prop := ∀ p, p < i → B[p]? = some true → ∀ (k : Nat) (hk : k < (refsAt W p).length), ∀ j : Nat, (refsAt W p)[k] = j → j ≠ 0 → isLoc (rdz W j) = true → B[j]? = some true

theorem refsAt_words {W : List Int} (hW : Words W) (n : Int) (k : Nat) (hk : k < (refsAt W n).length) : 0 ≤ (refsAt W n)[k] ∧ (refsAt W n)[k] < 18446744073709551616 := by
  simp only [refsAt, List.getElem_map]
  exact hW _

set_option maxRecDepth 100000 in
set_option maxHeartbeats 4000000 in
theorem ref16_reached {w : World} {v0 : Value} {m : Nat} {W : List Int} (h : Rd w v0 m (u64s W)) (hm : W.length = m) (hsm : m ≤ 4096) (hW : Words W) (n : Int) :
    Calls Try.prog 81 #[v0, .int .i64 n] w fun e w' => ∃ (g : Nat) (B : List Bool), e = .returned (.slice (some ⟨g, 0, none⟩) m m) ∧ BRow w' g B ∧ B.length = m ∧ (∀ i : Nat, i < m → (B[i]? = some true ↔ Reach W n i)) ∧ w.heap.size ≤ g ∧ Keep [] w w' := by
  refine calls_abs fun R hR => ?_
  obtain ⟨ao, cap, rfl, hcap, hmax⟩ := h.shape
  have H := Lib.hid h
  have HW := Lib.hid hW
  have HM := Lib.hid hm
  clear h hW
  have hmk := fun w => make_bool m hsm w
  go_enter Try.func81, Try.ntmps81
  go_wp2_with fail
  obtain ⟨g, hg⟩ : ∃ g, g = w.heap.size := ⟨_, rfl⟩
  simp only [← hg]
  generalize hw1 : World.alloc w _ = w1
  have b1 : BRow w1 g (List.replicate m false) := by rw [← hw1, hg]; exact alloc_new _ _ _ rfl
  have K1 : Keep [] w w1 := by rw [← hw1]; exact (by repeat (first | (with_reducible exact Keep.refl _ _) | (with_reducible refine Keep.drew ?_) | (with_reducible refine Keep.drewN ?_ _) | (with_reducible refine Keep.alloc ?_ _) | (with_reducible refine Keep.setCell ?_ (by first | (simp; done) | (simp; omega) | (left; dsimp only; omega)) _)))
  have HG := Lib.hid hg
  clear hw1 hg
  refine (ref16_local (H.out.keep K1 (fun _ _ => by simp)) hm HW.out n).mono ?_
  rintro e w2 ⟨rfl, K2⟩
  have HB2 := Lib.hid (show BRow w2 g _ from K2.get b1 (by simp)); have HK2 := Lib.hid (K1.trans K2)
  clear K1 K2 b1
  cases hl : isLoc (rdz W n) with
  | false =>
    unfold Hd.val
    generalize takeH (rdz W n) = d
    go_wp2_with fail
    refine hR.out _ _ ⟨g, _, rfl, show BRow _ g _ from alloc_keeps HB2.out _, by simp, fun i hi => ⟨fun h => ?_, fun h => ?_⟩, by have := HG.out; omega, by ((repeat (first | (with_reducible exact HK2.out) | (with_reducible refine Keep.drew ?_) | (with_reducible refine Keep.drewN ?_ _) | (with_reducible refine Keep.alloc ?_ _) | ((with_reducible refine Keep.setCell ?_ ?_ _); rotate_left; focus (first | (simp; done) | (simp; omega) | (left; dsimp only; omega))))); done)⟩
    · simp [hi] at h
    · exfalso
      induction h with
      | base i hq h => rw [hq] at hl; rw [hl] at h; cases h
      | step i j k h hk hv h0 hl2 ih => exact ih (by have := h.lt; rw [HM.out] at this; exact this)
  | true =>
    obtain ⟨i0, rfl, hlt⟩ := inr_true (loc_in hl)
    have hfr := frozen_at HB2.out
    have cg : w2.cell? ⟨g, i0, none⟩ = some (.bool false) := by rw [HB2.out.cell i0 (by simp; omega)]; simp
    have j0 : (0 : Int) ≤ (i0 : Int) := by omega
    have j1 : (i0 : Int) < (m : Int) := by omega
    have HLOC := Lib.hid hl
    have lg := lt_of_block HB2.out
    clear hl
    unfold Hd.val
    generalize takeH (rdz W i0) = d
    go_wp2_with fail
    generalize hw3 : World.alloc _ _ = w3
    have HB3 : Hid (BRow w3 g ((List.replicate m false).set i0 true)) := by
      rw [← hw3]; exact alloc_keeps (BRow.put HB2.out i0 true) _
    have HK3 := Lib.hid (show Keep [g] w2 w3 from by rw [← hw3]; exact (by repeat (first | (with_reducible exact Keep.refl _ _) | (with_reducible refine Keep.drew ?_) | (with_reducible refine Keep.drewN ?_ _) | (with_reducible refine Keep.alloc ?_ _) | (with_reducible refine Keep.setCell ?_ (by first | (simp; done) | (simp; omega) | (left; dsimp only; omega)) _))))
    clear hw3 hfr cg
    have hstart : falses ((List.replicate m false).set i0 true) ≤ m := by
      have := falses_le ((List.replicate m false).set i0 true); simpa using this
    have HR0 : Hid (Reach W i0 i0) := Reach.base i0 rfl HLOC.out
    go_loopg [8] (falses ((List.replicate m false).set i0 true) + 1) (fun j mo wr => ∃ (B : List Bool) (more : Bool), mo = .bool more ∧ BRow wr g B ∧ B.length = m ∧ (falses B + (if more then 1 else 0)) = j ∧ Keep [g] w2 wr ∧ B[i0]? = some true ∧ (∀ i : Nat, B[i]? = some true → Reach W i0 i) ∧ (more = false → ClosedTo W B m))
    case atStart =>
      refine ⟨_, true, rfl, HB3.out, by simp, rfl, HK3.out, by rw [List.getElem?_set]; simp; omega, fun i hi => ?_, fun h => by cases h⟩
      rw [List.getElem?_set] at hi
      split at hi
      · rename_i e; subst e; exact HR0.out
      · rw [List.getElem?_replicate] at hi; split at hi <;> simp at hi
    case round =>
      obtain ⟨B, more, rfl, hB, hBl, hf, hkw, hB0, hS, hC⟩ := hrel
      have HBR := Lib.hid hB; have HBL := Lib.hid hBl; have HKW := Lib.hid hkw; have HB0 := Lib.hid hB0; have HS := Lib.hid hS; have HC := Lib.hid hC; have HF := Lib.hid hf
      clear hB hBl hkw hB0 hS hC hf
      cases more with
      | false =>
        go_wp2_with fail
        refine hR.out _ _ ⟨g, B, by simp, HBR.out, HBL.out, fun i hi => ⟨HS.out i, fun h => ?_⟩, by have := HG.out; omega, HK2.out.fresh HKW.out (by have := HG.out; simp; omega)⟩
        have hcl := HC.out (by simp)
        clear hi
        induction h with
        | base i hi h => have : i0 = i := by omega
                         subst this; exact HB0.out
        | step i j k h hk hv h0 hl2 ih => exact hcl i (by have := h.lt; rw [HM.out] at this; exact this) ih k hk j hv h0 hl2
      | true =>
        obtain rfl : gk = falses B + 1 := by have := HF.out; simp at this; omega
        generalize hfb : falses B = fb at *
        have HF1 := Lib.hid hfb
        clear hfb HF HC
        go_wp2_with fail
        go_loopg [8, 9] m (fun j mo iv wr => ∃ (q : Nat) (B : List Bool) (more : Bool), q + j = m ∧ iv = .int .i64 q ∧ mo = .bool more ∧ BRow wr g B ∧ B.length = m ∧ falses B + (if more then 1 else 0) < fb + 1 ∧ Keep [g] w2 wr ∧ B[i0]? = some true ∧ (∀ i : Nat, B[i]? = some true → Reach W i0 i) ∧ (more = false → ClosedTo W B q))
        case atStart => exact ⟨0, B, false, by omega, rfl, rfl, HBR.out, HBL.out, by have := HF1.out; simp; omega, HKW.out, HB0.out, HS.out, fun _ p hp => by omega⟩
        case round =>
          clear HBR HBL HKW HB0 HS HF1
          obtain ⟨q, B1, more1, hq, rfl, rfl, hB, hBl, hf, hkw, hB0, hS, hC⟩ := hrel
          have HBR := Lib.hid hB; have HBL := Lib.hid hBl; have HKW := Lib.hid hkw; have HB0 := Lib.hid hB0; have HS := Lib.hid hS; have HC := Lib.hid hC; have HF := Lib.hid hf
          clear hB hBl hkw hB0 hS hC hf
          by_cases hqm : q < m
          · have q0 : (0 : Int) ≤ (q : Int) := by omega
            have q1 : (q : Int) < (m : Int) := by omega
            have hql : q < B1.length := by rw [HBL.out]; exact hqm
            have cq := HBR.out.cell q hql
            have hbq : Hid (B1[q]? = some B1[q]) := List.getElem?_eq_getElem hql
            generalize B1[q] = bq at cq hbq
            cases bq with
            | false =>
              go_wp2_with fail
              go_roundg (m - (q + 1))
              case measure => omega
              case rel =>
                refine ⟨q + 1, B1, more1, by omega, by go_num, rfl, HBR.out, HBL.out, HF.out, HKW.out, HB0.out, HS.out, fun hm p hp hbp => ?_⟩
                by_cases e : p = q
                · subst e; rw [hbq.out] at hbp; cases hbp
                · exact HC.out hm p (by omega) hbp
            | true =>
              have HRQ := Lib.hid (HS.out q hbq.out)
              go_wp2_with fail
              refine (ref16_refs (((H.out.keep HK2.out (fun _ _ => by simp)).keep HKW.out (fun x hx => ?_))) hm hsm HW.out q hqm).mono ?_
              · have := HG.out
                have hlt2 : x < w.heap.size := by
                  obtain ⟨bb, oo, hao, hbb, _⟩ := H.out.some (by rw [u64s_len, HM.out]; omega)
                  subst hao
                  simp [Value.ownBlock] at hx
                  omega
                simp; omega
              rintro e w4 ⟨v4, rfl, O4, K4⟩
              obtain ⟨av, cv, rfl, _, _⟩ := owns_val O4
              have hg4 : ∀ x, (Value.slice av (refsAt W q).length cv).ownBlock = some x → x ≠ g := fun x hx => by
                have := owns_block O4 x hx
                have := lt_of_block HBR.out
                omega
              have HG4 := Lib.hid hg4
              have HR4 := Lib.hid (Rd.of_owns O4 (by simp [u64s, Value.oneCell'])); have HB4 := Lib.hid (show BRow w4 g B1 from K4.get HBR.out (by simp)); have HK4 := Lib.hid (HKW.out.trans (K4.mono (by simp)))
              have hrl : (refsAt W q).length ≤ 127 := by
                rw [refsAt_len]
                have := takeH_refs (rdz W q) (HW.out q).1
                omega
              clear O4 K4 cq hg4
              generalize hrn : (refsAt W q).length = r at *
              have HRN := Lib.hid hrn
              clear hrn
              go_wp2_with fail
              go_loopg [8, 11] r (fun j mo iv wr => ∃ (k : Nat) (B : List Bool) (more : Bool), k + j = r ∧ iv = .int .i64 k ∧ mo = .bool more ∧ BRow wr g B ∧ B.length = m ∧ falses B + (if more then 1 else 0) < fb + 1 ∧ Keep [g] w4 wr ∧ B[i0]? = some true ∧ (∀ i : Nat, B[i]? = some true → Reach W i0 i) ∧ (more = false → ClosedTo W B q ∧ ∀ k', k' < k → ∀ (hk : k' < (refsAt W q).length), ∀ j : Nat, (refsAt W q)[k'] = j → j ≠ 0 → isLoc (rdz W j) = true → B[j]? = some true))
              case atStart => exact ⟨0, B1, more1, by omega, rfl, rfl, HB4.out, HBL.out, HF.out, Keep.refl _ _, HB0.out, HS.out, fun h => ⟨HC.out h, fun k' hk' => by omega⟩⟩
              case round =>
                clear HBR HBL HKW HB0 HS HF HC HB4 hbq hql
                obtain ⟨k, B2, more2, hk, rfl, rfl, hB, hBl, hf, hkw, hB0, hS, hC⟩ := hrel
                have HBR := Lib.hid hB; have HBL := Lib.hid hBl; have HKW := Lib.hid hkw; have HB0 := Lib.hid hB0; have HS := Lib.hid hS; have HC := Lib.hid hC; have HF := Lib.hid hf
                clear hB hBl hkw hB0 hS hC hf
                by_cases hkr : k < r
                · have k0 : (0 : Int) ≤ (k : Int) := by omega
                  have k1 : (k : Int) < (r : Int) := by omega
                  have hkl : k < (refsAt W q).length := by rw [HRN.out]; exact hkr
                  have HKL := Lib.hid hkl
                  obtain ⟨b5, o5, rfl, hb5, hc5⟩ := (HR4.out.keep HKW.out (fun x hx => by have := HG4.out x hx; simpa using this)).some (by rw [u64s_len, HRN.out]; omega)
                  have e5 := hc5 k (.int .u64 (refsAt W q)[k]) (by rw [u64s_get, List.getElem?_eq_getElem hkl]; rfl)
                  have hw5 := refsAt_words HW.out q k hkl
                  have hlast : ∀ B3 : List Bool, (∀ j : Nat, (refsAt W q)[k] = j → j ≠ 0 → isLoc (rdz W j) = true → B3[j]? = some true) → (∀ k', k' < k → ∀ (hk : k' < (refsAt W q).length), ∀ j : Nat, (refsAt W q)[k'] = j → j ≠ 0 → isLoc (rdz W j) = true → B3[j]? = some true) → ∀ k', k' < k + 1 → ∀ (hk : k' < (refsAt W q).length), ∀ j : Nat, (refsAt W q)[k'] = j → j ≠ 0 → isLoc (rdz W j) = true → B3[j]? = some true := fun B3 h1 h2 k' hk' => by
                    by_cases e : k' = k
                    · subst e; exact fun _ => h1
                    · exact h2 k' (by omega)
                  have HLAST := Lib.hid hlast
                  have hstep : ∀ j : Nat, (refsAt W q)[k] = j → j ≠ 0 → isLoc (rdz W j) = true → Reach W i0 j := fun j hj h0 hl => Reach.step q j k HRQ.out hkl hj h0 hl
                  have HSTEP := Lib.hid hstep
                  clear hlast hstep hc5
                  generalize (refsAt W q)[k]'hkl = v at *
                  clear hkl
                  by_cases hv0 : v = 0
                  · subst hv0
                    go_wp2_with fail
                    go_roundg (r - (k + 1))
                    case measure => omega
                    case rel => exact ⟨k + 1, B2, more2, by omega, by go_num, rfl, HBR.out, HBL.out, HF.out, HKW.out, HB0.out, HS.out, fun h => ⟨(HC.out h).1, HLAST.out B2 (fun j hj h0 _ => absurd hj (by omega)) (HC.out h).2⟩⟩
                  · have v0 : (v == 0) = false := by simp [hv0]
                    have hwm : IntKind.u64.wrap (m : Int) = m := wrap_u64_small (by omega) (by omega)
                    by_cases hvm : (m : Int) ≤ v
                    · have HVM := Lib.hid hvm
                      go_wp2_with fail
                      go_roundg (r - (k + 1))
                      case measure => omega
                      case rel =>
                        refine ⟨k + 1, B2, more2, by omega, by go_num, rfl, HBR.out, HBL.out, HF.out, HKW.out, HB0.out, HS.out, fun h => ⟨(HC.out h).1, HLAST.out B2 (fun j hj h0 hl => ?_) (HC.out h).2⟩⟩
                        have := loc_lt hl
                        have h2 := HM.out
                        have := HVM.out
                        omega
                    · obtain ⟨jv, rfl⟩ : ∃ j : Nat, v = j := ⟨v.toNat, by omega⟩
                      have hw64 : IntKind.i64.wrap (jv : Int) = jv := by rw [IntKind.wrap_i64]; omega
                      have hjm : jv < m := by omega
                      have jv0 : (0 : Int) ≤ (jv : Int) := by omega
                      have jv1 : (jv : Int) < (m : Int) := by omega
                      have HV0 := Lib.hid hv0
                      clear hv0
                      go_wp2_with fail
                      refine (ref16_local (((H.out.keep HK2.out (fun _ _ => by simp)).keep (HK4.out.trans HKW.out) (fun x hx => ?_))) hm HW.out jv).mono ?_
                      · have := HG.out
                        have hlt2 : x < w.heap.size := by
                          obtain ⟨bb, oo, hao, hbb, _⟩ := H.out.some (by rw [u64s_len, HM.out]; omega)
                          subst hao
                          simp [Value.ownBlock] at hx
                          omega
                        simp; omega
                      rintro e w6 ⟨rfl, K6⟩
                      have HB6 := Lib.hid (show BRow w6 g B2 from K6.get HBR.out (by simp)); have HK6 := Lib.hid (HKW.out.trans (K6.mono (by simp)))
                      have e6 := K6.cell e5 (by simp)
                      have hjb : jv < B2.length := by rw [HBL.out]; exact hjm
                      have c6 := HB6.out.cell jv hjb
                      have f6 := frozen_at HB6.out
                      have l6 := lt_of_block HB6.out
                      have l66 := World.block_lt_of_cell? w6 _ e6
                      have hbj : Hid (B2[jv]? = some B2[jv]) := List.getElem?_eq_getElem hjb
                      have hset : B2[jv] = false → falses (B2.set jv true) + 1 = falses B2 := falses_set hjb
                      have HJB := Lib.hid hjb
                      clear K6 e5
                      have hne5 : ¬ b5 = g := fun e => HG4.out b5 rfl e
                      have hne6 : ¬ g = b5 := fun e => hne5 e.symm
                      generalize hbb : B2[jv]'hjb = bj at c6 hbj hset
                      clear hbb hjb
                      unfold Hd.val
                      generalize takeH (rdz W jv) = dj
                      cases hlj : isLoc (rdz W jv) with
                      | false =>
                        have HLJ := Lib.hid hlj
                        clear hlj
                        go_wp2_with fail
                        go_roundg (r - (k + 1))
                        case measure => omega
                        case rel =>
                          refine ⟨k + 1, B2, more2, by omega, by go_num, rfl, alloc_keeps HB6.out _, HBL.out, HF.out, by ((repeat (first | (with_reducible exact HK6.out) | (with_reducible refine Keep.drew ?_) | (with_reducible refine Keep.drewN ?_ _) | (with_reducible refine Keep.alloc ?_ _) | ((with_reducible refine Keep.setCell ?_ ?_ _); rotate_left; focus (first | (simp; done) | (simp; omega) | (left; dsimp only; omega))))); done), HB0.out, HS.out, fun h => ⟨(HC.out h).1, HLAST.out B2 (fun j hj h0 hl => ?_) (HC.out h).2⟩⟩
                          obtain rfl : jv = j := by omega
                          rw [HLJ.out] at hl; cases hl
                      | true =>
                        have HLJ := Lib.hid hlj
                        clear hlj
                        cases bj with
                        | true =>
                          go_wp2_with fail
                          go_roundg (r - (k + 1))
                          case measure => omega
                          case rel =>
                            refine ⟨k + 1, B2, more2, by omega, by go_num, rfl, alloc_keeps HB6.out _, HBL.out, HF.out, by ((repeat (first | (with_reducible exact HK6.out) | (with_reducible refine Keep.drew ?_) | (with_reducible refine Keep.drewN ?_ _) | (with_reducible refine Keep.alloc ?_ _) | ((with_reducible refine Keep.setCell ?_ ?_ _); rotate_left; focus (first | (simp; done) | (simp; omega) | (left; dsimp only; omega))))); done), HB0.out, HS.out, fun h => ⟨(HC.out h).1, HLAST.out B2 (fun j hj h0 hl => ?_) (HC.out h).2⟩⟩
                            obtain rfl : jv = j := by omega
                            exact hbj.out
                        | false =>
                          have hfs := hset rfl
                          have HFS := Lib.hid hfs
                          clear hset hfs
                          go_wp2_with fail
                          go_roundg (r - (k + 1))
                          case measure => omega
                          case rel =>
                            refine ⟨k + 1, B2.set jv true, true, by omega, by go_num, rfl, alloc_keeps (HB6.out.put jv true) _, by rw [List.length_set]; exact HBL.out, by have := HFS.out; have := HF.out; revert this; cases more2 <;> simp <;> omega, by ((repeat (first | (with_reducible exact HK6.out) | (with_reducible refine Keep.drew ?_) | (with_reducible refine Keep.drewN ?_ _) | (with_reducible refine Keep.alloc ?_ _) | ((with_reducible refine Keep.setCell ?_ ?_ _); rotate_left; focus (first | (simp; done) | (simp; omega) | (left; dsimp only; omega))))); done), ?_, fun i hi => ?_, fun h => by cases h⟩
                            · rw [List.getElem?_set]; split
                              · rename_i e; subst e; rw [if_pos HJB.out]
                              · exact HB0.out
                            · rw [List.getElem?_set] at hi
                              split at hi
                              · rename_i e; subst e
                                exact HSTEP.out jv rfl (fun e => HV0.out (by omega)) HLJ.out
                              · exact HS.out i hi
                · have hke : k = r := by omega
                  go_wp2_with fail
                  go_roundg (m - (q + 1))
                  case measure => omega
                  case rel =>
                    refine ⟨q + 1, B2, more2, by omega, by go_num, rfl, HBR.out, HBL.out, HF.out, HK4.out.trans HKW.out, HB0.out, HS.out, fun hm p hp hbp => ?_⟩
                    by_cases e : p = q
                    · subst e
                      intro k' hk'
                      exact (HC.out hm).2 k' (by have := HRN.out; omega) hk'
                    · exact (HC.out hm).1 p (by omega) hbp
          · have hqe : q = m := by omega
            subst hqe
            go_wp2_with fail
            go_roundg (falses B1 + (if more1 then 1 else 0))
            case measure => exact HF.out
            case rel => exact ⟨B1, more1, rfl, HBR.out, HBL.out, rfl, HKW.out, HB0.out, HS.out, HC.out⟩
end Go.Proofs.Ytnadiddaeolanaa
