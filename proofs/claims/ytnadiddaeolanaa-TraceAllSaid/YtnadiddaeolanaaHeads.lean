/- The iterator trace.heads. -/
import Derived.Test.YtnadiddaeolanaaClass
import Derived.Test.YtnadiddaeolanaaLay
import Derived.Test.YtnadiddaeolanaaTbl
import Derived.RangeFuncNested
import Derived.RangeFuncBound
import Derived.RangeFuncCalls
import Derived.RangeFuncLeaves
import Derived.Shelf.Abstract
import Derived.Shelf.RegionOpen
import Derived.WalkKit
import Derived.OwnWalkIn
import Derived.TacticsInMore
import Derived.LoopNIn
import Derived.LoopIn
namespace Go.Proofs.Ytnadiddaeolanaa
open Go.RowKit Go.Shelf
attribute [local go_sem] Oper.semAt_some
set_option linter.unusedVariables false
set_option linter.unusedSimpArgs false

/-- Where the headers lie in a block that begins at s, of an entry. -/
def headsL (s : Int) (e : En) : List Int := if e.k = 2 then [s] else if e.k = 1 then (List.range (cellsC e.c)).map fun i : Nat => s + i * wordsC e.c else []
theorem cellsC_le (c : Int) : cellsC c ≤ 16 := by unfold cellsC; repeat (first | omega | split)
theorem wordsC_bd (c : Int) : 0 ≤ wordsC c ∧ wordsC c ≤ 9 := by unfold wordsC; repeat (first | omega | split)

theorem grown_of_keep {w w' : World} (k : Keep [] w w') : w.grownBy w' none := by
  obtain ⟨h1, h2, h3, h4, h5⟩ := k
  refine ⟨?_, ?_, ?_, h4, fun k hk _ => h5 k hk (by simp)⟩ <;> assumption

set_option maxRecDepth 100000 in
theorem trace_heads (l : Lay) (i : Int) (e : En) (w : World) :
    Calls Try.prog 114 #[l.val, .int .i64 i, e.val] w fun x w' => ∃ p q r, x = .returned (.func (.func 139) #[] #[.pointer (some ⟨p, 0, none⟩), .pointer (some ⟨q, 0, none⟩), .pointer (some ⟨r, 0, none⟩)]) ∧
      w'.heap[p]? = some (.cells #[.int .i64 l.t, .int .i64 l.g, .int .i64 l.b] 53 (0, 0)) ∧ w'.heap[q]? = some (.cells #[.int .i64 i] 3 (0, 0)) ∧ w'.heap[r]? = some (.cells #[.int .u8 e.k, .int .u8 e.c, .int .u8 e.r, .int .u8 e.o] 74 (0, 0)) ∧ Keep [] w w' := by
  have hmf : ∀ (fn : Fn) (first cap : Array Value) (w : World), (Instr.makeFunc fn first cap).run Try.prog w = .ok (.func fn first cap) w := fun _ _ _ _ => rfl
  refine calls_abs fun R hR => ?_
  unfold Lay.val En.val
  go_enter Try.func114, Try.ntmps114
  go_wp2_with fail
  exact hR.out _ _ ⟨_, _, _, rfl, alloc_keeps (alloc_keeps (alloc_new _ _ _ rfl) _) _, alloc_keeps (alloc_new _ _ _ (by simp)) _, alloc_new _ _ _ (by simp), (by repeat (first | (with_reducible exact Keep.refl _ _) | (with_reducible refine Keep.drew ?_) | (with_reducible refine Keep.drewN ?_ _) | (with_reducible refine Keep.alloc ?_ _) | (with_reducible refine Keep.setCell ?_ (by first | (simp; done) | (simp; omega) | (left; dsimp only; omega)) _)))⟩

/-- What lies in a block, as the iterator gives it. -/
abbrev HeadOf (hs : List Int) := { x : Int // x ∈ hs }

theorem headsL_two (s : Int) (e : En) (h : e.k = 2) : headsL s e = [s] := by unfold headsL; rw [if_pos h]
theorem headsL_one (s : Int) (e : En) (h : e.k = 1) : headsL s e = (List.range (cellsC e.c)).map fun i : Nat => s + i * wordsC e.c := by unfold headsL; rw [if_neg (by omega), if_pos h]
theorem headsL_none (s : Int) (e : En) (h1 : e.k ≠ 1) (h2 : e.k ≠ 2) : headsL s e = [] := by unfold headsL; rw [if_neg h2, if_neg h1]
theorem headsL_mem (s : Int) (e : En) (h : e.k = 1) (j : Nat) (hj : j < cellsC e.c) : s + j * wordsC e.c ∈ headsL s e := by
  rw [headsL_one s e h]; exact List.mem_map.2 ⟨j, List.mem_range.2 hj, rfl⟩

set_option maxRecDepth 100000 in
set_option maxHeartbeats 4000000 in
theorem heads_stops (n : Nat) (hn : 3 ≤ n) (l : Lay) (hl : l.fits) (i : Int) (e : En) (hu : e.u8) (hs : List Int) (hhs : headsL (l.start i) e = hs) (p q r : Nat) (w : World)
    (h1 : w.heap[p]? = some (.cells #[.int .i64 l.t, .int .i64 l.g, .int .i64 l.b] 53 (0, 0))) (h2 : w.heap[q]? = some (.cells #[.int .i64 i] 3 (0, 0))) (h3 : w.heap[r]? = some (.cells #[.int .u8 e.k, .int .u8 e.c, .int .u8 e.r, .int .u8 e.o] 74 (0, 0))) :
    SeqStopsK (α := HeadOf hs) Fence.wide n Try.prog 139 #[.pointer (some ⟨p, 0, none⟩), .pointer (some ⟨q, 0, none⟩), .pointer (some ⟨r, 0, none⟩)] (fun x => #[.int .i64 x.1]) (fun _ _ => True) (fun xs => xs.map (·.1) = hs) (fun pre => True) 16 w := by
  intro lp J Jx W hW hJ hJx hY h0
  have k1 := Keep.get (Keep.of_below hW) h1 (by simp); have k2 := Keep.get (Keep.of_below hW) h2 (by simp); have k3 := Keep.get (Keep.of_below hW) h3 (by simp)
  have c1 := cell_at k1; have c2 := cell_at k2; have c3 := cell_at k3
  have hst := fun w => layout_start l hl i w
  unfold Lay.val at hst
  refine callsIn_of_wp Try.func139 rfl trivial ?_ rfl
  simp only [Try.ntmps139, List.size_toArray, List.length_cons, List.length_nil, Nat.reduceAdd, Nat.reduceSub, Array.replicate_succ, Array.replicate_zero, List.push_toArray, List.append_toArray, List.nil_append, List.cons_append]
  have hbd : -1 ≤ l.start i ∧ l.start i ≤ 5000 := by
    have := hl.1; have := hl.2.1; have := hl.2.2
    unfold Lay.start spot
    split <;> omega
  have hjk : ∀ (A B : World) (pre : List (HeadOf hs)), J pre A → Keep [] A B → J pre B := fun A B pre hj k => hJ pre A B none hj (grown_of_keep k) (fun r e => by cases e)
  obtain ⟨-, ⟨u3, u4⟩, -, -⟩ := hu
  have hcs := fun w => class_cells e.c w
  have hwd := fun w => class_words e.c w
  have hwc := wordsC_bd e.c
  have hcc := cellsC_le e.c
  have hmem := headsL_mem (l.start i) e
  have htwo := headsL_two (l.start i) e; have hone := headsL_one (l.start i) e; have hnone := headsL_none (l.start i) e
  rw [hhs] at htwo hone hnone hmem
  obtain ⟨k, c, er, eo⟩ := e
  dsimp only at *
  generalize l.start i = st at *
  generalize cellsC c = cn at *
  generalize wordsC c = wn at *
  have HST := Lib.hid hst; have HCS := Lib.hid hcs; have HWD := Lib.hid hwd; have HY := Lib.hid hY; have HJK := Lib.hid hjk; have H1 := Lib.hid hone; have H2 := Lib.hid htwo; have H0 := Lib.hid hnone; have HMEM := Lib.hid hmem
  clear hst hcs hwd hY hjk hone htwo hnone hmem hhs
  gi_wp2

  refine ⟨trivial, (fun h => by cases h), ?_⟩
  refine (callsIn_wide.2 (HST.out _)).mono ?_
  rintro x W2 ⟨rfl, K2⟩
  have c1 := cell_at (K2.get k1 (by simp)); have c2 := cell_at (K2.get k2 (by simp)); have c3 := cell_at (K2.get k3 (by simp))
  have h0 := HJK.out _ _ _ h0 K2
  clear K2 k1 k2 k3
  by_cases hk2 : k = 2
  · subst hk2
    have hhs := H2.out rfl
    have HJ0 := Lib.hid h0
    obtain ⟨fn, tmps, assign, body, hy, hR⟩ := HY.out [] ⟨st, by rw [hhs]; simp⟩ _ h0 (by simp)
    dsimp only at hy
    clear h0
    gi_wp2
    refine ⟨(fun h => by cases h), ?_⟩
    refine hR.mono ?_
    rintro e W3 (⟨rfl, hJ3, hk3⟩ | ⟨rfl, hJx3⟩)
    · gi_wp2
      refine bodyPost_end (results_none rfl _ _ _) rfl ?_
      exact ⟨⟨_, rfl⟩, .inl ⟨[⟨st, _⟩], by show [st] = hs; exact hhs.symm, hJ3⟩⟩
    · gi_wp2
      refine bodyPost_end (results_none rfl _ _ _) rfl ?_
      exact ⟨⟨_, rfl⟩, .inr ⟨_, trivial, hJx3⟩⟩
  have e2 : (k == 2) = false := by simp [hk2]
  by_cases hk1 : k = 1
  · subst hk1
    have HHS := Lib.hid (H1.out rfl)
    have hcc' : IntKind.i64.wrap c = c := by rw [IntKind.wrap_i64]; omega
    have HJ0 := Lib.hid h0
    clear h0
    gi_wp2
    refine ⟨trivial, (fun h => by cases h), ?_⟩
    refine (callsIn_wide.2 (HCS.out _)).mono ?_
    rintro x W3 ⟨rfl, K3⟩
    have h0 := HJK.out _ _ _ HJ0.out K3
    clear K3
    have HJ0 := Lib.hid h0
    clear h0 c1 c2 c3
    gi_wp2
    gi_loopw [25] (fun p wr => ∃ (j : Nat) (pre : List (HeadOf hs)), p = .int .i64 j ∧ j ≤ cn ∧ pre.map (·.1) = ((List.range j).map fun i : Nat => st + i * wn) ∧ J pre wr) (fun p wr => cn - (intOf p).toNat)
    case atStart => exact ⟨0, [], rfl, by omega, rfl, HJ0.out⟩
    case round =>
      obtain ⟨j, pre, rfl, hj, hpre, hJs⟩ := hrel
      by_cases hjn : j < cn
      · have hlen : pre.length = j := by have := congrArg List.length hpre; simp at this; exact this
        have i1 : (j : Int) < cn := by omega
        have hlt16 : pre.length < 16 := by omega
        have hj1 : j + 1 ≤ cn := by omega
        have hms : cn - (j + 1) < cn - j := by omega
        have HJS := Lib.hid hJs; have HPRE := Lib.hid hpre
        clear hJs hpre
        gi_wp2
        refine ⟨trivial, (fun h => by cases h), ?_⟩
        refine (callsIn_wide.2 (HWD.out _)).mono ?_
        rintro x W4 ⟨rfl, K4⟩
        have h4 := HJK.out _ _ _ HJS.out K4
        clear K4
        have hmm : 0 ≤ (j : Int) * wn ∧ (j : Int) * wn ≤ 16 * 9 := by
          constructor
          · exact Int.mul_nonneg (by omega) (by omega)
          · exact Int.le_trans (Int.mul_le_mul_of_nonneg_right (by omega : (j : Int) ≤ 16) hwc.1) (by omega)
        have hmul := HMEM.out


        have hmul := hmul trivial j hjn
        have hnxt : ((List.range j).map fun i : Nat => st + i * wn) ++ [st + (j : Int) * wn] = ((List.range (j + 1)).map fun i : Nat => st + i * wn) := by rw [List.range_succ, List.map_append]; rfl
        have hw1 : wrap64 ((j : Int) * wn) = (j : Int) * wn := by unfold wrap64; omega
        have hw2 : wrap64 (st + (j : Int) * wn) = st + (j : Int) * wn := by unfold wrap64; omega
        have HNX := Lib.hid hnxt
        clear hnxt
        obtain ⟨fn, tmps, assign, body, hy, hR⟩ := HY.out pre ⟨st + (j : Int) * wn, hmul⟩ _ h4 hlt16
        dsimp only at hy
        clear h4 hmm hlen
        gi_wp2
        refine ⟨(fun h => by cases h), ?_⟩
        refine hR.mono ?_
        rintro e W3 (⟨rfl, hJ3, hk3⟩ | ⟨rfl, hJx3⟩)
        · gi_wp2
          have hw3 : wrap64 ((j : Int) + 1) = (j + 1 : Nat) := by unfold wrap64; omega
          go_roundw
          case rel => exact ⟨j + 1, _, by first | go_num | (simp only [hw3]) | (trace_state; fail), hj1, by rw [List.map_append, HPRE.out, ← HNX.out]; rfl, hJ3⟩
          case measure =>
            first
            | (simp only [intOf, hw3]; exact hms)
            | (simp [intOf]; omega)
        · gi_wp2
          refine bodyPost_ret (results_none rfl _ _ _) rfl ?_
          exact ⟨⟨_, rfl⟩, .inr ⟨_, trivial, hJx3⟩⟩
      · obtain rfl : j = cn := by omega
        gi_wp2
        refine bodyPost_end (results_none rfl _ _ _) rfl ?_
        exact ⟨⟨_, rfl⟩, .inl ⟨pre, by rw [hpre]; exact HHS.out.symm, hJs⟩⟩
  have e1 : (k == 1) = false := by simp [hk1]
  gi_wp2
  refine bodyPost_end (results_none rfl _ _ _) rfl ?_
  exact ⟨⟨_, rfl⟩, .inl ⟨[], (H0.out hk1 hk2).symm, h0⟩⟩
end Go.Proofs.Ytnadiddaeolanaa
