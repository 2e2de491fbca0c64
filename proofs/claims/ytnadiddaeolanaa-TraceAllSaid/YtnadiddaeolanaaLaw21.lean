/- Layer 21's statements: where cells lie. -/
import Derived.Test.YtnadiddaeolanaaRef03
namespace Go.Proofs.Ytnadiddaeolanaa
open Go.RowKit
set_option linter.unusedVariables false
set_option linter.unusedSimpArgs false

def u8s (xs : List Int) : List Value := xs.map (Value.int .u8)
theorem u8s_get (xs : List Int) (i : Nat) : (u8s xs)[i]? = xs[i]?.map (Value.int .u8) := by simp [u8s]
theorem u8s_len (xs : List Int) : (u8s xs).length = xs.length := by simp [u8s]
/-- Where the cells of a block lie; of all blocks. -/
def cellsAt (l : Lay) (b : Nat) (c : Int) : List Int := (startsC c).map fun s => l.start b + s
def allS (l : Lay) (bl : List Int) (n : Nat) : List Int := (List.range n).flatMap fun b : Nat => cellsAt l b (bl.getD b 0)
theorem allS_succ (l : Lay) (bl : List Int) (n : Nat) : allS l bl (n + 1) = allS l bl n ++ cellsAt l n (bl.getD n 0) := by unfold allS; rw [List.range_succ, List.flatMap_append]; simp
theorem cellsAt_len (l : Lay) (b : Nat) (c : Int) : (cellsAt l b c).length = cellsC c := by simp [cellsAt, startsC_len]
theorem allS_len (l : Lay) (bl : List Int) (n : Nat) : (allS l bl n).length ≤ 16 * n := by
  induction n with
  | zero => simp [allS]
  | succ n ih => rw [allS_succ, List.length_append, cellsAt_len]; have := cellsC_le (bl.getD n 0); omega
theorem startsC_get (c : Int) (i : Nat) (h : i < cellsC c) : (startsC c)[i]? = some ((i : Int) * wordsC c) := by unfold startsC; rw [List.getElem?_map, List.getElem?_range h]; rfl
theorem startsC_bd (c : Int) (s : Int) (h : s ∈ startsC c) : 0 ≤ s ∧ s + wordsC c ≤ 32 := by
  obtain ⟨i, hi, rfl⟩ := List.mem_map.1 h
  have hi := List.mem_range.1 hi
  rcases class_fits c with ⟨h1, h2⟩ | ⟨h1, h2⟩
  · omega
  · exact ⟨Int.mul_nonneg (by omega) (by omega), (h2 i).1 hi⟩
theorem wordsC_pos (c : Int) (s : Int) (h : s ∈ startsC c) : 2 ≤ wordsC c := by
  obtain ⟨i, hi, rfl⟩ := List.mem_map.1 h
  have hi := List.mem_range.1 hi
  unfold cellsC at hi
  unfold wordsC
  repeat' split
  all_goals first | omega | simp_all

set_option maxRecDepth 100000 in
set_option maxHeartbeats 8000000 in
theorem law21_starts (l : Lay) (hl : l.fits) (bv : Value) (bl : List Int) (hbl : bl.length ≤ 6) (hu : ∀ x ∈ bl, 0 ≤ x ∧ x ≤ 255) (hlb : bl.length ≤ l.b) (w : World) (hr : Rd w bv bl.length (u8s bl)) :
    Calls Try.prog 54 #[l.val, bv] w fun x w' => ∃ v, x = .returned v ∧ w'.ownsRow w.heap.size 3 1 v (allS l bl bl.length).length (intsV (allS l bl bl.length)) ∧ Keep [] w w' := by
  refine calls_abs fun R hR => ?_
  have mixed : Try.prog.follows .mixedOrders = true := by kernel_rfl
  obtain ⟨ab, capb, rfl, hcb1, hcb2⟩ := hr.shape
  have hst := fun (b : Nat) (hb : b < l.b) => start_bd l hl b hb
  have hstc := fun i w => ref06_start l hl i w
  have hval : l.val = .agg #[.int .i64 l.t, .int .i64 l.g, .int .i64 l.b] := rfl
  rw [hval] at hstc ⊢
  have HR := Lib.hid hr; have HSB := Lib.hid hst; have HST := Lib.hid hstc
  clear hr hst hstc hval hl
  go_enter Try.func54, Try.ntmps54
  go_wp2_with fail
  obtain ⟨z, hz⟩ : ∃ z, z = w.heap.size := ⟨_, rfl⟩
  simp only [← hz]
  generalize hw1 : World.alloc _ _ = w1
  have b1 : w1.heap[z]? = some (.cells #[.int .i64 l.t, .int .i64 l.g, .int .i64 l.b] 88 (0, 0)) := by rw [← hw1]; exact alloc_new _ _ _ hz
  have K1 : Keep [] w w1 := by rw [← hw1]; exact (by repeat (first | (with_reducible exact Keep.refl _ _) | (with_reducible refine Keep.drew ?_) | (with_reducible refine Keep.drewN ?_ _) | (with_reducible refine Keep.alloc ?_ _) | (with_reducible refine Keep.setCell ?_ (by first | (simp; done) | (simp; omega) | (left; dsimp only; omega)) _)))
  have hR1 := HR.out.keep K1 (fun _ _ => by simp)
  have HB1 := Lib.hid b1; have HK1 := Lib.hid K1; have HR1 := Lib.hid hR1; have HZ := Lib.hid hz
  have hs1 : w1.heap.size = z + 1 := by rw [← hw1, hz]; simp
  have HS1 := Lib.hid hs1
  clear hw1 b1 K1 hz hR1 hs1
  go_loopg [5, 6] bl.length (fun j s i wr => ∃ (b : Nat) (ao : Option Addr) (cap : Nat), b + j = bl.length ∧ i = .int .i64 b ∧ s = .slice ao (allS l bl b).length cap ∧ wr.ownsRow (z + 1) 3 1 (.slice ao (allS l bl b).length cap) (allS l bl b).length (intsV (allS l bl b)) ∧ Keep [] w1 wr)
  case atStart => exact ⟨0, none, 0, by omega, rfl, rfl, World.ownsRow_nil _ _ _ _, Keep.refl _ _⟩
  case round =>
    obtain ⟨b, ao, cap, hbj, rfl, rfl, how, hk⟩ := hrel
    by_cases hbn : b < bl.length
    · have i1 : (b : Int) < bl.length := by omega
      have i0 : (0 : Int) ≤ (b : Int) := by omega
      have hbc : bl[b]? = some (bl.getD b 0) := by rw [List.getD_eq_getElem?_getD, List.getElem?_eq_getElem hbn]; rfl
      have hr2 := HR1.out.keep hk (fun _ _ => by simp)
      obtain ⟨a, o, rfl, hlt, hcells⟩ := hr2.some (by rw [u8s_len]; omega)
      have hcell := hcells b _ (by rw [u8s_get, hbc]; rfl)
      have hcu : 0 ≤ bl.getD b 0 ∧ bl.getD b 0 ≤ 255 := hu _ (by rw [List.getD_eq_getElem?_getD, List.getElem?_eq_getElem hbn]; exact List.getElem_mem hbn)
      have hsb := HSB.out b (by omega)
      have hsucc := allS_succ l bl b
      have hcl := cellsAt_len l b (bl.getD b 0)
      have hnl := allS_len l bl b
      have hcb := cellsC_le (bl.getD b 0)
      have hin := fun (i : Nat) (h : i < cellsC (bl.getD b 0)) => (show (startsC (bl.getD b 0))[i]? = some ((i : Int) * wordsC (bl.getD b 0)) ∧ (cellsAt l b (bl.getD b 0))[i]? = some (l.start b + (i : Int) * wordsC (bl.getD b 0)) ∧ 0 ≤ (i : Int) * wordsC (bl.getD b 0) ∧ (i : Int) * wordsC (bl.getD b 0) ≤ 32 by
        have h1 := startsC_get (bl.getD b 0) i h
        have h2 := startsC_bd (bl.getD b 0) _ (List.mem_of_getElem? h1)
        have h3 := wordsC_bd (bl.getD b 0)
        exact ⟨h1, by unfold cellsAt; rw [List.getElem?_map, h1]; rfl, h2.1, by omega⟩)
      have hsl := startsC_len (bl.getD b 0)
      have hstart := fun w => HST.out b w
      have hstc := fun w => ref03_starts (bl.getD b 0) w
      generalize bl.getD b 0 = c at *
      generalize startsC c = sc at *
      generalize cellsAt l b c = ca at *
      generalize cellsC c = C at *
      generalize l.start b = st at *
      have hcw : IntKind.i64.wrap c = c := by rw [IntKind.wrap_i64]; omega
      have HOW := Lib.hid how; have HK := Lib.hid hk; have HSU := Lib.hid hsucc; have HIN := Lib.hid hin; have HSC := Lib.hid hstart; have HSTC := Lib.hid hstc; have HSL := Lib.hid hsl; have HCL := Lib.hid hcl
      clear how hk hsucc hin hstart hstc hr2 hcells hsl hcl hbc
      generalize hN : (allS l bl b).length = N at *
      have HN := Lib.hid hN
      clear hN
      go_wp2_with fail
      refine (HSTC.out wr).mono ?_
      rintro e w2 ⟨vs, rfl, hos, K2⟩
      have hrs := Rd.of_owns hos (by intro u hu; obtain ⟨x, _, rfl⟩ := List.mem_map.1 hu; rfl)
      have hvs := owns_block hos
      obtain ⟨asl, caps, rfl, -, -⟩ := owns_val hos
      have how2 := K2.owns HOW.out (fun _ _ => by simp)
      have hob := owns_block HOW.out
      have HOW2 := Lib.hid how2; have HK2 := Lib.hid (HK.out.trans K2); have HRS := Lib.hid hrs; have HVS := Lib.hid hvs; have HOB := Lib.hid hob
      clear hos hrs hvs K2 how2 hob hcell
      go_wp2_with fail
      go_loopg [5, 8] C (fun j s i wq => ∃ (q : Nat) (ao : Option Addr) (cap : Nat), q + j = C ∧ i = .int .i64 q ∧ s = .slice ao (N + q) cap ∧ wq.ownsRow (z + 1) 3 1 (.slice ao (N + q) cap) (N + q) (intsV (allS l bl b ++ ca.take q)) ∧ Keep [] w1 wq ∧ Rd wq (.slice asl C caps) C (intsV sc) ∧ ∀ g, (Value.slice ao (N + q) cap).ownBlock = some g → (Value.slice asl C caps).ownBlock ≠ some g)
      case atStart => exact ⟨0, ao, cap, by omega, rfl, rfl, by simpa using HOW2.out, HK2.out, HRS.out, fun g hg he => by have h1 := (HVS.out g he).1; have h2 := (HOB.out g hg).2; omega⟩
      case round =>
        obtain ⟨q, ao, cap, hqj, rfl, rfl, how, hk, hrs, hne⟩ := hrel
        by_cases hqC : q < C
        · obtain ⟨e1, e2, e3, e4⟩ := HIN.out q hqC
          have j1 : (q : Int) < C := by omega
          have j0 : (0 : Int) ≤ (q : Int) := by omega
          obtain ⟨gs, os, rfl, hgl, hgc⟩ := hrs.some (by rw [intsV_len, HSL.out]; omega)
          have hgq := hgc q _ (by rw [intsV_get, e1]; rfl)
          have htk : ca.take (q + 1) = ca.take q ++ [st + (q : Int) * wordsC c] := by rw [List.take_add_one, e2]; rfl
          have hb2 := hk.get HB1.out (by simp)
          have c2 := cell_at hb2; have l2 := lt_of_block hb2
          have D0 : Hid (wr.cell? ⟨z, 0, none⟩ = some (.int .i64 l.t)) := by rw [Hid, c2]; rfl
          have D1 : Hid (wr.cell? ⟨z, 1, none⟩ = some (.int .i64 l.g)) := by rw [Hid, c2]; rfl
          have D2 : Hid (wr.cell? ⟨z, 2, none⟩ = some (.int .i64 l.b)) := by rw [Hid, c2]; rfl
          have D3 : Hid (wr.cell? ⟨gs, os + q, none⟩ = some (.int .i64 ((q : Int) * wordsC c))) := hgq
          have hnz : z ∉ (Value.slice ao (N + q) cap).ownBlock.toList := fun hm => by have := (owns_block how z (by simpa using hm)).1; omega
          have hns : gs ∉ (Value.slice ao (N + q) cap).ownBlock.toList := fun hm => hne gs (by simpa using hm) rfl
          have hoq := owns_block how
          have hsz := hk.size
          have HOW3 := Lib.hid how; have HK3 := Lib.hid hk; have HRS3 := Lib.hid hrs; have HNE := Lib.hid hne; have HTK := Lib.hid htk; have HNZ := Lib.hid hnz; have HNS := Lib.hid hns; have HOQ := Lib.hid hoq; have HGL := Lib.hid hgl
          clear how hk hrs hne htk hnz hns hoq hgc hgq c2 hb2 e1 e2 hgl
          generalize (q : Int) * wordsC c = si at *
          have w1' : IntKind.i64.wrap (st + si) = st + si := by rw [IntKind.wrap_i64]; omega
          have hNq200 : N + q ≤ 200 := by omega
          generalize hNq : N + q = Nq at *
          have HNQ := Lib.hid hNq
          clear hNq
          go_wp2_with fail
          first
          | (go_region_held3 (fun w' => w'.cell? ⟨z, 0, none⟩ = some (.int .i64 l.t) ∧ w'.cell? ⟨z, 1, none⟩ = some (.int .i64 l.g) ∧ w'.cell? ⟨z, 2, none⟩ = some (.int .i64 l.b) ∧ w'.cell? ⟨gs, os + q, none⟩ = some (.int .i64 si))
              (first
                | (refine ⟨Keep.cell (S := []) (w := wr) ?_ D0.out (by simp), Keep.cell (S := []) (w := wr) ?_ D1.out (by simp), Keep.cell (S := []) (w := wr) ?_ D2.out (by simp), Keep.cell (S := []) (w := wr) ?_ D3.out (by simp)⟩; all_goals (((repeat (first | (with_reducible exact Keep.refl _ _) | (with_reducible refine Keep.drew ?_) | (with_reducible refine Keep.drewN ?_ _) | (with_reducible refine Keep.alloc ?_ _) | ((with_reducible refine Keep.setCell ?_ ?_ _); rotate_left; focus (first | (simp; done) | (simp; omega) | (left; dsimp only; omega))))); done)))
                | (refine ⟨Keep.cell (S := []) (w := wr) ?_ D0.out (by simp), Keep.cell (S := []) (w := wr) ?_ D1.out (by simp), Keep.cell (S := []) (w := wr) ?_ D2.out (by simp), Keep.cell (S := []) (w := wr) ?_ D3.out (by simp)⟩; all_goals (((repeat (first | (with_reducible exact HK5.out) | (with_reducible refine Keep.drew ?_) | (with_reducible refine Keep.drewN ?_ _) | (with_reducible refine Keep.alloc ?_ _) | ((with_reducible refine Keep.setCell ?_ ?_ _); rotate_left; focus (first | (simp; done) | (simp; omega) | (left; dsimp only; omega))))); done)))
                | (refine ⟨Keep.cell (S := (Value.slice ao Nq cap).ownBlock.toList) (w := wr) ?_ D0.out HNZ.out, Keep.cell (S := (Value.slice ao Nq cap).ownBlock.toList) (w := wr) ?_ D1.out HNZ.out, Keep.cell (S := (Value.slice ao Nq cap).ownBlock.toList) (w := wr) ?_ D2.out HNZ.out, Keep.cell (S := (Value.slice ao Nq cap).ownBlock.toList) (w := wr) ?_ D3.out HNS.out⟩; all_goals (((repeat (first | (with_reducible exact HK6.out) | (with_reducible refine Keep.drew ?_) | (with_reducible refine Keep.drewN ?_ _) | (with_reducible refine Keep.alloc ?_ _) | ((with_reducible refine Keep.setCell ?_ ?_ _); rotate_left; focus (first | (simp; done) | (simp; omega) | (left; dsimp only; omega))))); done))))
              (first
                | (go_at_call 108; refine (HSC.out _).mono ?_; rintro e w5 ⟨rfl, K5⟩; have HK5 := Lib.hid (show Keep [] wr w5 from by refine Keep.trans (a := wr) ?_ K5; ((repeat (first | (with_reducible exact Keep.refl _ _) | (with_reducible refine Keep.drew ?_) | (with_reducible refine Keep.drewN ?_ _) | (with_reducible refine Keep.alloc ?_ _) | ((with_reducible refine Keep.setCell ?_ ?_ _); rotate_left; focus (first | (simp; done) | (simp; omega) | (left; dsimp only; omega))))); done)); clear K5)
                | (refine step_append_rd2 _ (by rfl) _ _ _ (by rfl) elem_int (z + 1) (.slice ao Nq cap) Nq (intsV (allS l bl b ++ ca.take q)) (by rfl) ((show Keep [] wr _ from by ((repeat (first | (with_reducible exact HK5.out) | (with_reducible refine Keep.drew ?_) | (with_reducible refine Keep.drewN ?_ _) | (with_reducible refine Keep.alloc ?_ _) | ((with_reducible refine Keep.setCell ?_ ?_ _); rotate_left; focus (first | (simp; done) | (simp; omega) | (left; dsimp only; omega))))); done)).owns HOW3.out (fun _ _ => by simp)) _ 1 [.int .i64 (st + si)] (by rfl) (Rd.one (alloc_new _ _ _ (by simp)) rfl) (by simp) (by simp only [maxLen]; omega) (by omega) (by have := HK5.out.size; simp; omega) ?_; intro ao' cap' w6 ho hg hwh; have HK6 := Lib.hid (show Keep (Value.slice ao Nq cap).ownBlock.toList wr w6 from Keep.grown (w := World.alloc w5 _) (by ((repeat (first | (with_reducible exact HK5.out.mono (by simp)) | (with_reducible refine Keep.drew ?_) | (with_reducible refine Keep.drewN ?_ _) | (with_reducible refine Keep.alloc ?_ _) | ((with_reducible refine Keep.setCell ?_ ?_ _); rotate_left; focus (first | (simp; done) | (simp; omega) | (left; dsimp only; omega))))); done)) hg (fun g hg => .inr (by simpa using hg))); have HO6 := Lib.hid ho; have HWH := Lib.hid hwh; clear ho hg hwh)))
          | fail
          all_goals (
            go_wp2_with fail
            go_roundg (C - (q + 1))
            case measure => omega
            case rel =>
              refine ⟨q + 1, ao', cap', by omega, by go_num, by rw [← HNQ.out]; rfl, ?_, ?_, ?_, ?_⟩
              · have h := HO6.out
                rw [← HNQ.out] at h
                rw [HTK.out, ← List.append_assoc, show N + (q + 1) = N + q + 1 from by omega]
                simpa [intsV] using h
              · exact HK3.out.fresh HK6.out (fun x hx => .inl (by have := (HOQ.out x (by simpa using hx)).1; have := HS1.out; omega))
              · exact HRS3.out.keep HK6.out (fun g hg => by cases hg; exact HNS.out)
              · intro g hg he
                cases he
                rcases HWH.out gs (by rw [← HNQ.out]; exact hg) with h | h
                · exact HNE.out gs h rfl
                · have h2 := HGL.out; have h3 := HK5.out.size; simp at h; omega)
        · obtain rfl : q = C := by omega
          have htk : ca.take q = ca := by rw [← HCL.out]; exact List.take_length
          rw [htk] at how
          have HOW3 := Lib.hid how; have HK3 := Lib.hid hk
          clear how hk htk hrs hne
          go_wp2_with fail
          go_roundg (bl.length - (b + 1))
          case measure => omega
          case rel =>
            have hl : (allS l bl (b + 1)).length = N + q := by rw [HSU.out, List.length_append, HCL.out, HN.out]
            exact ⟨b + 1, ao, cap, by omega, by go_num, by rw [hl], by rw [hl, HSU.out]; exact HOW3.out, HK3.out⟩
    · obtain rfl : b = bl.length := by omega
      have HOW3 := Lib.hid how; have HK3 := Lib.hid hk
      clear how hk
      go_wp2_with fail
      refine hR.out _ _ ⟨_, rfl, ?_, HK1.out.trans HK3.out⟩
      exact owns_base HOW3.out (by have := HZ.out; omega)
end Go.Proofs.Ytnadiddaeolanaa
