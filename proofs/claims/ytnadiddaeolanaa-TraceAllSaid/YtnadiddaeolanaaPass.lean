/- The contracts of trace.Pass and trace.Roots. -/
import Derived.Test.YtnadiddaeolanaaInto
import Derived.Deep.DrawnRows
import Derived.Deep.RegionHeld3
import Derived.Test.YtnadiddaeolanaaMem
namespace Go.Proofs.Ytnadiddaeolanaa
open Go.RowKit
set_option linter.unusedVariables false
set_option linter.unusedSimpArgs false

theorem start_bd (l : Lay) (hl : l.fits) (k : Nat) (hk : k < l.b) : 0 ≤ l.start k ∧ l.start k ≤ 4000 := by
  obtain ⟨h1, h2, h3⟩ := hl
  unfold Lay.start spot
  rw [if_pos (by omega)]
  omega
theorem headsL_bd (s : Int) (e : En) (hs : 0 ≤ s ∧ s ≤ 4000) (a : Int) (ha : a ∈ headsL s e) : 0 ≤ a ∧ a ≤ 5000 := by
  unfold headsL at ha
  split at ha
  · simp at ha; omega
  · split at ha
    · obtain ⟨i, hi, rfl⟩ := List.mem_map.1 ha
      have h1 := cellsC_le e.c; have h2 := wordsC_bd e.c
      have h3 := List.mem_range.1 hi
      have h4 : 0 ≤ (i : Int) * wordsC e.c := Int.mul_nonneg (by omega) h2.1
      have h5 : (i : Int) * wordsC e.c ≤ 16 * 9 := Int.le_trans (Int.mul_le_mul_of_nonneg_right (by omega : (i : Int) ≤ 16) h2.1) (by omega)
      omega
    · simp at ha

/-- One head that a pass comes to. -/
def visitP (c : Int) (s : List Int × Bool) (a : Int) : List Int × Bool := if tellOf (rdz s.1 a) c = 2 then (intoW c s.1 a, true) else s
def passS (c : Int) (hs : List Int) (W : List Int) : List Int × Bool := hs.foldl (visitP c) (W, false)
/-- What a pass leaves so that a walk goes on as it began. -/
structure Stays (l : Lay) (es : Nat → En) (c : Int) (P : List Int → Prop) : Prop where
  words : ∀ W, P W → Words W ∧ ∀ k : Nat, k < l.b → entryOf W l k = es k
  next : ∀ W (k : Nat) a, P W → k < l.b → a ∈ headsL (l.start k) (es k) → P (intoW c W a)

set_option maxRecDepth 100000 in
set_option maxHeartbeats 4000000 in
theorem trace_pass_fn {w : World} {b g : Nat} {W : List Int} (h : ∃ t la, Arn w b g W t la) (hW : Words W) (a k c : Int) (e : En) (ha : 0 ≤ a ∧ a ≤ 5000) (hc : 0 ≤ c ∧ c ≤ 255) (pc pm pz : Nat) (met : Bool) (hd : pm ≠ b ∧ pm ≠ g ∧ pc ≠ pm ∧ pz ≠ pm ∧ pc ≠ b ∧ pc ≠ g ∧ pz ≠ b ∧ pz ≠ g)
    (h1 : w.heap[pc]? = some (.cells #[.int .u8 c] 5 (0, 0))) (h2 : w.heap[pm]? = some (.cells #[.bool met] 4 (0, 0))) (h3 : w.heap[pz]? = some (.cells #[.iface 25 (.pointer (some ⟨b, 0, none⟩))] 118 (0, 0))) :
    Calls Try.prog 111 #[.int .i64 a, .int .i64 k, e.val, .int .u64 (rdz W a), .pointer (some ⟨pc, 0, none⟩), .pointer (some ⟨pm, 0, none⟩), .pointer (some ⟨pz, 0, none⟩)] w fun x w' => x = .returned (.tuple #[]) ∧
      (∃ t la, Arn w' b g (visitP c (W, met) a).1 t la) ∧ w'.heap[pm]? = some (.cells #[.bool (visitP c (W, met) a).2] 4 (0, 0)) ∧ Keep [b, g, pm] w w' := by
  refine calls_abs fun R hR => ?_
  have hx := hW a
  have c1 := cell_at h1; have c2 := cell_at h2; have c3 := cell_at h3; have f2 := frozen_at h2
  have l1 := lt_of_block h1; have l2 := lt_of_block h2; have l3 := lt_of_block h3
  have H := Lib.hid h; have HW := Lib.hid hW; have H2 := Lib.hid h2
  have htl := fun w => shade_tell (rdz W a) c hx w
  have hin := fun (w' : World) (h : ∃ t la, Arn w' b g W t la) => trace_into h HW.out a c ha hc
  have hvi : visitP c (W, met) a = if tellOf (rdz W a) c = 2 then (intoW c W a, true) else (W, met) := rfl
  rw [hvi] at hR
  clear hvi
  have HTL := Lib.hid htl; have HIN := Lib.hid hin
  clear h hW h1 h2 h3 htl hin
  generalize rdz W a = x at *
  generalize tellOf x c = tl at *
  obtain ⟨ek, ec, er, eo⟩ := e
  unfold En.val
  go_enter Try.func111, Try.ntmps111
  go_wp2_with fail
  generalize hw1 : World.alloc w _ = w1
  have K1 : Keep [] w w1 := by rw [← hw1]; exact (by repeat (first | (with_reducible exact Keep.refl _ _) | (with_reducible refine Keep.drew ?_) | (with_reducible refine Keep.drewN ?_ _) | (with_reducible refine Keep.alloc ?_ _) | (with_reducible refine Keep.setCell ?_ (by first | (simp; done) | (simp; omega) | (left; dsimp only; omega)) _)))
  refine (HTL.out w1).mono ?_
  rintro e w2 ⟨rfl, K2⟩
  have K02 := K1.trans K2
  have hA2 : ∃ t la, Arn w2 b g W t la := by obtain ⟨t, la, h⟩ := H.out; exact ⟨t, la, h.keep K02 (by simp) (by simp)⟩
  have b2 := K02.get H2.out (by simp)
  have d1 := K02.cell (c1 0) (by simp); have d3 := K02.cell (c3 0) (by simp)
  have c2 := cell_at b2; have f2 := frozen_at b2; have l2 := lt_of_block b2
  have HA2 := Lib.hid hA2; have HB2 := Lib.hid b2; have HK2 := Lib.hid K02
  clear hw1 K1 K2 K02 hA2 b2 c1 c3
  by_cases ht : tl = 2
  · subst ht
    rw [if_pos rfl] at hR
    have hpm : ∀ v, (w2.setCell ⟨pm, 0, none⟩ v).cell? ⟨pc, 0, none⟩ = some (.int .u8 c) := fun v => (World.cell?_setCell_other _ _ _ _ (by first | (simp; done) | (simp; omega))).trans d1
    go_wp2_with fail
    generalize hw3 : World.setCell w2 _ _ = w3
    have b3 : w3.heap[pm]? = some (.cells #[.bool true] 4 (0, 0)) := by rw [← hw3]; exact put_at HB2.out 0 _
    have K3 : Keep [pm] w2 w3 := by rw [← hw3]; ((repeat (first | (with_reducible exact Keep.refl _ _) | (with_reducible refine Keep.drew ?_) | (with_reducible refine Keep.drewN ?_ _) | (with_reducible refine Keep.alloc ?_ _) | ((with_reducible refine Keep.setCell ?_ ?_ _); rotate_left; focus (first | (simp; done) | (simp; omega) | (left; dsimp only; omega))))); done)
    have hA3 : ∃ t la, Arn w3 b g W t la := by obtain ⟨t, la, h⟩ := HA2.out; exact ⟨t, la, h.keep K3 (by simp; omega) (by simp; omega)⟩
    refine (HIN.out w3 hA3).mono ?_
    rintro e w4 ⟨rfl, A4, K4⟩
    have HA4 := Lib.hid A4; have HB4 := Lib.hid (K4.get b3 (by simp; omega)); have HK4 := Lib.hid (((HK2.out.mono (S' := [b, g, pm]) (by simp)).trans (K3.mono (by simp))).trans (K4.mono (by simp)))
    clear hw3 b3 K3 hA3 A4 K4
    go_wp2_with fail
    refine bodyPost_end (v := .tuple #[]) ?_ rfl ?_
    · kernel_rfl
    exact hR.out _ _ ⟨rfl, HA4.out, HB4.out, HK4.out⟩
  · have ht2 : (tl == 2) = false := by simp [ht]
    rw [if_neg ht] at hR
    go_wp2_with fail
    refine bodyPost_end (v := .tuple #[]) ?_ rfl ?_
    · kernel_rfl
    exact hR.out _ _ ⟨rfl, HA2.out, HB2.out, HK2.out.mono (by simp)⟩

theorem passS_snoc (c : Int) (hs : List Int) (W : List Int) (a : Int) : passS c (hs ++ [a]) W = visitP c (passS c hs W) a := by unfold passS; rw [List.foldl_append]; rfl
theorem visitP_snd (c : Int) (s : List Int × Bool) (a : Int) : visitP c s a = visitP c (s.1, s.2) a := rfl

set_option maxRecDepth 100000 in
set_option maxHeartbeats 4000000 in
theorem trace_pass {w : World} {b g : Nat} {W : List Int} (h : ∃ t la, Arn w b g W t la) (l : Lay) (hl : l.fits) {es : Nat → En} (c : Int) (hc : 0 ≤ c ∧ c ≤ 255) {P : List Int → Prop} (hS : Stays l es c P) (hP : P W) :
    Calls Try.prog 56 #[.iface 25 (.pointer (some ⟨b, 0, none⟩)), l.val, .int .u8 c] w fun e w' => e = .returned (.bool (passS c ((headsOf l es l.b).map (·.1)) W).2) ∧
      (∃ t la, Arn w' b g (passS c ((headsOf l es l.b).map (·.1)) W).1 t la) ∧ P (passS c ((headsOf l es l.b).map (·.1)) W).1 ∧ Keep [b, g] w w' := by
  refine calls_abs fun R hR => ?_
  have hmf : ∀ (fn : Fn) (first cap : Array Value) (w : World), (Instr.makeFunc fn first cap).run Try.prog w = .ok (.func fn first cap) w := fun _ _ _ _ => rfl
  have hF := Try.call111
  have hval : l.val = .agg #[.int .i64 l.t, .int .i64 l.g, .int .i64 l.b] := rfl
  have lbg : b < w.heap.size ∧ g < w.heap.size := by obtain ⟨t, la, h⟩ := h; exact ⟨lt_of_block h.head, lt_of_block h.row⟩
  have hwk := fun (pc pm pz : Nat) (w0 : World) (hd : pm ≠ b ∧ pm ≠ g ∧ pc ≠ pm ∧ pz ≠ pm ∧ pc ≠ b ∧ pc ≠ g ∧ pz ≠ b ∧ pz ≠ g) (t la : Int) (hA : Arn w0 b g W t la)
      (h1 : w0.heap[pc]? = some (.cells #[.int .u8 c] 5 (0, 0))) (h2 : w0.heap[pm]? = some (.cells #[.bool false] 4 (0, 0))) (h3 : w0.heap[pz]? = some (.cells #[.iface 25 (.pointer (some ⟨b, 0, none⟩))] 118 (0, 0))) =>
    trace_walk (w := w0) (W := W) (b := b) (g := g) (t := t) (la := la) (f := 111) hl (es := es) (own := [pc, pm, pz]) (caps := #[.pointer (some ⟨pc, 0, none⟩), .pointer (some ⟨pm, 0, none⟩), .pointer (some ⟨pz, 0, none⟩)])
      (I := fun pre V wx => V = (passS c (pre.map (·.1)) W).1 ∧ P V ∧ wx.heap[pm]? = some (.cells #[.bool (passS c (pre.map (·.1)) W).2] 4 (0, 0)) ∧ wx.heap[pc]? = some (.cells #[.int .u8 c] 5 (0, 0)) ∧ wx.heap[pz]? = some (.cells #[.iface 25 (.pointer (some ⟨b, 0, none⟩))] 118 (0, 0)))
      { enter := hF
        keep := fun hI k ho => ⟨hI.1, hI.2.1, k.get hI.2.2.1 (ho pm (by simp)), k.get hI.2.2.2.1 (ho pc (by simp)), k.get hI.2.2.2.2 (ho pz (by simp))⟩
        cells := fun hI x hx => by
          simp at hx
          rcases hx with rfl | rfl | rfl
          · exact ⟨_, _, _, hI.2.2.2.1⟩
          · exact ⟨_, _, _, hI.2.2.1⟩
          · exact ⟨_, _, _, hI.2.2.2.2⟩
        words := fun hI => hS.words _ hI.2.1
        apart := by simp; omega
        round := fun pre V wx t la a k hI hA hk ha => by
          obtain ⟨i1, i2, i3, i4, i5⟩ := hI
          have hbd := headsL_bd _ _ (start_bd l hl k hk) a ha
          refine (trace_pass_fn ⟨t, la, hA⟩ (hS.words V i2).1 a k c (es k) hbd hc pc pm pz _ hd i4 i3 i5).mono ?_
          rintro x w' ⟨rfl, A', hm, K⟩
          have hv : visitP c (V, (passS c (pre.map (·.1)) W).2) a = passS c ((pre ++ [(a, k)]).map (·.1)) W := by
            rw [List.map_append, List.map_cons, List.map_nil, passS_snoc, i1]
          rw [hv] at A' hm
          refine ⟨rfl, _, A', ⟨rfl, ?_, hm, K.get i4 (by simp; omega), K.get i5 (by simp; omega)⟩, K.mono (by simp)⟩
          rw [← hv]
          unfold visitP
          dsimp only
          split
          · exact hS.next V k a i2 hk ha
          · exact i2 }
      hA ⟨rfl, hP, h2, h1, h3⟩
  rw [hval] at hwk ⊢
  have HWK := Lib.hid hwk; have H := Lib.hid h
  clear hwk h hval
  go_enter Try.func56, Try.ntmps56
  go_wp2_with fail
  obtain ⟨z, hz⟩ : ∃ z, z = w.heap.size := ⟨_, rfl⟩
  simp only [← hz] at lbg ⊢
  generalize hw1 : World.alloc _ _ = w1
  have K1 : Keep [] w w1 := by rw [← hw1]; exact (by repeat (first | (with_reducible exact Keep.refl _ _) | (with_reducible refine Keep.drew ?_) | (with_reducible refine Keep.drewN ?_ _) | (with_reducible refine Keep.alloc ?_ _) | (with_reducible refine Keep.setCell ?_ (by first | (simp; done) | (simp; omega) | (left; dsimp only; omega)) _)))
  have h1 : w1.heap[z + 1 + 1]? = some (.cells #[.int .u8 c] 5 (0, 0)) := by rw [← hw1]; exact alloc_keeps (alloc_new _ _ _ (by simp [hz])) _
  have h2 : w1.heap[z + 1 + 1 + 1]? = some (.cells #[.bool false] 4 (0, 0)) := by rw [← hw1]; exact alloc_new _ _ _ (by simp [hz])
  have h3 : w1.heap[z]? = some (.cells #[.iface 25 (.pointer (some ⟨b, 0, none⟩))] 118 (0, 0)) := by rw [← hw1]; exact alloc_keeps (alloc_keeps (alloc_keeps (alloc_new _ _ _ hz) _) _) _
  obtain ⟨t, la, hA⟩ := H.out
  refine (HWK.out (z + 1 + 1) (z + 1 + 1 + 1) z w1 (by omega) t la (hA.keep K1 (by simp) (by simp)) h1 h2 h3).mono ?_
  rintro e w2 ⟨rfl, V, A2, ⟨rfl, hP2, hm2, -, -⟩, K2⟩
  have hk2 : Keep [b, g] w w2 := by
    refine (K1.mono (S' := [b, g]) (by simp)).fresh K2 (fun x hx => ?_)
    simp at hx
    rcases hx with rfl | rfl | rfl | rfl | rfl
    · simp
    · simp
    · left; omega
    · left; omega
    · left; omega
  have HA2 := Lib.hid A2; have HP2 := Lib.hid hP2; have HKK := Lib.hid hk2
  have c2 := cell_at hm2
  generalize (passS c (List.map (·.1) (headsOf l es l.b)) W).2 = met at *
  clear A2 hP2 hk2 hm2 h1 h2 h3 hw1 K1 hA K2 hz
  go_wp2_with fail
  exact hR.out _ _ ⟨rfl, HA2.out, HP2.out, HKK.out⟩

set_option maxRecDepth 100000 in
theorem trace_walk_nil (l : Lay) (v : Value) (w : World) :
    Calls Try.prog 60 #[.nilIface, l.val, v] w fun e w' => e = .returned (.tuple #[]) ∧ Keep [] w w' := by
  refine calls_abs fun R hR => ?_
  unfold Lay.val
  go_enter Try.func60, Try.ntmps60
  go_wp2_with fail
  all_goals (
    refine bodyPost_ret (v := .tuple #[]) ?_ rfl ?_
    · kernel_rfl
    exact hR.out _ _ ⟨rfl, (by repeat (first | (with_reducible exact Keep.refl _ _) | (with_reducible refine Keep.drew ?_) | (with_reducible refine Keep.drewN ?_ _) | (with_reducible refine Keep.alloc ?_ _) | (with_reducible refine Keep.setCell ?_ (by first | (simp; done) | (simp; omega) | (left; dsimp only; omega)) _)))⟩)
set_option maxRecDepth 100000 in
theorem trace_roots_nil (l : Lay) (c : Int) (w : World) :
    Calls Try.prog 62 #[.nilIface, l.val, .int .u8 c] w fun e w' => e = .returned (.tuple #[]) ∧ Keep [] w w' := by
  refine calls_abs fun R hR => ?_
  unfold Lay.val
  go_enter Try.func62, Try.ntmps62
  go_wp2_with fail
  refine bodyPost_ret (v := .tuple #[]) ?_ rfl ?_
  · kernel_rfl
  exact hR.out _ _ ⟨rfl, (by repeat (first | (with_reducible exact Keep.refl _ _) | (with_reducible refine Keep.drew ?_) | (with_reducible refine Keep.drewN ?_ _) | (with_reducible refine Keep.alloc ?_ _) | (with_reducible refine Keep.setCell ?_ (by first | (simp; done) | (simp; omega) | (left; dsimp only; omega)) _)))⟩
set_option maxRecDepth 100000 in
theorem trace_pass_nil (l : Lay) (c : Int) (w : World) :
    Calls Try.prog 56 #[.nilIface, l.val, .int .u8 c] w fun e w' => e = .returned (.bool false) ∧ Keep [] w w' := by
  refine calls_abs fun R hR => ?_
  have hmf : ∀ (fn : Fn) (first cap : Array Value) (w : World), (Instr.makeFunc fn first cap).run Try.prog w = .ok (.func fn first cap) w := fun _ _ _ _ => rfl
  have hwk := fun v w => trace_walk_nil l v w
  unfold Lay.val at hwk ⊢
  have HWK := Lib.hid hwk
  clear hwk
  go_enter Try.func56, Try.ntmps56
  go_wp2_with fail
  obtain ⟨z, hz⟩ : ∃ z, z = w.heap.size := ⟨_, rfl⟩
  simp only [← hz]
  generalize hw1 : World.alloc _ _ = w1
  have K1 : Keep [] w w1 := by rw [← hw1]; exact (by repeat (first | (with_reducible exact Keep.refl _ _) | (with_reducible refine Keep.drew ?_) | (with_reducible refine Keep.drewN ?_ _) | (with_reducible refine Keep.alloc ?_ _) | (with_reducible refine Keep.setCell ?_ (by first | (simp; done) | (simp; omega) | (left; dsimp only; omega)) _)))
  have h2 : w1.heap[z + 1 + 1 + 1]? = some (.cells #[.bool false] 4 (0, 0)) := by rw [← hw1]; exact alloc_new _ _ _ (by simp [hz])
  refine (HWK.out _ w1).mono ?_
  rintro e w2 ⟨rfl, K2⟩
  have c2 := cell_at (K2.get h2 (by simp))
  have HK2 := Lib.hid (K1.trans K2)
  clear hw1 h2 K1 K2 hz
  go_wp2_with fail
  exact hR.out _ _ ⟨rfl, HK2.out⟩

/-- What Roots makes of words. -/
def rootW (c : Int) (l : Lay) (W : List Int) (i : Nat) : List Int := if rdz W (l.global i) = 0 then W else shadeW W (rdz W (l.global i)) c
def rootsW (c : Int) (l : Lay) (n : Nat) (W : List Int) : List Int := (List.range n).foldl (rootW c l) W
theorem rootsW_succ (c : Int) (l : Lay) (n : Nat) (W : List Int) : rootsW c l (n + 1) W = rootW c l (rootsW c l n W) n := by
  unfold rootsW; rw [List.range_succ, List.foldl_append]; rfl
theorem rootsW_ok {W : List Int} (hW : Words W) (c : Int) (l : Lay) (n : Nat) (hc : 0 ≤ c ∧ c ≤ 255) : Words (rootsW c l n W) ∧ (rootsW c l n W).length = W.length := by
  induction n with
  | zero => exact ⟨hW, rfl⟩
  | succ n ih =>
    rw [rootsW_succ]
    unfold rootW
    split
    · exact ih
    · exact ⟨shadeW_words ih.1 _ c hc, by rw [shadeW_len]; exact ih.2⟩

theorem mem_nil_read (b : Nat) (w : World) : (nilAhead 300 25 (.pointer (some ⟨b, 0, none⟩)) "Read").run Try.prog w = .ok (some false) w := by kernel_rfl

set_option maxRecDepth 100000 in
theorem layout_globals (l : Lay) (w : World) :
    Calls Try.prog 115 #[l.val] w fun e w' => e = .returned (.int .i64 l.g) ∧ Keep [] w w' := by
  refine calls_abs fun R hR => ?_
  obtain ⟨t, g, b⟩ := l
  unfold Lay.val
  go_enter Try.func115, Try.ntmps115
  go_wp2_with fail
  exact hR.out _ _ ⟨by simp, (by repeat (first | (with_reducible exact Keep.refl _ _) | (with_reducible refine Keep.drew ?_) | (with_reducible refine Keep.drewN ?_ _) | (with_reducible refine Keep.alloc ?_ _) | (with_reducible refine Keep.setCell ?_ (by first | (simp; done) | (simp; omega) | (left; dsimp only; omega)) _)))⟩

set_option maxRecDepth 100000 in
set_option maxHeartbeats 4000000 in
theorem trace_roots {w : World} {b g : Nat} {W : List Int} (h : ∃ t la, Arn w b g W t la) (hW : Words W) (l : Lay) (hl : l.fits) (c : Int) (hc : 0 ≤ c ∧ c ≤ 255) :
    Calls Try.prog 62 #[.iface 25 (.pointer (some ⟨b, 0, none⟩)), l.val, .int .u8 c] w fun e w' => e = .returned (.tuple #[]) ∧ (∃ t la, Arn w' b g (rootsW c l l.g W) t la) ∧ Keep [b, g] w w' := by
  refine calls_abs fun R hR => ?_
  have mixed : Try.prog.follows .mixedOrders = true := by kernel_rfl
  have hmf : ∀ (fn : Fn) (first cap : Array Value) (w : World), (Instr.makeFunc fn first cap).run Try.prog w = .ok (.func fn first cap) w := fun _ _ _ _ => rfl
  have hnil := mem_nil_read b
  have hinr := mem_read
  simp [go_sem] at hinr
  have lbg : b < w.heap.size ∧ g < w.heap.size := by obtain ⟨t, la, h⟩ := h; exact ⟨lt_of_block h.head, lt_of_block h.row⟩
  have hsm : W.length ≤ 4096 := by obtain ⟨t, la, h⟩ := h; exact h.small
  have hok := fun q => rootsW_ok hW c l q hc
  have hgs := fun w => layout_globals l w
  have hgl := fun i w => layout_global l hl i w
  have hgb := hl.2.1
  have hrsu := fun q => rootsW_succ c l q W
  unfold rootW at hrsu
  obtain ⟨lt, lg, lb⟩ := l
  unfold Lay.val at hgs hgl ⊢
  dsimp only at *
  have H := Lib.hid h; have HOK := Lib.hid hok; have HGS := Lib.hid hgs; have HGL := Lib.hid hgl; have HSU := Lib.hid hrsu; have HLB := Lib.hid lbg; have HSM := Lib.hid hsm
  clear h hW hok hgs hgl hrsu hsm
  go_enter Try.func62, Try.ntmps62
  go_wp2_with fail
  obtain ⟨z, hz⟩ : ∃ z, z = w.heap.size := ⟨_, rfl⟩
  simp only [← hz] at lbg ⊢
  generalize hw1 : World.alloc _ _ = w1
  have b1 : w1.heap[z]? = some (.cells #[.int .i64 lt, .int .i64 lg, .int .i64 lb] 53 (0, 0)) := by rw [← hw1]; exact alloc_new _ _ _ hz
  have K1 : Keep [] w w1 := by rw [← hw1]; exact (by repeat (first | (with_reducible exact Keep.refl _ _) | (with_reducible refine Keep.drew ?_) | (with_reducible refine Keep.drewN ?_ _) | (with_reducible refine Keep.alloc ?_ _) | (with_reducible refine Keep.setCell ?_ (by first | (simp; done) | (simp; omega) | (left; dsimp only; omega)) _)))
  refine (HGS.out w1).mono ?_
  rintro e w2 ⟨rfl, K2⟩
  have HB2 := Lib.hid (K2.get b1 (by simp)); have HK2 := Lib.hid (K1.trans K2)
  have hA2 : ∃ t la, Arn w2 b g W t la := by obtain ⟨t, la, h⟩ := H.out; exact ⟨t, la, h.keep (K1.trans K2) (by simp) (by simp)⟩
  have HA2 := Lib.hid hA2
  clear hw1 b1 K1 K2 hA2 hz
  go_wp2_with fail
  go_loopg [12] lg (fun j i wr => ∃ q : Nat, q + j = lg ∧ i = .int .i64 q ∧ (∃ t la, Arn wr b g (rootsW c ⟨lt, lg, lb⟩ q W) t la) ∧ wr.heap[z]? = some (.cells #[.int .i64 lt, .int .i64 lg, .int .i64 lb] 53 (0, 0)) ∧ Keep [b, g] w wr)
  case atStart => exact ⟨0, by omega, rfl, HA2.out, HB2.out, HK2.out.mono (by simp)⟩
  case round =>
    obtain ⟨q, hqj, rfl, hA, hb, hK⟩ := hrel
    by_cases hqm : q < lg
    · have i1 : (q : Int) < lg := by omega
      have hsu := HSU.out q
      obtain ⟨hwq, hlq⟩ := HOK.out q
      have c2 := cell_at hb; have l2 := lt_of_block hb
      have HSQ := Lib.hid hsu; have HWQ := Lib.hid hwq; have HLQ := Lib.hid hlq; have HKQ := Lib.hid hK; have HAQ := Lib.hid hA; have HB := Lib.hid hb
      have hgl := fun w => HGL.out q w
      have HGQ := Lib.hid hgl
      clear hA hK hwq hlq hsu hb hgl
      generalize rootsW c ⟨lt, lg, lb⟩ q W = V at *
      generalize (Lay.mk lt lg lb).global q = pl at *
      have hVl : V.length ≤ 4096 := by rw [HLQ.out]; exact HSM.out
      have hxb := HWQ.out pl
      have HVL := Lib.hid hVl
      have hrd := fun (w' : World) (t la : Int) (h : Arn w' b g V t la) => arena_read_any h pl
      have HRD := Lib.hid hrd
      clear hrd hVl
      generalize rdz V pl = y at *
      obtain ⟨t0, la0, hA0⟩ := HAQ.out
      have HA0 := Lib.hid hA0
      clear hA0
      have D0 : Hid (wr.cell? ⟨z, 0, none⟩ = some (.int .i64 lt)) := by rw [Hid, c2]; rfl
      have D1 : Hid (wr.cell? ⟨z, 1, none⟩ = some (.int .i64 lg)) := by rw [Hid, c2]; rfl
      have D2 : Hid (wr.cell? ⟨z, 2, none⟩ = some (.int .i64 lb)) := by rw [Hid, c2]; rfl
      clear c2
      go_wp2_with fail
      first
      | (go_region_held3 (fun w' => w'.cell? ⟨z, 0, none⟩ = some (.int .i64 lt) ∧ w'.cell? ⟨z, 1, none⟩ = some (.int .i64 lg) ∧ w'.cell? ⟨z, 2, none⟩ = some (.int .i64 lb))
          (first
            | (refine ⟨Keep.cell (S := []) (w := wr) ?_ D0.out (by simp), Keep.cell (S := []) (w := wr) ?_ D1.out (by simp), Keep.cell (S := []) (w := wr) ?_ D2.out (by simp)⟩; all_goals (((repeat (first | (with_reducible exact Keep.refl _ _) | (with_reducible refine Keep.drew ?_) | (with_reducible refine Keep.drewN ?_ _) | (with_reducible refine Keep.alloc ?_ _) | ((with_reducible refine Keep.setCell ?_ ?_ _); rotate_left; focus (first | (simp; done) | (simp; omega) | (left; dsimp only; omega))))); done)))
            | (refine ⟨Keep.cell (S := []) (w := wr) ?_ D0.out (by simp), Keep.cell (S := []) (w := wr) ?_ D1.out (by simp), Keep.cell (S := []) (w := wr) ?_ D2.out (by simp)⟩; all_goals (((repeat (first | (with_reducible exact HK3.out) | (with_reducible refine Keep.drew ?_) | (with_reducible refine Keep.drewN ?_ _) | (with_reducible refine Keep.alloc ?_ _) | ((with_reducible refine Keep.setCell ?_ ?_ _); rotate_left; focus (first | (simp; done) | (simp; omega) | (left; dsimp only; omega))))); done)))
            | (refine ⟨Keep.cell (S := [b, g]) (w := wr) ?_ D0.out (by simp; omega), Keep.cell (S := [b, g]) (w := wr) ?_ D1.out (by simp; omega), Keep.cell (S := [b, g]) (w := wr) ?_ D2.out (by simp; omega)⟩; all_goals (((repeat (first | (with_reducible exact HK4.out) | (with_reducible refine Keep.drew ?_) | (with_reducible refine Keep.drewN ?_ _) | (with_reducible refine Keep.alloc ?_ _) | ((with_reducible refine Keep.setCell ?_ ?_ _); rotate_left; focus (first | (simp; done) | (simp; omega) | (left; dsimp only; omega))))); done))))
          (first
            | (go_at_call 116; refine (HGQ.out _).mono ?_; rintro e w3 ⟨rfl, K3⟩; have HK3 := Lib.hid (show Keep [] wr w3 from by refine Keep.trans (a := wr) ?_ K3; ((repeat (first | (with_reducible exact Keep.refl _ _) | (with_reducible refine Keep.drew ?_) | (with_reducible refine Keep.drewN ?_ _) | (with_reducible refine Keep.alloc ?_ _) | ((with_reducible refine Keep.setCell ?_ ?_ _); rotate_left; focus (first | (simp; done) | (simp; omega) | (left; dsimp only; omega))))); done)); clear K3)
            | (go_at_call 30; refine (HRD.out _ _ _ (HA0.out.keep (S := []) (by ((repeat (first | (with_reducible exact HK3.out) | (with_reducible refine Keep.drew ?_) | (with_reducible refine Keep.drewN ?_ _) | (with_reducible refine Keep.alloc ?_ _) | ((with_reducible refine Keep.setCell ?_ ?_ _); rotate_left; focus (first | (simp; done) | (simp; omega) | (left; dsimp only; omega))))); done)) (by simp) (by simp))).mono ?_; rintro e w4 ⟨rfl, A4, K4⟩; have HA4 : Hid (∃ t la, Arn w4 b g V t la) := ⟨_, _, A4⟩; have HK4 := Lib.hid (show Keep [b, g] wr w4 from by refine Keep.trans (a := wr) ?_ K4; ((repeat (first | (with_reducible exact HK3.out.mono (by simp)) | (with_reducible refine Keep.drew ?_) | (with_reducible refine Keep.drewN ?_ _) | (with_reducible refine Keep.alloc ?_ _) | ((with_reducible refine Keep.setCell ?_ ?_ _); rotate_left; focus (first | (simp; done) | (simp; omega) | (left; dsimp only; omega))))); done)); clear A4 K4)))
      | fail
      all_goals (
        have HB4 := Lib.hid (HK4.out.get HB.out (by simp; omega))
        have HKW := Lib.hid (HKQ.out.trans HK4.out)
        by_cases hv : y = 0
        · have hv1 : (y == 0) = true := by simp [hv]
          have hs2 : Hid (rootsW c ⟨lt, lg, lb⟩ (q + 1) W = V) := by have := HSQ.out; rwa [if_pos hv] at this
          subst hv
          go_wp2_with fail
          go_roundg (lg - (q + 1))
          case measure => omega
          case rel => exact ⟨q + 1, by omega, by go_num, by rw [hs2.out]; exact HA4.out, HB4.out, HKW.out⟩
        · have hv1 : (y == 0) = false := by simp [hv]
          have hv2 : (y != 0) = true := by simp [hv]
          have hs2 : Hid (rootsW c ⟨lt, lg, lb⟩ (q + 1) W = shadeW V (wrap64 y) c) := by have := HSQ.out; rw [if_neg hv, ← shadeW_wrap V y c hxb HVL.out] at this; exact this
          clear hv
          go_wp2_with fail
          refine (shade_any HA4.out HWQ.out (wrap64 y) c hc.1).mono ?_
          rintro e w6 ⟨⟨r, rfl⟩, A6, K6⟩
          have HA6 := Lib.hid A6; have HK6 := Lib.hid (HKW.out.trans K6); have HB6 := Lib.hid (K6.get HB4.out (by simp; omega))
          clear A6 K6
          go_wp2_with fail
          go_roundg (lg - (q + 1))
          case measure => omega
          case rel => exact ⟨q + 1, by omega, by go_num, by rw [hs2.out]; exact HA6.out, HB6.out, HK6.out⟩)
    · obtain rfl : q = lg := by omega
      have HA := Lib.hid hA; have HK := Lib.hid hK
      clear hA hK hb
      go_wp2_with fail
      refine bodyPost_end (v := .tuple #[]) ?_ rfl ?_
      · kernel_rfl
      exact hR.out _ _ ⟨rfl, HA.out, HK.out⟩
end Go.Proofs.Ytnadiddaeolanaa
