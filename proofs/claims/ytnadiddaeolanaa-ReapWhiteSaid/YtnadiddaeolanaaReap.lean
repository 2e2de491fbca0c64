/- The contract of reap.Reap. -/
import Derived.Test.YtnadiddaeolanaaWakes21
namespace Go.Proofs.Ytnadiddaeolanaa
open Go.RowKit
set_option linter.unusedVariables false
set_option linter.unusedSimpArgs false

theorem wrap64_inc (n : Nat) : wrap64 (wrap64 (n : Int) + 1) = wrap64 ((n + 1 : Nat) : Int) := by unfold wrap64; omega
theorem wrap64_inc2 (n : Nat) : IntKind.i64.wrap (wrap64 (n : Int) + 1) = wrap64 ((n + 1 : Nat) : Int) := by rw [IntKind.wrap_i64]; unfold wrap64; omega
/-- The word of a free cell. -/
def freeH (x : Int) : Hd := ⟨0, 0, false, false, (takeH x).owner, 0, 0⟩
def freeOf (x : Int) : Int := (freeH x).word
theorem owner_bd (x : Int) (hx : 0 ≤ x) : 0 ≤ (takeH x).owner ∧ (takeH x).owner ≤ 63 := by
  unfold takeH
  split
  · simp only [hdOf]; omega
  · simp [Hd.zero]
theorem freeH_may (x : Int) (hx : 0 ≤ x) : (freeH x).may = true := by
  have := owner_bd x hx
  unfold freeH Hd.may
  dsimp only
  rw [if_neg (by omega), if_pos (by omega)]
  rfl
theorem freeH_u8 (x : Int) (hx : 0 ≤ x) : (freeH x).u8 := by
  have := owner_bd x hx
  unfold freeH Hd.u8
  dsimp only
  omega
theorem free_bd (x : Int) (hx : 0 ≤ x) : 0 ≤ freeOf x ∧ freeOf x < 18446744073709551616 := word_bd (freeH_u8 x hx) (freeH_may x hx)
theorem free_refs (x : Int) (hx : 0 ≤ x) : (takeH (freeOf x)).refs = 0 := by
  unfold freeOf; rw [takeH_word (freeH_u8 x hx) (freeH_may x hx)]; rfl

set_option maxRecDepth 100000 in
set_option maxHeartbeats 4000000 in
theorem reap_free (x : Int) (hx : 0 ≤ x ∧ x < 18446744073709551616) (w : World) :
    Calls Try.prog 119 #[.int .u64 x] w fun e w' => e = .returned (.int .u64 (freeOf x)) ∧ Keep [] w w' := by
  refine calls_abs fun R hR => ?_
  have htk := fun w => word_take x hx w
  have hpt := fun w => word_put (freeH x) (freeH_u8 x hx.1) w
  rw [freeH_may x hx.1, if_pos rfl, if_pos rfl] at hpt
  rw [show (freeH x).word = freeOf x from rfl] at hpt
  unfold Hd.val freeH at hpt
  unfold Hd.val at htk
  dsimp only at hpt
  generalize freeOf x = y at *
  obtain ⟨er, her⟩ : ∃ er : Int, er = if isHd x then 0 else 3 := ⟨_, rfl⟩
  rw [← her] at htk
  clear her
  generalize takeH x = d at *
  obtain ⟨dk, dc, dg, dm, dow, dr, ds⟩ := d
  dsimp only at hpt htk
  have HTK := Lib.hid htk; have HPT := Lib.hid hpt
  clear htk hpt
  go_enter Try.func119, Try.ntmps119
  go_wp2_with fail
  refine (HTK.out w).mono ?_
  rintro e w1 ⟨rfl, K1⟩
  go_wp2_with fail
  generalize hw2 : World.alloc _ _ = w2
  have K2 : Keep [] w w2 := by rw [← hw2]; ((repeat (first | (with_reducible exact K1) | (with_reducible refine Keep.drew ?_) | (with_reducible refine Keep.drewN ?_ _) | (with_reducible refine Keep.alloc ?_ _) | ((with_reducible refine Keep.setCell ?_ ?_ _); rotate_left; focus (first | (simp; done) | (simp; omega) | (left; dsimp only; omega))))); done)
  refine (HPT.out w2).mono ?_
  rintro e w3 ⟨rfl, K3⟩
  have HK3 := Lib.hid (K2.trans K3)
  clear hw2 K1 K2 K3
  go_wp2_with fail
  exact hR.out _ _ ⟨rfl, HK3.out⟩

/-- One head that reaping comes to. -/
def visitR (c : Int) (s : List Int × Nat) (a : Int) : List Int × Nat := if tellOf (rdz s.1 a) c = 1 then (putz s.1 a (freeOf (rdz s.1 a)), s.2 + 1) else s
def reapS (c : Int) (hs : List Int) (W : List Int) : List Int × Nat := hs.foldl (visitR c) (W, 0)
theorem reapS_snoc (c : Int) (hs : List Int) (W : List Int) (a : Int) : reapS c (hs ++ [a]) W = visitR c (reapS c hs W) a := by unfold reapS; rw [List.foldl_append]; rfl

set_option maxRecDepth 100000 in
set_option maxHeartbeats 4000000 in
theorem reap_fn {w : World} {b g : Nat} {W : List Int} (h : ∃ t la, Arn w b g W t la) (hW : Words W) (a k c : Int) (e : En) (he : e.k ≠ 2) (hc : 0 ≤ c ∧ c ≤ 255) (pc pn pm pl : Nat) (n : Nat)
    (hd : pn ≠ b ∧ pn ≠ g ∧ pc ≠ pn ∧ pm ≠ pn ∧ pm ≠ b ∧ pm ≠ g)
    (h1 : w.heap[pc]? = some (.cells #[.int .u8 c] 5 (0, 0))) (h2 : w.heap[pn]? = some (.cells #[.int .i64 (wrap64 n)] 3 (0, 0))) (h3 : w.heap[pm]? = some (.cells #[.iface 25 (.pointer (some ⟨b, 0, none⟩))] 118 (0, 0))) :
    Calls Try.prog 118 #[.int .i64 a, .int .i64 k, e.val, .int .u64 (rdz W a), .pointer (some ⟨pc, 0, none⟩), .pointer (some ⟨pn, 0, none⟩), .pointer (some ⟨pm, 0, none⟩), .pointer (some ⟨pl, 0, none⟩)] w fun x w' => x = .returned (.tuple #[]) ∧
      (∃ t la, Arn w' b g (visitR c (W, n) a).1 t la) ∧ w'.heap[pn]? = some (.cells #[.int .i64 (wrap64 (visitR c (W, n) a).2)] 3 (0, 0)) ∧ Keep [b, g, pn] w w' := by
  refine calls_abs fun R hR => ?_
  have mixed : Try.prog.follows .mixedOrders = true := by kernel_rfl
  have hx := hW a
  have hnil := mem_nil_write b
  have hinw := mem_write
  simp [go_sem] at hinw
  have c1 := cell_at h1; have c3 := cell_at h3
  have H := Lib.hid h; have H2 := Lib.hid h2
  have htl := fun w => shade_tell (rdz W a) c hx w
  have hfr := fun w => reap_free (rdz W a) hx w
  have hwr := fun (w' : World) (t la : Int) (h : Arn w' b g W t la) => arena_write_any h a (freeOf (rdz W a))
  have hvi : visitR c (W, n) a = if tellOf (rdz W a) c = 1 then (putz W a (freeOf (rdz W a)), n + 1) else (W, n) := rfl
  rw [hvi] at hR
  clear hvi h
  generalize putz W a (freeOf (rdz W a)) = WF at *
  generalize freeOf (rdz W a) = y at *
  generalize rdz W a = x at *
  generalize tellOf x c = tl at *
  have HTL := Lib.hid htl; have HFR := Lib.hid hfr; have HWR := Lib.hid hwr
  clear htl hfr hwr hW
  obtain ⟨ek, ec, er, eo⟩ := e
  dsimp only at he
  have hek : (ek == 2) = false := by simp [he]
  unfold En.val
  have l1 := lt_of_block h1; have l2 := lt_of_block h2; have l3 := lt_of_block h3
  go_enter Try.func118, Try.ntmps118
  go_wp2_with fail
  obtain ⟨ze, hze⟩ : ∃ y, y = w.heap.size := ⟨_, rfl⟩
  simp only [← hze]
  generalize hw1 : World.alloc w _ = w1
  have bze : w1.heap[ze]? = some (.cells #[.int .u8 ek, .int .u8 ec, .int .u8 er, .int .u8 eo] 74 (0, 0)) := by rw [← hw1]; exact alloc_new _ _ _ hze
  have K1 : Keep [] w w1 := by rw [← hw1]; exact (by repeat (first | (with_reducible exact Keep.refl _ _) | (with_reducible refine Keep.drew ?_) | (with_reducible refine Keep.drewN ?_ _) | (with_reducible refine Keep.alloc ?_ _) | (with_reducible refine Keep.setCell ?_ (by first | (simp; done) | (simp; omega) | (left; dsimp only; omega)) _)))
  have hlb : b < ze ∧ g < ze ∧ pn < ze := by obtain ⟨t, la, h⟩ := H.out; have h1 := lt_of_block h.head; have h2 := lt_of_block h.row; omega
  refine (HTL.out w1).mono ?_
  rintro e w2 ⟨rfl, K2⟩
  have K02 := K1.trans K2
  have hA2 : ∃ t la, Arn w2 b g W t la := by obtain ⟨t, la, h⟩ := H.out; exact ⟨t, la, h.keep K02 (by simp) (by simp)⟩
  have b2 := K02.get H2.out (by simp); have bz2 := K2.get bze (by simp)
  have d3 := K02.cell (c3 0) (by simp)
  have c2 := cell_at b2; have f2 := frozen_at b2; have l2 := lt_of_block b2
  have HA2 := Lib.hid hA2; have HB2 := Lib.hid b2; have HK2 := Lib.hid K02; have HBZ := Lib.hid bz2
  clear hw1 K1 K2 K02 hA2 b2 bz2 bze c1 c3 hze
  by_cases ht : tl = 1
  · subst ht
    rw [if_pos rfl] at hR
    dsimp only at hR
    have hw65 := wrap64_inc n
    have hw64 := wrap64_inc2 n
    generalize wrap64 ((n + 1 : Nat) : Int) = m1 at *
    generalize wrap64 (n : Int) = m0 at *
    have hpm : ∀ v, (w2.setCell ⟨pn, 0, none⟩ v).cell? ⟨pm, 0, none⟩ = some (.iface 25 (.pointer (some ⟨b, 0, none⟩))) := fun v => (World.cell?_setCell_other _ _ _ _ (by first | (simp; done) | (simp; omega))).trans d3
    go_wp2_with fail
    generalize hw3 : World.setCell w2 _ _ = w3
    have b3 : w3.heap[pn]? = some (.cells #[.int .i64 m1] 3 (0, 0)) := by rw [← hw3]; exact put_at HB2.out 0 _
    have K3 : Keep [pn] w2 w3 := by rw [← hw3]; ((repeat (first | (with_reducible exact Keep.refl _ _) | (with_reducible refine Keep.drew ?_) | (with_reducible refine Keep.drewN ?_ _) | (with_reducible refine Keep.alloc ?_ _) | ((with_reducible refine Keep.setCell ?_ ?_ _); rotate_left; focus (first | (simp; done) | (simp; omega) | (left; dsimp only; omega))))); done)
    have D0 : Hid (w3.cell? ⟨pm, 0, none⟩ = some (.iface 25 (.pointer (some ⟨b, 0, none⟩)))) := by rw [Hid, ← hw3]; exact hpm _
    obtain ⟨t0, la0, hA0⟩ := HA2.out
    have HA3 := Lib.hid (hA0.keep K3 (by simp; omega) (by simp; omega)); have HB3 := Lib.hid b3; have HK3 := Lib.hid ((HK2.out.mono (S' := [b, g, pn]) (by simp)).trans (K3.mono (by simp))); have HBZ3 := Lib.hid (K3.get HBZ.out (by simp; omega))
    clear hw3 b3 K3 hA0 hpm d3 c2 f2
    first
    | (go_region_held3 (fun w' => w'.cell? ⟨pm, 0, none⟩ = some (.iface 25 (.pointer (some ⟨b, 0, none⟩))))
        (first
          | (refine Keep.cell (S := []) (w := w3) ?_ D0.out (by simp); all_goals (((repeat (first | (with_reducible exact Keep.refl _ _) | (with_reducible refine Keep.drew ?_) | (with_reducible refine Keep.drewN ?_ _) | (with_reducible refine Keep.alloc ?_ _) | ((with_reducible refine Keep.setCell ?_ ?_ _); rotate_left; focus (first | (simp; done) | (simp; omega) | (left; dsimp only; omega))))); done)))
          | (refine Keep.cell (S := []) (w := w3) ?_ D0.out (by simp); all_goals (((repeat (first | (with_reducible exact HK4.out) | (with_reducible refine Keep.drew ?_) | (with_reducible refine Keep.drewN ?_ _) | (with_reducible refine Keep.alloc ?_ _) | ((with_reducible refine Keep.setCell ?_ ?_ _); rotate_left; focus (first | (simp; done) | (simp; omega) | (left; dsimp only; omega))))); done)))
          | (refine Keep.cell (S := [b, g]) (w := w3) ?_ D0.out (by simp; omega); all_goals (((repeat (first | (with_reducible exact HK5.out) | (with_reducible refine Keep.drew ?_) | (with_reducible refine Keep.drewN ?_ _) | (with_reducible refine Keep.alloc ?_ _) | ((with_reducible refine Keep.setCell ?_ ?_ _); rotate_left; focus (first | (simp; done) | (simp; omega) | (left; dsimp only; omega))))); done))))
        (first
          | (go_at_call 119; refine (HFR.out _).mono ?_; rintro e w4 ⟨rfl, K4⟩; have HK4 := Lib.hid (show Keep [] w3 w4 from by refine Keep.trans (a := w3) ?_ K4; ((repeat (first | (with_reducible exact Keep.refl _ _) | (with_reducible refine Keep.drew ?_) | (with_reducible refine Keep.drewN ?_ _) | (with_reducible refine Keep.alloc ?_ _) | ((with_reducible refine Keep.setCell ?_ ?_ _); rotate_left; focus (first | (simp; done) | (simp; omega) | (left; dsimp only; omega))))); done)); clear K4)
          | (go_at_call 28; refine (HWR.out _ _ _ (HA3.out.keep (S := []) (by ((repeat (first | (with_reducible exact HK4.out) | (with_reducible refine Keep.drew ?_) | (with_reducible refine Keep.drewN ?_ _) | (with_reducible refine Keep.alloc ?_ _) | ((with_reducible refine Keep.setCell ?_ ?_ _); rotate_left; focus (first | (simp; done) | (simp; omega) | (left; dsimp only; omega))))); done)) (by simp) (by simp))).mono ?_; rintro e w5 ⟨rfl, A5, K5⟩; have HA5 := Lib.hid A5; have HK5 := Lib.hid (show Keep [b, g] w3 w5 from by refine Keep.trans (a := w3) ?_ K5; ((repeat (first | (with_reducible exact HK4.out.mono (by simp)) | (with_reducible refine Keep.drew ?_) | (with_reducible refine Keep.drewN ?_ _) | (with_reducible refine Keep.alloc ?_ _) | ((with_reducible refine Keep.setCell ?_ ?_ _); rotate_left; focus (first | (simp; done) | (simp; omega) | (left; dsimp only; omega))))); done)); clear A5 K5)))
    | fail
    all_goals (
      have bz5 := HK5.out.get HBZ3.out (by simp; omega)
      have cz5 := cell_at bz5; have lz5 := lt_of_block bz5
      have HB5 := Lib.hid (HK5.out.get HB3.out (by simp; omega))
      have HKF := Lib.hid (HK3.out.trans (HK5.out.mono (by simp)))
      go_wp2_with fail
      refine bodyPost_end (v := .tuple #[]) ?_ rfl ?_
      · kernel_rfl
      exact hR.out _ _ ⟨rfl, ⟨_, _, HA5.out⟩, HB5.out, HKF.out⟩)
  · have ht2 : (tl == 1) = false := by simp [ht]
    rw [if_neg ht] at hR
    go_wp2_with fail
    refine bodyPost_ret (v := .tuple #[]) ?_ rfl ?_
    · kernel_rfl
    exact hR.out _ _ ⟨rfl, HA2.out, HB2.out, HK2.out.mono (by simp)⟩

structure StaysR (l : Lay) (es : Nat → En) (c : Int) (P : List Int → Prop) : Prop where
  words : ∀ W, P W → Words W ∧ ∀ k : Nat, k < l.b → entryOf W l k = es k
  kind : ∀ k, (es k).k ≠ 2
  len : ∀ W, P W → l.base + l.b ≤ W.length
  next : ∀ W (k : Nat) a, P W → k < l.b → a ∈ headsL (l.start k) (es k) → P (putz W a (freeOf (rdz W a)))

set_option maxRecDepth 100000 in
theorem reap_all_fn (o : Int) (w : World) : Calls Try.prog 120 #[.int .u8 o] w fun e w' => e = .returned (.bool true) ∧ Keep [] w w' := by
  refine calls_abs fun R hR => ?_
  go_enter Try.func120, Try.ntmps120
  go_wp2_with fail
  exact hR.out _ _ ⟨rfl, Keep.refl _ _⟩

set_option maxRecDepth 100000 in
set_option maxHeartbeats 4000000 in
theorem reap_reap {w : World} {b g : Nat} {W : List Int} (h : ∃ t la, Arn w b g W t la) (l : Lay) (hl : l.fits) {es : Nat → En} (c : Int) (hc : 0 ≤ c ∧ c ≤ 1) {P : List Int → Prop} (hS : StaysR l es c P) (hP : P W) :
    Calls Try.prog 69 #[.iface 25 (.pointer (some ⟨b, 0, none⟩)), l.val, .int .u8 c] w fun e w' => e = .returned (.int .i64 (wrap64 (reapS c ((headsOf l es l.b).map (·.1)) W).2)) ∧
      (∃ t la, Arn w' b g (waitW l (fun _ => true) (reapS c ((headsOf l es l.b).map (·.1)) W).1 l.b) t la) ∧ Keep [b, g] w w' := by
  refine calls_abs fun R hR => ?_
  have hmf : ∀ (fn : Fn) (first cap : Array Value) (w : World), (Instr.makeFunc fn first cap).run Try.prog w = .ok (.func fn first cap) w := fun _ _ _ _ => rfl
  have hF := Try.call118
  have hF2 := Try.call120
  have hval : l.val = .agg #[.int .i64 l.t, .int .i64 l.g, .int .i64 l.b] := rfl
  have lbg : b < w.heap.size ∧ g < w.heap.size := by obtain ⟨t, la, h⟩ := h; exact ⟨lt_of_block h.head, lt_of_block h.row⟩
  have hc1 : decide (1 < c) = false := by simp; omega
  have hc2 : ¬ 1 < c := by omega
  have hwk := fun (pc pn pm pl : Nat) (w0 : World) (hd : (pn ≠ b ∧ pn ≠ g ∧ pc ≠ pn ∧ pm ≠ pn ∧ pm ≠ b ∧ pm ≠ g) ∧ (pc ≠ b ∧ pc ≠ g ∧ pl ≠ b ∧ pl ≠ g ∧ pl ≠ pn)) (t la : Int) (hA : Arn w0 b g W t la)
      (h1 : w0.heap[pc]? = some (.cells #[.int .u8 c] 5 (0, 0))) (h2 : w0.heap[pn]? = some (.cells #[.int .i64 0] 3 (0, 0))) (h3 : w0.heap[pm]? = some (.cells #[.iface 25 (.pointer (some ⟨b, 0, none⟩))] 118 (0, 0)))
      (h4 : w0.heap[pl]? = some (.cells #[.int .i64 l.t, .int .i64 l.g, .int .i64 l.b] 53 (0, 0))) =>
    trace_walk (w := w0) (W := W) (b := b) (g := g) (t := t) (la := la) (f := 118) hl (es := es) (own := [pc, pn, pm, pl]) (caps := #[.pointer (some ⟨pc, 0, none⟩), .pointer (some ⟨pn, 0, none⟩), .pointer (some ⟨pm, 0, none⟩), .pointer (some ⟨pl, 0, none⟩)])
      (I := fun pre V wx => V = (reapS c (pre.map (·.1)) W).1 ∧ P V ∧ wx.heap[pn]? = some (.cells #[.int .i64 (wrap64 (reapS c (pre.map (·.1)) W).2)] 3 (0, 0)) ∧ wx.heap[pc]? = some (.cells #[.int .u8 c] 5 (0, 0)) ∧ wx.heap[pm]? = some (.cells #[.iface 25 (.pointer (some ⟨b, 0, none⟩))] 118 (0, 0)) ∧ wx.heap[pl]? = some (.cells #[.int .i64 l.t, .int .i64 l.g, .int .i64 l.b] 53 (0, 0)))
      { enter := hF
        keep := fun hI k ho => ⟨hI.1, hI.2.1, k.get hI.2.2.1 (ho pn (by simp)), k.get hI.2.2.2.1 (ho pc (by simp)), k.get hI.2.2.2.2.1 (ho pm (by simp)), k.get hI.2.2.2.2.2 (ho pl (by simp))⟩
        cells := fun hI x hx => by
          simp at hx
          rcases hx with rfl | rfl | rfl | rfl
          · exact ⟨_, _, _, hI.2.2.2.1⟩
          · exact ⟨_, _, _, hI.2.2.1⟩
          · exact ⟨_, _, _, hI.2.2.2.2.1⟩
          · exact ⟨_, _, _, hI.2.2.2.2.2⟩
        words := fun hI => hS.words _ hI.2.1
        apart := by simp; omega
        round := fun pre V wx t la a k hI hA hk ha => by
          obtain ⟨i1, i2, i3, i4, i5, i6⟩ := hI
          refine (reap_fn ⟨t, la, hA⟩ (hS.words V i2).1 a k c (es k) (hS.kind k) ⟨hc.1, by omega⟩ pc pn pm pl _ hd.1 i4 i3 i5).mono ?_
          rintro x w' ⟨rfl, A', hm, K⟩
          have hv : visitR c (V, (reapS c (pre.map (·.1)) W).2) a = reapS c ((pre ++ [(a, k)]).map (·.1)) W := by
            rw [List.map_append, List.map_cons, List.map_nil, reapS_snoc, i1]
          rw [hv] at A' hm
          refine ⟨rfl, _, A', ⟨rfl, ?_, hm, K.get i4 (by simp; omega), K.get i5 (by simp; omega), K.get i6 (by simp; omega)⟩, K.mono (by simp)⟩
          rw [← hv]
          unfold visitR
          dsimp only
          split
          · exact hS.next V k a i2 hk ha
          · exact i2 }
      hA ⟨rfl, hP, by rw [h2]; congr 3; unfold wrap64 reapS; simp, h1, h3, h4⟩
  have hwt := fun (w' : World) (V : List Int) (hV : P V) (t la : Int) (hA : Arn w' b g V t la) => give_waiting hA (hS.words V hV).1 l hl (hS.len V hV) 120 hF2 #[] (fun _ => true) (fun o w2 ho k => reap_all_fn o w2)
  rw [hval] at hwk hwt ⊢
  have HWK := Lib.hid hwk; have HWT := Lib.hid hwt; have H := Lib.hid h
  clear hwk hwt h hval
  go_enter Try.func69, Try.ntmps69
  go_wp2_with fail
  obtain ⟨z, hz⟩ : ∃ z, z = w.heap.size := ⟨_, rfl⟩
  simp only [← hz] at lbg ⊢
  generalize hw1 : World.alloc _ _ = w1
  have K1 : Keep [] w w1 := by rw [← hw1]; exact (by repeat (first | (with_reducible exact Keep.refl _ _) | (with_reducible refine Keep.drew ?_) | (with_reducible refine Keep.drewN ?_ _) | (with_reducible refine Keep.alloc ?_ _) | (with_reducible refine Keep.setCell ?_ (by first | (simp; done) | (simp; omega) | (left; dsimp only; omega)) _)))
  have h1 : w1.heap[z + 1 + 1]? = some (.cells #[.int .u8 c] 5 (0, 0)) := by rw [← hw1]; exact alloc_keeps (alloc_new _ _ _ (by simp [hz])) _
  have h2 : w1.heap[z + 1 + 1 + 1]? = some (.cells #[.int .i64 0] 3 (0, 0)) := by rw [← hw1]; exact alloc_new _ _ _ (by simp [hz])
  have h3 : w1.heap[z]? = some (.cells #[.iface 25 (.pointer (some ⟨b, 0, none⟩))] 118 (0, 0)) := by rw [← hw1]; exact alloc_keeps (alloc_keeps (alloc_keeps (alloc_new _ _ _ hz) _) _) _
  have h4 : w1.heap[z + 1]? = some (.cells #[.int .i64 l.t, .int .i64 l.g, .int .i64 l.b] 53 (0, 0)) := by rw [← hw1]; exact alloc_keeps (alloc_keeps (alloc_new _ _ _ (by simp [hz])) _) _
  obtain ⟨t, la, hA⟩ := H.out
  refine (HWK.out (z + 1 + 1) (z + 1 + 1 + 1) z (z + 1) w1 (by omega) t la (hA.keep K1 (by simp) (by simp)) h1 h2 h3 h4).mono ?_
  rintro e w2 ⟨rfl, V, A2, ⟨rfl, hP2, hn2, -, hm2, hl2⟩, K2⟩
  have hk2 : Keep [b, g] w w2 := by
    refine (K1.mono (S' := [b, g]) (by simp)).fresh K2 (fun x hx => ?_)
    simp at hx
    rcases hx with rfl | rfl | rfl | rfl | rfl | rfl
    · simp
    · simp
    all_goals (left; omega)
  obtain ⟨t2, la2, A2⟩ := A2
  have HA2 := Lib.hid A2; have HP2 := Lib.hid hP2; have HKK := Lib.hid hk2; have HN2 := Lib.hid hn2
  have c2 := cell_at hm2; have c4 := cell_at hl2; have l2 := lt_of_block hm2; have l4 := lt_of_block hl2
  generalize hrs : reapS c (List.map (·.1) (headsOf l es l.b)) W = rs at *
  clear A2 hP2 hk2 hn2 h1 h2 h3 h4 hw1 K1 hA K2 hz
  go_wp2_with fail
  refine (HWT.out w2 _ HP2.out _ _ HA2.out).mono ?_
  rintro e w3 ⟨rfl, A3, K3⟩
  have c3 := cell_at (K3.get HN2.out (by simp; omega))
  have HA3 := Lib.hid A3; have HK3 := Lib.hid (HKK.out.trans K3)
  generalize wrap64 (rs.2 : Int) = m at *
  clear A3 K3 c2 c4 l2 l4
  go_wp2_with fail
  exact hR.out _ _ ⟨rfl, HA3.out, HK3.out⟩

set_option maxRecDepth 100000 in
theorem reap_nil (l : Lay) (c : Int) (w : World) :
    Calls Try.prog 69 #[.nilIface, l.val, .int .u8 c] w fun e w' => e = .returned (.int .i64 0) ∧ Keep [] w w' := by
  refine calls_abs fun R hR => ?_
  unfold Lay.val
  go_enter Try.func69, Try.ntmps69
  go_wp2_with fail
  all_goals exact hR.out _ _ ⟨rfl, (by repeat (first | (with_reducible exact Keep.refl _ _) | (with_reducible refine Keep.drew ?_) | (with_reducible refine Keep.drewN ?_ _) | (with_reducible refine Keep.alloc ?_ _) | (with_reducible refine Keep.setCell ?_ (by first | (simp; done) | (simp; omega) | (left; dsimp only; omega)) _)))⟩

theorem stays_reap (n : Nat) (hn : n ≤ 6) (bl : List Int) (hb : ∀ k, 0 ≤ bl.getD k 0) (c : Int) : StaysR ⟨1, 2, n⟩ (fun k => enS (bl.getD k 0)) c (HeapW n bl) where
  words := (stays_heap n hn bl hb 0 (by omega)).words
  kind := fun k => by
    unfold enS
    split
    · simp
    · split
      · simp [En.zero]
      · simp
  len := fun W h => by rw [h.len]; unfold Lay.base; dsimp only; omega
  next := fun W k a h hk ha => by
    rw [heads_enS _ _ _ (hb k)] at ha
    obtain ⟨s, hs, rfl⟩ := all_spots (n := n) (bl := bl) a (List.mem_flatMap.2 ⟨k, List.mem_range.2 hk, ha⟩)
    have hx := (h.words s.1)
    exact h.head hs _ (free_bd _ hx.1) (by rw [free_refs _ hx.1]; obtain ⟨_, _, _, _, _, _, h3, _⟩ := mem_spots hs; omega)
end Go.Proofs.Ytnadiddaeolanaa
