/- Layer 22 as the document says it: Reap. -/
import Derived.Test.YtnadiddaeolanaaRef15b
import Derived.Test.YtnadiddaeolanaaReap
namespace Go.Proofs.Ytnadiddaeolanaa
open Go.RowKit
set_option linter.unusedVariables false
set_option linter.unusedSimpArgs false

theorem reapS_take (c : Int) (hs : List Int) (W : List Int) (q : Nat) (hq : q < hs.length) : reapS c (hs.take (q + 1)) W = visitR c (reapS c (hs.take q) W) hs[q] := by
  rw [List.take_add_one, List.getElem?_eq_getElem hq]
  exact reapS_snoc c (hs.take q) W hs[q]
theorem reap_heap {n : Nat} {bl : List Int} (c : Int) : ∀ (hs : List Int) (st : List Int × Nat), (∀ a ∈ hs, ∃ s ∈ spots n bl, a = s.1) → HeapW n bl st.1 → HeapW n bl (hs.foldl (visitR c) st).1 ∧ (hs.foldl (visitR c) st).2 ≤ st.2 + hs.length
  | [], st, _, h => ⟨h, by simp⟩
  | a :: hs, st, hm, h => by
    rw [List.foldl_cons]
    have h1 : HeapW n bl (visitR c st a).1 ∧ (visitR c st a).2 ≤ st.2 + 1 := by
      unfold visitR
      split
      · obtain ⟨s, hs', rfl⟩ := hm a (by simp)
        have hx := h.words s.1
        exact ⟨h.head hs' _ (free_bd _ hx.1) (by rw [free_refs _ hx.1]; obtain ⟨_, _, _, _, _, _, h3, _⟩ := mem_spots hs'; omega), by simp⟩
      · exact ⟨h, by omega⟩
    have h2 := reap_heap c hs _ (fun b hb => hm b (by simp [hb])) h1.1
    exact ⟨h2.1, by have := h2.2; have := h1.2; simp only [List.length_cons]; omega⟩
theorem reap_take_heap {n : Nat} {bl : List Int} (c : Int) (W : List Int) (hH : HeapW n bl W) (q : Nat) : HeapW n bl (reapS c ((allS ⟨1, 2, n⟩ bl n).take q) W).1 ∧ (reapS c ((allS ⟨1, 2, n⟩ bl n).take q) W).2 ≤ q := by
  have h := reap_heap c ((allS ⟨1, 2, n⟩ bl n).take q) (W, 0) (fun a ha => all_spots a (List.mem_of_mem_take ha)) hH
  refine ⟨h.1, Nat.le_trans h.2 ?_⟩
  simp only [List.length_take]
  omega
theorem heapW_own0 {n : Nat} (hn : n ≤ 6) {bl W : List Int} (hb0 : ∀ k, 0 ≤ bl.getD k 0) (h : HeapW n bl W) : Own0 ⟨1, 2, n⟩ W := fun b hb => by
  have hw := ((stays_heap n hn bl hb0 0 (by omega)).words W h).2 b hb
  rw [hw]
  unfold enS En.zero
  split
  · rfl
  · split <;> rfl

set_option maxRecDepth 100000 in
theorem ref22_reap_high {w : World} {sv : Value} (l : Lay) (c : Int) (hc : 1 < c) (hsv : ∃ ao n cap, sv = .slice ao n cap) :
    Calls Try.prog 72 #[hpV sv l, .int .u8 c] w fun e w' => e = .returned (.tuple #[hpV sv l, .int .i64 0]) ∧ Keep [] w w' := by
  refine calls_abs fun R hR => ?_
  obtain ⟨ao, N, cap, rfl⟩ := hsv
  obtain ⟨lt, lg, lb⟩ := l
  unfold hpV at *
  dsimp only at *
  have q0 : decide (1 < c) = true := by simpa using hc
  go_enter Try.func72, Try.ntmps72
  go_wp2_with fail
  refine bodyPost_ret (v := .tuple #[.agg #[.slice ao N cap, .int .i64 lt, .int .i64 lg, .int .i64 lb], .int .i64 0]) ?_ rfl ?_
  · simp [results, Try.results72, go_sem]
  exact hR.out _ _ ⟨rfl, (by repeat (first | (with_reducible exact Keep.refl _ _) | (with_reducible refine Keep.drew ?_) | (with_reducible refine Keep.drewN ?_ _) | (with_reducible refine Keep.alloc ?_ _) | (with_reducible refine Keep.setCell ?_ (by first | (simp; done) | (simp; omega) | (left; dsimp only; omega)) _)))⟩

set_option maxRecDepth 100000 in
set_option maxHeartbeats 16000000 in
theorem ref22_reap {w : World} {sv : Value} (n : Nat) (hn : n ≤ 6) (hn1 : 1 ≤ n) (bl : List Int) (hb0 : ∀ k, 0 ≤ bl.getD k 0) (W : List Int) (hH : HeapW n bl W) (hr : Rd w sv W.length (u64s W)) (c : Int) (hc : c ≤ 1) :
    Calls Try.prog 72 #[hpV sv ⟨1, 2, n⟩, .int .u8 c] w fun e w' => ∃ sv', e = .returned (.tuple #[hpV sv' ⟨1, 2, n⟩, .int .i64 ((reapS c (allS ⟨1, 2, n⟩ bl n) W).2 : Nat)]) ∧ Rd w' sv' W.length (u64s (waitW ⟨1, 2, n⟩ (fun _ => true) (reapS c (allS ⟨1, 2, n⟩ bl n) W).1 n)) ∧ Keep [] w w' ∧ From w sv sv' := by
  refine calls_abs fun R hR => ?_
  have mixed : Try.prog.follows .mixedOrders = true := by kernel_rfl
  obtain ⟨ao, cap, rfl, hc1, hc2⟩ := hr.shape
  have hfit : (Lay.mk 1 2 n).fits := ⟨by show (1 : Nat) ≤ 64; omega, by show (2 : Nat) ≤ 8; omega, by show n ≤ 64; omega⟩
  have hbase : (Lay.mk 1 2 n).base = 6 := rfl
  have hhd := fun (w' : World) (k : Keep [] w w') => ref21_heads n hn bl hb0 W hH (.slice ao W.length cap) w' (hr.keep k (fun _ _ => by simp))
  have hpt := fun q hq => reapS_take c (allS ⟨1, 2, n⟩ bl n) W q hq
  have hph := fun q => reap_take_heap (n := n) (bl := bl) c W hH q
  have hal := allS_len (Lay.mk 1 2 n) bl n
  have hsp := all_spots (n := n) (bl := bl)
  have hlen := hH.len
  have hown := fun (V : List Int) (h : HeapW n bl V) => waitAll_is (heapW_own0 hn hb0 h) (by show 6 + n ≤ _; rw [h.len]; omega) 63
  have hen := fun (w' : World) (sv' : Value) (V : List Int) (hrv : Rd w' sv' V.length (u64s V)) (hV : HeapW n bl V) (k : Nat) (hk : k < n) => (show Calls Try.prog 122 #[hpV sv' ⟨1, 2, n⟩, .int .i64 k] w' fun e w'' => e = .returned (enS (bl.getD k 0)).val ∧ Keep [] w' w'' from by
    have h := ref15_entry hrv hV.words (Lay.mk 1 2 n) hfit (by show 6 + n ≤ _; rw [hV.len]; omega) (by rw [hV.len]; omega) k hk
    rwa [((stays_heap n hn bl hb0 0 (by omega)).words V hV).2 k hk] at h)
  have hwi := fun (w' : World) (sv' : Value) (V : List Int) (hrv : Rd w' sv' V.length (u64s V)) (hs : 1 ≤ V.length ∧ V.length ≤ 4096) (a : Nat) (ha : a < V.length) (v : Int) => ref15_with hrv hs (Lay.mk 1 2 n) a ha v
  have hwt := fun (w' : World) (sv' : Value) (V : List Int) (hrv : Rd w' sv' V.length (u64s V)) (hV : Words V) (hf : 6 + n ≤ V.length) (hs : V.length ≤ 4096) (o : Int) => ref15_waiting hrv hV (Lay.mk 1 2 n) hfit hf hs o
  have hst := fun (k : Nat) w => ref06_start (Lay.mk 1 2 n) hfit k w
  have hkind := fun k => (enS_cases (Lay.mk 1 2 n) k (bl.getD k 0) (hb0 k))
  unfold hpV Lay.val at *
  dsimp only at *
  push_cast at *
  generalize allS (Lay.mk 1 2 n) bl n = hs at *
  obtain ⟨M, hM⟩ : ∃ M, M = hs.length := ⟨_, rfl⟩
  rw [← hM] at hhd hal
  obtain ⟨N, hN⟩ : ∃ N, N = W.length := ⟨_, rfl⟩
  rw [← hN] at hr hlen hR hc1 hhd ⊢
  have hN2 : 6 + 33 * n ≤ N ∧ N ≤ 6 + 33 * n := by omega
  have hNl := Lib.hid (show 6 + 33 * n = N from hlen.symm)
  have HHD := Lib.hid hhd; have HPT := Lib.hid hpt; have HPH := Lib.hid hph; have HSP := Lib.hid hsp; have HM := Lib.hid hM; have HN := Lib.hid hN; have HR := Lib.hid hr; have HOWN := Lib.hid hown; have HEN := Lib.hid hen; have HWI := Lib.hid hwi; have HWT := Lib.hid hwt; have HST := Lib.hid hst; have HKIND := Lib.hid hkind
  clear hhd hpt hph hsp hM hN hr hlen hown hen hwi hwt hst hkind hfit hbase hH
  have q0 : decide (1 < c) = false := by simp; omega
  go_enter Try.func72, Try.ntmps72
  go_wp2_with fail
  obtain ⟨z, hz⟩ : ∃ z, z = w.heap.size := ⟨_, rfl⟩
  simp only [← hz]
  generalize hw1 : World.alloc _ _ = w1
  have HB1 := Lib.hid (HpB.first (V := W) (lt := 1) (lg := 2) (lb := n) hz hw1.symm HN.out.symm (by omega) HR.out)
  clear hw1 hz
  refine (HHD.out w1 HB1.out.keep).mono ?_
  rintro e w2 ⟨vh, rfl, hos, K2⟩
  have hrs := Rd.of_owns hos (by intro u hu; obtain ⟨x, _, rfl⟩ := List.mem_map.1 hu; rfl)
  obtain ⟨ah, caph, rfl, -, -⟩ := owns_val hos
  have hvf : ∀ q, (Value.slice ah M caph).ownBlock = some q → z + 1 < q ∧ q < w2.heap.size := fun q hq => by have h1 := owns_block hos q hq; have h2 := lt_of_block HB1.out.res; omega
  have HRS := Lib.hid hrs; have HB2 := Lib.hid (HB1.out.far_ K2); have HVF := Lib.hid hvf
  clear K2 hos hrs HB1 hvf
  go_wp2_with fail
  go_loopg [6, 8] M (fun j nv iv wr => ∃ (i : Nat) (ax : Option Addr) (cp : Nat), i + j = M ∧ iv = .int .i64 i ∧ nv = .int .i64 ((reapS c (hs.take i) W).2 : Nat) ∧ HpB w wr (.slice ao N cap) z N 1 2 n ax cp (reapS c (hs.take i) W).1 ∧ Rd wr (.slice ah M caph) M (intsV hs))
  case atStart => exact ⟨0, _, _, by omega, rfl, rfl, HB2.out, HRS.out⟩
  case round =>
    obtain ⟨i, ai, cp, hij, rfl, rfl, hB, hrh⟩ := hrel
    have hvi := HPH.out i
    by_cases hir : i < M
    · have i1 : (i : Int) < M := by omega
      have i0 : (0 : Int) ≤ (i : Int) := by omega
      have hih : i < hs.length := by rw [← HM.out]; exact hir
      obtain ⟨s, hss, hse⟩ := HSP.out hs[i] (List.getElem_mem hih)
      have hin := spots_in hss
      obtain ⟨_, _, _, _, _, _, hs21, _⟩ := mem_spots hss
      have hpt := HPT.out i hih
      obtain ⟨gh, oh, hah, -, hch⟩ := hrh.some (by rw [intsV_len, ← HM.out]; omega)
      subst hah
      have hcq := hch i _ (by rw [intsV_get, List.getElem?_eq_getElem hih]; rfl)
      obtain ⟨A, hA⟩ : ∃ A : Nat, hs[i] = (A : Int) := ⟨hs[i].toNat, by omega⟩
      rw [hA] at hcq hpt
      have hpi := HPH.out (i + 1)
      generalize hps : reapS c (hs.take i) W = st at *
      obtain ⟨V, m⟩ := st
      dsimp only at *
      have hVl := hvi.1.len
      have hAN : A < N := by omega
      have hAV : A < V.length := by omega
      have a1 : (A : Int) < N := by omega
      have a0 : (0 : Int) ≤ (A : Int) := by omega
      obtain ⟨av, ov, hav, hal2, hac⟩ := hB.rd.some (by rw [u64s_len]; omega)
      subst hav
      have hri : rdz V (A : Int) = V.getD A 0 := by rw [rdz_nat hAV, List.getD_eq_getElem?_getD, List.getElem?_eq_getElem hAV]; rfl
      have hcell := hac A (.int .u64 (rdz V (A : Int))) (by rw [hri]; simp [u64s, hAV])
      have hxb := hvi.1.words (A : Int)
      have htl := fun w => ref13_tell (rdz V (A : Int)) c hxb w
      unfold visitR at hpt
      dsimp only at hpt
      have c0 := cell_at hB.box; have f0 := frozen_at hB.box; have l0 := lt_of_block hB.box
      push_cast at c0
      have hmw : m ≤ 96 := by omega
      have HPQ := Lib.hid hpt; have HB := Lib.hid hB; have HVI := Lib.hid hvi.1; have HRH := Lib.hid hrh; have HPI := Lib.hid hpi
      clear hpt hB hvi hrh hch hac hpi
      generalize hx : rdz V (A : Int) = x at *
      have HX := Lib.hid hx
      generalize hty : tellOf x c = ty at *
      have HTL := Lib.hid htl; have HSE := Lib.hid hse; have HSS := Lib.hid hss; have HA := Lib.hid hA; have HVL := Lib.hid hVl
      clear hx hty htl hse hss hA hri hps hVl
      go_wp2_with fail
      refine (HTL.out wr).mono ?_
      rintro e w3 ⟨rfl, K3⟩
      have hB3 := HB.out.far_ K3
      have hcell3 := K3.cell hcell (by simp)
      have HRH3 := Lib.hid (HRH.out.keep K3 (fun _ _ => by simp))
      have c0 := cell_at hB3.box; have f0 := frozen_at hB3.box; have l0 := lt_of_block hB3.box
      push_cast at c0
      have HB3 := Lib.hid hB3
      clear hB3 K3 hcell hcq
      by_cases ht : ty = 1
      · subst ht
        have hpt := HPQ.out
        rw [if_pos rfl] at hpt
        have htk := fun w => ref01_take x hxb w
        obtain ⟨er, her⟩ : ∃ er : Int, er = if isHd x then 0 else 3 := ⟨_, rfl⟩
        rw [← her] at htk
        have hwd := fun w => ref01_word (freeH x) (freeH_u8 x hxb.1) w
        rw [show (freeH x).word = freeOf x from rfl] at hwd
        have hset : putz V (A : Int) (freeOf x) = V.set A (freeOf x) := putz_nat (by rw [HVL.out]; omega) _
        rw [hset] at hpt
        have hwi := fun (w' : World) (K : Keep [] w3 w') => HWI.out w' (.slice (some ⟨av, ov, none⟩) N cp) V (by rw [HVL.out, hNl.out]; exact HB3.out.rd.keep K (fun _ _ => by simp)) (by rw [HVL.out]; omega) A (by rw [HVL.out]; omega) (freeOf x)
        rw [show V.length = N from by rw [HVL.out]; exact hNl.out] at hwi
        obtain ⟨V2, hV2⟩ : ∃ V2, V2 = V.set A (freeOf x) := ⟨_, rfl⟩
        rw [← hV2] at hpt hwi
        have hpi := HPI.out
        rw [hpt] at hpi
        dsimp only at hpi
        unfold freeH at hwd
        generalize freeOf x = fx at *
        generalize takeH x = d at *
        obtain ⟨dk, dc, dg, dm, dow, dr, ds⟩ := d
        unfold Hd.val at htk hwd
        dsimp only at htk hwd
        have HPT2 := Lib.hid hpt; have HTK := Lib.hid htk; have HWD := Lib.hid hwd; have HWIA := Lib.hid hwi; have HPI2 := Lib.hid hpi
        clear hpt htk hwd hwi hpi hset her hV2 HPQ HX
        go_wp2_with fail
        refine (HTK.out w3).mono ?_
        rintro e w4 ⟨rfl, K4⟩
        have hB4 := HB3.out.far_ K4
        have hlv := hB4.len
        have HB4 := Lib.hid hB4; have HRH4 := Lib.hid (HRH3.out.keep K4 (fun _ _ => by simp)); have HK4 := Lib.hid K4
        clear hB4 K4 hcell3 hlv c0 f0 l0 HB3 HRH3
        go_upto_region 12 with (fail)
        obtain ⟨zh, hzh⟩ : ∃ y, y = w4.heap.size := ⟨_, rfl⟩
        simp only [← hzh]
        generalize hwb : World.alloc _ _ = wb
        have bh : wb.heap[zh]? = some (.cells #[.int .u8 dk, .int .u8 dc, .bool dg, .bool dm, .int .u8 dow, .int .u8 dr, .int .u8 ds] 122 (0, 0)) := by rw [← hwb]; exact alloc_new _ _ _ hzh
        have Kb : Keep [] w4 wb := by rw [← hwb]; exact (by repeat (first | (with_reducible exact Keep.refl _ _) | (with_reducible refine Keep.drew ?_) | (with_reducible refine Keep.drewN ?_ _) | (with_reducible refine Keep.alloc ?_ _) | (with_reducible refine Keep.setCell ?_ (by first | (simp; done) | (simp; omega) | (left; dsimp only; omega)) _)))
        have hBb := HB4.out.far_ Kb
        have c0 := cell_at hBb.box; have f0 := frozen_at hBb.box; have l0 := lt_of_block hBb.box
        push_cast at c0
        have ch := cell_at bh; have lh := lt_of_block bh
        have HBb := Lib.hid hBb; have HBH := Lib.hid bh; have HKb := Lib.hid (HK4.out.trans Kb); have HRHb := Lib.hid (HRH4.out.keep Kb (fun _ _ => by simp))
        clear hwb hzh bh Kb hBb
        go_region_with_o (first
          | (go_at_call 80; refine (HWD.out _).mono ?_; rintro e w5 ⟨rfl, K5⟩; have HK5 := Lib.hid (show Keep [] wb w5 from by refine Keep.trans (a := wb) ?_ K5; ((repeat (first | (with_reducible exact Keep.refl _ _) | (with_reducible refine Keep.drew ?_) | (with_reducible refine Keep.drewN ?_ _) | (with_reducible refine Keep.alloc ?_ _) | ((with_reducible refine Keep.setCell ?_ ?_ _); rotate_left; focus (first | (simp; done) | (simp; omega) | (left; dsimp only; omega))))); done)); have c05 := cell_at (HK5.out.get HBb.out.box (by simp)); push_cast at c05; clear K5)
          | (go_at_call 121; refine (HWIA.out _ (HKb.out.trans (by ((repeat (first | (with_reducible exact HK5.out) | (with_reducible refine Keep.drew ?_) | (with_reducible refine Keep.drewN ?_ _) | (with_reducible refine Keep.alloc ?_ _) | ((with_reducible refine Keep.setCell ?_ ?_ _); rotate_left; focus (first | (simp; done) | (simp; omega) | (left; dsimp only; omega))))); done)))).mono ?_; rintro e w6 ⟨sv6, rfl, R6, K6, F6⟩; have HK6 := Lib.hid (show Keep [] wb w6 from by refine Keep.trans (a := wb) ?_ K6; ((repeat (first | (with_reducible exact HK5.out) | (with_reducible refine Keep.drew ?_) | (with_reducible refine Keep.drewN ?_ _) | (with_reducible refine Keep.alloc ?_ _) | ((with_reducible refine Keep.setCell ?_ ?_ _); rotate_left; focus (first | (simp; done) | (simp; omega) | (left; dsimp only; omega))))); done)); obtain ⟨a6, cp6, hv6, -, -⟩ := R6.shape; subst hv6; have HR6 := Lib.hid R6; have HF6 := Lib.hid F6; have b6 := HK6.out.get HBb.out.box (by simp); have c06 := cell_at b6; have f06 := frozen_at b6; have l06 := lt_of_block b6; clear K6 R6 F6 b6))
        all_goals (
          generalize hw7 : World.setCell _ _ _ = w7
          have hB7 : HpB w w7 (.slice ao N cap) z N 1 2 n a6 cp6 V2 := by
            rw [← hw7]
            refine HBb.out.put HK6.out (by rw [HPI2.out.1.len]; exact hNl.out) HR6.out ?_
            intro q hq
            rcases HF6.out q hq with h | h
            · exact .inl h
            · exact .inr (Nat.le_trans HK5.out.size (by simpa using h))
          have hk7 : Keep [z] w6 w7 := by rw [← hw7]; ((repeat (first | (with_reducible exact Keep.refl _ _) | (with_reducible refine Keep.drew ?_) | (with_reducible refine Keep.drewN ?_ _) | (with_reducible refine Keep.alloc ?_ _) | ((with_reducible refine Keep.setCell ?_ ?_ _); rotate_left; focus (first | (simp; done) | (simp; omega) | (left; dsimp only; omega))))); done)
          have hrh7 := (HRHb.out.keep HK6.out (fun _ _ => by simp)).keep hk7 (fun q hq => by have := HVF.out q hq; simp; omega)
          have HB7 := Lib.hid hB7; have HRH7 := Lib.hid hrh7
          clear hw7 hB7 hk7 hrh7 c06 f06 l06 c05 c0 f0 l0 ch lh
          go_wp2_with fail
          go_loopg [12] n (fun j v12 wq => ∃ q : Nat, q + j = n ∧ v12 = .int .i64 q ∧ HpB w wq (.slice ao N cap) z N 1 2 n a6 cp6 V2 ∧ Rd wq (.slice (some ⟨gh, oh, none⟩) M caph) M (intsV hs))
          case atStart => exact ⟨0, by omega, rfl, HB7.out, HRH7.out⟩
          case round =>
            obtain ⟨q, hqj, rfl, hB, hrh⟩ := hrel
            have c0 := cell_at hB.box; have f0 := frozen_at hB.box; have l0 := lt_of_block hB.box
            push_cast at c0
            by_cases hqn : q < n
            · have j1 : (q : Int) < n := by omega
              have hen := HEN.out wr (.slice a6 N cp6) V2 (by rw [hB.len]; exact hB.rd) HPI2.out.1 q hqn
              obtain ⟨ek, ec, hes, hk2, -, -, -, -, -⟩ := HKIND.out q
              rw [hes] at hen
              unfold En.val at hen
              dsimp only at hen
              have hst := fun w => HST.out q w
              obtain ⟨sb, hsb⟩ : ∃ sb : Bool, sb = ((Lay.mk 1 2 n).start (q : Int) == (A : Int)) := ⟨_, rfl⟩
              generalize (Lay.mk 1 2 n).start (q : Int) = st at *
              have ek2 : (ek == 2) = false := by simp [hk2]
              have HEQ := Lib.hid hen; have HSTQ := Lib.hid hst; have HB := Lib.hid hB; have HRHQ := Lib.hid hrh; have HSB := Lib.hid hsb
              clear hen hst hB hrh hes hsb hk2
              go_wp2_with fail
              refine HEQ.out.mono ?_
              rintro e w8 ⟨rfl, K8⟩
              have hB8 := HB.out.far_ K8
              have c0 := cell_at hB8.box; have f0 := frozen_at hB8.box; have l0 := lt_of_block hB8.box
              push_cast at c0
              have HB8 := Lib.hid hB8; have HRH8 := Lib.hid (HRHQ.out.keep K8 (fun _ _ => by simp))
              clear hB8 K8 HEQ
              go_wp2_with fail
              refine (HSTQ.out _).mono ?_
              rintro e w9 ⟨rfl, K9⟩
              have hk9 : Keep [] w8 w9 := by refine Keep.trans ?_ K9; ((repeat (first | (with_reducible exact Keep.refl _ _) | (with_reducible refine Keep.drew ?_) | (with_reducible refine Keep.drewN ?_ _) | (with_reducible refine Keep.alloc ?_ _) | ((with_reducible refine Keep.setCell ?_ ?_ _); rotate_left; focus (first | (simp; done) | (simp; omega) | (left; dsimp only; omega))))); done)
              have he9 := K9.get (alloc_new w8 _ _ rfl) (by simp)
              have ce := cell_at he9; have le := lt_of_block he9
              have hB9 := HB8.out.far_ hk9
              have c0 := cell_at hB9.box; have f0 := frozen_at hB9.box; have l0 := lt_of_block hB9.box
              push_cast at c0
              have HB9 := Lib.hid hB9; have HRH9 := Lib.hid (HRH8.out.keep hk9 (fun _ _ => by simp))
              clear hB9 K9 hk9 he9
              cases sb with
              | false =>
                have hsf := HSB.out.symm
                go_wp2_with fail
                go_roundg (n - (q + 1))
                case measure => omega
                case rel => exact ⟨q + 1, by omega, by go_num, HB9.out, HRH9.out⟩
              | true =>
                have hsf := HSB.out.symm
                go_wp2_with fail
                go_roundg (n - (q + 1))
                case measure => omega
                case rel => exact ⟨q + 1, by omega, by go_num, HB9.out, HRH9.out⟩
            · obtain rfl : q = n := by omega
              have HB := Lib.hid hB; have HRHQ := Lib.hid hrh
              clear hB hrh
              go_wp2_with fail
              go_roundg (M - (i + 1))
              case measure => omega
              case rel => exact ⟨i + 1, _, _, by omega, by go_num, by rw [HPT2.out]; go_num, by rw [HPT2.out]; exact HB.out, HRHQ.out⟩)
      · have ht2 : (ty != 1) = true := by simp [ht]
        have hpt := HPQ.out
        rw [if_neg ht] at hpt
        have HPT2 := Lib.hid hpt
        clear hpt ht
        go_wp2_with fail
        go_roundg (M - (i + 1))
        case measure => omega
        case rel => exact ⟨i + 1, _, _, by omega, by go_num, by rw [HPT2.out], by rw [HPT2.out]; exact HB3.out, HRH3.out⟩
    · obtain rfl : i = M := by omega
      have htk : hs.take i = hs := by rw [HM.out]; exact List.take_length
      rw [htk] at hB hvi ⊢
      have hown := HOWN.out (reapS c hs W).1 hvi.1
      have hwal := fun o => waitAll_len (Lay.mk 1 2 n) (reapS c hs W).1 o
      have hwaw := fun o => waitAll_words hvi.1.words (Lay.mk 1 2 n) o
      have hwas := fun o => waitAll_succ (Lay.mk 1 2 n) (reapS c hs W).1 o
      have hwa0 : waitAll (Lay.mk 1 2 n) (reapS c hs W).1 0 = (reapS c hs W).1 := rfl
      have hvl : (reapS c hs W).1.length = N := by rw [hvi.1.len]; exact hNl.out
      obtain ⟨V, hV⟩ : ∃ V, V = (reapS c hs W).1 := ⟨_, rfl⟩
      obtain ⟨m, hm⟩ : ∃ m, m = (reapS c hs W).2 := ⟨_, rfl⟩
      rw [← hV] at hB hown hwal hwaw hwas hwa0 hvl
      rw [← hm]
      have HVV := Lib.hid hV; have HMM := Lib.hid hm; have HOW := Lib.hid hown; have HWAL := Lib.hid hwal; have HWAW := Lib.hid hwaw; have HWAS := Lib.hid hwas; have HWA0 := Lib.hid hwa0; have HVL := Lib.hid hvl; have HB := Lib.hid hB
      clear hV hm hown hwal hwaw hwas hwa0 hvl hB hvi htk hrh HRS HB2
      go_wp2_with fail
      go_loopg [14] 64 (fun j v14 wq => ∃ (o : Nat) (ax : Option Addr) (cq : Nat), o + j = 64 ∧ v14 = .int .i64 o ∧ HpB w wq (.slice ao N cap) z N 1 2 n ax cq (waitAll ⟨1, 2, n⟩ V o))
      case atStart => exact ⟨0, _, _, by omega, rfl, by rw [HWA0.out]; exact HB.out⟩
      case round =>
        obtain ⟨o, ax, cq, hoj, rfl, hBo⟩ := hrel
        have c0 := cell_at hBo.box; have f0 := frozen_at hBo.box; have l0 := lt_of_block hBo.box
        push_cast at c0
        by_cases ho64 : o < 64
        · have j1 : (o : Int) < 64 := by omega
          have hw8 : IntKind.u8.wrap (o : Int) = o := by rw [IntKind.wrap_u8]; omega
          have hlo : (waitAll ⟨1, 2, n⟩ V o).length = N := by rw [HWAL.out, HVL.out]
          have hwt := HWT.out wr (.slice ax N cq) (waitAll ⟨1, 2, n⟩ V o) (by rw [hlo]; exact hBo.rd) (HWAW.out o) (by omega) (by omega) (o : Int)
          rw [← HWAS.out o, hlo] at hwt
          have hl1 : (waitAll ⟨1, 2, n⟩ V (o + 1)).length = N := by rw [HWAL.out, HVL.out]
          have HWTO := Lib.hid hwt; have HBO := Lib.hid hBo; have HL1 := Lib.hid hl1
          clear hwt hBo hlo hl1
          go_wp2_with fail
          refine HWTO.out.mono ?_
          rintro e w3 ⟨sv3, rfl, R3, K3, F3⟩
          obtain ⟨a3, cp3, hv3, -, -⟩ := R3.shape
          subst hv3
          have b3 := K3.get HBO.out.box (by simp); have c0 := cell_at b3; have f0 := frozen_at b3; have l0 := lt_of_block b3
          push_cast at c0
          have HK3 := Lib.hid K3; have HR3 := Lib.hid R3; have HF3 := Lib.hid F3
          clear b3 R3 F3 K3
          go_wp2_with fail
          generalize hw7 : World.setCell _ _ _ = w7
          have hB7 : HpB w w7 (.slice ao N cap) z N 1 2 n a3 cp3 (waitAll ⟨1, 2, n⟩ V (o + 1)) := by
            rw [← hw7]
            exact HBO.out.put HK3.out HL1.out HR3.out HF3.out
          have HB7 := Lib.hid hB7
          clear hw7 hB7
          go_roundg (64 - (o + 1))
          case measure => omega
          case rel => exact ⟨o + 1, _, _, by omega, by go_num, HB7.out⟩
        · obtain rfl : o = 64 := by omega
          have c1 := cell_at hBo.res; have f1 := frozen_at hBo.res; have l1 := lt_of_block hBo.res
          have HBO := Lib.hid hBo
          clear hBo
          go_wp2_with fail
          refine bodyPost_ret (v := .tuple #[.agg #[.slice ax N cq, .int .i64 1, .int .i64 2, .int .i64 n], .int .i64 (m : Nat)]) ?_ rfl ?_
          · simp [results, Try.results72, go_sem, c1, l1]
          refine hR.out _ _ ⟨.slice ax N cq, by rw [← HMM.out], ?_⟩
          rw [← HVV.out, ← HOW.out]
          exact HBO.out.done (by ((repeat (first | (with_reducible exact Keep.refl _ _) | (with_reducible refine Keep.drew ?_) | (with_reducible refine Keep.drewN ?_ _) | (with_reducible refine Keep.alloc ?_ _) | ((with_reducible refine Keep.setCell ?_ ?_ _); rotate_left; focus (first | (simp; done) | (simp; omega) | (left; dsimp only; omega))))); done))
end Go.Proofs.Ytnadiddaeolanaa
