/- Layer 21 as the document says it: Pass. -/
import Derived.Test.YtnadiddaeolanaaRef21b
namespace Go.Proofs.Ytnadiddaeolanaa
open Go.RowKit
set_option linter.unusedVariables false
set_option linter.unusedSimpArgs false

theorem passS_take (c : Int) (hs : List Int) (W : List Int) (q : Nat) (hq : q < hs.length) : passS c (hs.take (q + 1)) W = visitP c (passS c (hs.take q) W) hs[q] := by
  rw [List.take_add_one, List.getElem?_eq_getElem hq]
  exact passS_snoc c (hs.take q) W hs[q]
theorem pass_take_heap {n : Nat} {bl : List Int} (c : Int) (hc : 0 ≤ c ∧ c ≤ 255) (W : List Int) (hH : HeapW n bl W) (q : Nat) : HeapW n bl (passS c ((allS ⟨1, 2, n⟩ bl n).take q) W).1 :=
  pass_heap c hc _ _ (fun a ha => all_spots a (List.mem_of_mem_take ha)) hH

set_option maxRecDepth 100000 in
set_option maxHeartbeats 8000000 in
theorem ref21_pass (n : Nat) (hn : n ≤ 6) (bl : List Int) (hb0 : ∀ k, 0 ≤ bl.getD k 0) (W : List Int) (hH : HeapW n bl W) (hn1 : 1 ≤ n) (c : Int) (hc : 0 ≤ c ∧ c ≤ 255) (v : Value) (w : World) (hr : Rd w v W.length (u64s W)) :
    Calls Try.prog 68 #[v, (Lay.mk 1 2 n).val, .int .u8 c] w fun x w' => ∃ v', x = .returned (.tuple #[v', .bool (passS c (allS ⟨1, 2, n⟩ bl n) W).2]) ∧ Rd w' v' W.length (u64s (passS c (allS ⟨1, 2, n⟩ bl n) W).1) ∧ Keep [] w w' ∧ From w v v' := by
  refine calls_abs fun R hR => ?_
  have hhd := fun (w' : World) (k : Keep [] w w') => ref21_heads n hn bl hb0 W hH v w' (hr.keep k (fun _ _ => by simp))
  have hpt := fun q hq => passS_take c (allS ⟨1, 2, n⟩ bl n) W q hq
  have hph := fun q => pass_take_heap (n := n) (bl := bl) c hc W hH q
  have hal := allS_len (Lay.mk 1 2 n) bl n
  have hsp := all_spots (n := n) (bl := bl)
  have hlen := hH.len
  unfold Lay.val at hhd ⊢
  dsimp only at hhd ⊢
  push_cast at hhd ⊢
  generalize allS (Lay.mk 1 2 n) bl n = hs at *
  obtain ⟨M, hM⟩ : ∃ M, M = hs.length := ⟨_, rfl⟩
  rw [← hM] at hhd hal
  obtain ⟨N, hN⟩ : ∃ N, N = W.length := ⟨_, rfl⟩
  rw [← hN] at hr hlen hR
  have hN2 : 6 + 33 * n ≤ N ∧ N ≤ 6 + 33 * n := by omega
  have HHD := Lib.hid hhd; have HPT := Lib.hid hpt; have HPH := Lib.hid hph; have HSP := Lib.hid hsp; have HM := Lib.hid hM; have HN := Lib.hid hN; have HR := Lib.hid hr
  obtain ⟨ab, capb, rfl, hcb1, hcb2⟩ := hr.shape
  clear hhd hpt hph hsp hM hN hr hlen hH
  go_enter Try.func68, Try.ntmps68
  go_wp2_with fail
  obtain ⟨z, hz⟩ : ∃ z, z = w.heap.size := ⟨_, rfl⟩
  simp only [← hz]
  generalize hw1 : World.alloc _ _ = w1
  have K1 : Keep [] w w1 := by rw [← hw1]; exact (by repeat (first | (with_reducible exact Keep.refl _ _) | (with_reducible refine Keep.drew ?_) | (with_reducible refine Keep.drewN ?_ _) | (with_reducible refine Keep.alloc ?_ _) | (with_reducible refine Keep.setCell ?_ (by first | (simp; done) | (simp; omega) | (left; dsimp only; omega)) _)))
  refine (HHD.out w1 K1).mono ?_
  rintro e w2 ⟨vh, rfl, hos, K2⟩
  have hrs := Rd.of_owns hos (by intro u hu; obtain ⟨x, _, rfl⟩ := List.mem_map.1 hu; rfl)
  obtain ⟨ah, caph, rfl, -, -⟩ := owns_val hos
  have HRS := Lib.hid hrs; have HK2 := Lib.hid (K1.trans K2); have HR2 := Lib.hid (HR.out.keep (K1.trans K2) (fun _ _ => by simp))
  clear hw1 K1 K2 hos hrs hz
  go_wp2_with fail
  go_loopg [0, 8, 10] M (fun j v m i wr => ∃ q : Nat, q + j = M ∧ i = .int .i64 q ∧ m = .bool (passS c (hs.take q) W).2 ∧ Rd wr v N (u64s (passS c (hs.take q) W).1) ∧ Keep [] w2 wr ∧ From w (.slice ab N capb) v)
  case atStart => exact ⟨0, by omega, rfl, rfl, HR2.out, Keep.refl _ _, From.refl _ _⟩
  case round =>
    obtain ⟨q, hqj, rfl, rfl, hr, hk, hfr⟩ := hrel
    have HFR := Lib.hid hfr
    clear hfr
    by_cases hqM : q < M
    · have i1 : (q : Int) < M := by omega
      have i0 : (0 : Int) ≤ (q : Int) := by omega
      have hqh : q < hs.length := by rw [← HM.out]; exact hqM
      obtain ⟨s, hss, hse⟩ := HSP.out hs[q] (List.getElem_mem hqh)
      have hin := spots_in hss
      obtain ⟨_, _, _, _, _, _, hs21, _⟩ := mem_spots hss
      have hHV := HPH.out q
      have hpt := HPT.out q hqh
      have hrh := HRS.out.keep hk (fun _ _ => by simp)
      obtain ⟨gh, oh, rfl, -, hch⟩ := hrh.some (by rw [intsV_len]; omega)
      have hcq := hch q _ (by rw [intsV_get, List.getElem?_eq_getElem hqh]; rfl)
      generalize hps : passS c (hs.take q) W = st at *
      obtain ⟨V, met⟩ := st
      dsimp only at *
      have hVl := hHV.len
      obtain ⟨A, hA⟩ : ∃ A : Nat, hs[q] = (A : Int) := ⟨hs[q].toNat, by omega⟩
      rw [hA] at hpt hcq
      have hAV : A < V.length := by omega
      have a1 : (A : Int) < N := by omega
      have a0 : (0 : Int) ≤ (A : Int) := by omega
      obtain ⟨ao, cap, rfl, hc1, hc2⟩ := hr.shape
      obtain ⟨a, o, rfl, hal2, hac⟩ := hr.some (by rw [u64s_len]; omega)
      have hri : rdz V (A : Int) = V.getD A 0 := by rw [rdz_nat hAV, List.getD_eq_getElem?_getD, List.getElem?_eq_getElem hAV]; rfl
      have hcell := hac A (.int .u64 (rdz V (A : Int))) (by rw [hri]; simp [u64s, hAV])
      have hxb := hHV.words (A : Int)
      have htl := fun w => ref13_tell (rdz V (A : Int)) c hxb w
      unfold visitP at hpt
      dsimp only at hpt
      have HPQ := Lib.hid hpt; have HRQ := Lib.hid hr; have HK := Lib.hid hk; have HHV := Lib.hid hHV
      clear hpt hr hk hch hrh hHV
      generalize hx : rdz V (A : Int) = x at *
      have HX := Lib.hid hx
      generalize hty : tellOf x c = ty at *
      have HTY := Lib.hid hty; have HTL := Lib.hid htl; have HSE := Lib.hid hse; have HSS := Lib.hid hss; have HA := Lib.hid hA
      clear hx hty htl hse hss hA hri hps
      go_wp2_with fail
      refine (HTL.out wr).mono ?_
      rintro e w3 ⟨rfl, K3⟩
      have hcell3 := K3.cell hcell (by simp)
      have HK3 := Lib.hid (HK.out.trans K3); have HR3 := Lib.hid (HRQ.out.keep K3 (fun _ _ => by simp))
      clear K3 hcell hcq
      by_cases ht : ty = 2
      · subst ht
        have hrf := HHV.out.refs s HSS.out
        rw [← HSE.out, HA.out, HX.out] at hrf
        have hrb := refs_bd x hxb.1
        have hsA : s.1 = (A : Int) := by rw [← HSE.out]; exact HA.out
        have hiw : intoW c V (A : Int) = putz (looksW c A (takeH x).refs.toNat V) A (blackOf (rdz (looksW c A (takeH x).refs.toNat V) A)) := by unfold intoW; rw [HX.out]
        have hHl := fun (j : Nat) (hj : (j : Int) ≤ s.2) => HHV.out.looks HSS.out c hc j hj
        rw [hsA] at hHl
        have hs2 : Hid (passS c (hs.take (q + 1)) W = (intoW c V (A : Int), true)) := by have := HPQ.out; rwa [if_pos rfl] at this
        have hsu := fun j => looksW_succ c (A : Int) j V
        unfold lookW at hsu
        have htkh := fun w => ref01_take x hxb w
        obtain ⟨er, her⟩ : ∃ er : Int, er = if isHd x then 0 else 3 := ⟨_, rfl⟩
        rw [← her] at htkh
        clear her
        generalize intoW c V (A : Int) = VF at *
        generalize takeH x = d at *
        obtain ⟨dk, dc, dg, dm, dow, dr, ds⟩ := d
        unfold Hd.val at htkh
        dsimp only at htkh hrf hrb hiw
        obtain ⟨m, rfl⟩ : ∃ m : Nat, dr = m := ⟨dr.toNat, by omega⟩
        rw [Int.toNat_natCast] at hiw
        have hm : (m : Int) ≤ s.2 := hrf
        have hAm : A + m < N := by omega
        have hw64 : IntKind.i64.wrap (m : Int) = m := by rw [IntKind.wrap_i64]; omega
        have HIW := Lib.hid hiw; have HHL := Lib.hid hHl; have HSUL := Lib.hid hsu; have HTKH := Lib.hid htkh
        clear hiw hHl hsu htkh hrf hrb
        go_wp2_with fail
        refine (HTKH.out w3).mono ?_
        rintro e w4 ⟨rfl, K4⟩
        have HK4 := Lib.hid (HK3.out.trans K4); have HR4 := Lib.hid (HR3.out.keep K4 (fun _ _ => by simp))
        clear K4 hcell3
        go_wp2_with fail
        obtain ⟨zh, hzh⟩ : ∃ y, y = w4.heap.size := ⟨_, rfl⟩
        simp only [← hzh]
        generalize hw5 : World.alloc _ _ = w5
        have bh : w5.heap[zh]? = some (.cells #[.int .u8 dk, .int .u8 dc, .bool dg, .bool dm, .int .u8 dow, .int .u8 m, .int .u8 ds] 122 (0, 0)) := by rw [← hw5]; exact alloc_new _ _ _ hzh
        have K5 : Keep [] w4 w5 := by rw [← hw5]; exact (by repeat (first | (with_reducible exact Keep.refl _ _) | (with_reducible refine Keep.drew ?_) | (with_reducible refine Keep.drewN ?_ _) | (with_reducible refine Keep.alloc ?_ _) | (with_reducible refine Keep.setCell ?_ (by first | (simp; done) | (simp; omega) | (left; dsimp only; omega)) _)))
        have HBH := Lib.hid bh; have HK5 := Lib.hid (HK4.out.trans K5); have HR5 := Lib.hid (HR4.out.keep K5 (fun _ _ => by simp))
        clear hw5 bh K5 hzh
        go_loopg [0, 14] m (fun j v k wq => ∃ p : Nat, p + j = m ∧ k = .int .i64 ((p : Int) + 1) ∧ Rd wq v N (u64s (looksW c A p V)) ∧ Keep [] w5 wq ∧ From w (.slice ab N capb) v)
        case atStart => exact ⟨0, by omega, rfl, HR5.out, Keep.refl _ _, HFR.out⟩
        case round =>
          obtain ⟨p, hpj, rfl, hr, hk, hfq⟩ := hrel
          have HFQ := Lib.hid hfq
          clear hfq
          have hbh := hk.get HBH.out (by simp)
          have ch := cell_at hbh; have lh := lt_of_block hbh
          obtain ⟨ao5, cap5, rfl, hc15, hc25⟩ := hr.shape
          have hHU := HHL.out p (by omega)
          have hUl := hHU.len
          have hUw := hHU.words
          have hsup := HSUL.out p
          by_cases hpm : p < m
          · generalize looksW c (A : Int) p V = U at *
            obtain ⟨a5, o5, rfl, hal5, hac5⟩ := hr.some (by rw [u64s_len]; omega)
            have j1 : (p : Int) + 1 ≤ m := by omega
            have hidx : A + 1 + p < U.length := by omega
            have hri : rdz U ((A : Int) + 1 + p) = U.getD (A + 1 + p) 0 := by rw [show (A : Int) + 1 + p = ((A + 1 + p : Nat) : Int) from by omega, rdz_nat hidx, List.getD_eq_getElem?_getD, List.getElem?_eq_getElem hidx]; rfl
            have hcl := hac5 (A + 1 + p) (.int .u64 (rdz U ((A : Int) + 1 + p))) (by rw [hri]; simp [u64s, hidx])
            rw [show o5 + (A + 1 + p) = o5 + (A + (p + 1)) from by omega] at hcl
            have hyb := hUw ((A : Int) + 1 + p)
            have hsd := fun (w' : World) (k : Keep [] wr w') => ref21_shade (v := .slice (some ⟨a5, o5, none⟩) N cap5) (W := U) (by rw [show U.length = N from by omega]; exact hr.keep k (fun _ _ => by simp)) hUw (by omega) (rdz U ((A : Int) + 1 + p)) c hyb hc
            rw [show U.length = N from by omega] at hsd
            generalize rdz U ((A : Int) + 1 + p) = y at *
            have w1' : IntKind.i64.wrap ((A : Int) + (p + 1)) = A + (p + 1) := by rw [IntKind.wrap_i64]; omega
            have j2 : (A : Int) + (p + 1) < N := by omega
            have j0 : (0 : Int) ≤ (A : Int) + (p + 1) := by omega
            have jn : ((A : Int) + (p + 1)).toNat = A + (p + 1) := by omega
            have HSD := Lib.hid hsd; have HRU := Lib.hid hr; have HKU := Lib.hid hk; have HSUP := Lib.hid hsup; have HC := Lib.hid hcl
            clear hsd hr hk hsup hri hac5 hUl hHU hbh
            by_cases hy : y = 0
            · have hs3 : Hid (looksW c (A : Int) (p + 1) V = U) := by have := HSUP.out; rwa [if_pos hy] at this
              subst hy
              go_wp2_with fail
              go_roundg (m - (p + 1))
              case measure => omega
              case rel => exact ⟨p + 1, by omega, by go_num, by rw [hs3.out]; exact HRU.out, HKU.out, HFQ.out⟩
            · have hv1 : (y == 0) = false := by simp [hy]
              have hv2 : (y != 0) = true := by simp [hy]
              have hs3 : Hid (looksW c (A : Int) (p + 1) V = shadeW U y c) := by have := HSUP.out; rw [if_neg hy] at this; exact this
              clear hy
              go_wp2_with fail
              refine (HSD.out wr (Keep.refl _ _)).mono ?_
              rintro e w6 ⟨v6, rfl, R6, K6, F6⟩
              have HF6 := Lib.hid (HFQ.out.trans F6 (by have h1 := HK2.out.size; have h2 := HK5.out.size; have h3 := HKU.out.size; omega))
              clear F6
              have HR6 := Lib.hid R6; have HK6 := Lib.hid (HKU.out.trans K6)
              clear R6 K6 ch lh hcl
              go_wp2_with fail
              go_roundg (m - (p + 1))
              case measure => omega
              case rel => exact ⟨p + 1, by omega, by go_num, by rw [hs3.out]; exact HR6.out, HK6.out, HF6.out⟩
          · obtain rfl : p = m := by omega
            have j1 : ¬ (p : Int) + 1 ≤ p := by omega
            have hAU : A < (looksW c (A : Int) p V).length := by omega
            have hiw := HIW.out
            have hbl := fun w => ref13_blackened (rdz (looksW c (A : Int) p V) A) (hUw A) w
            have hri : rdz (looksW c (A : Int) p V) (A : Int) = (looksW c (A : Int) p V).getD A 0 := by rw [rdz_nat hAU, List.getD_eq_getElem?_getD, List.getElem?_eq_getElem hAU]; rfl
            have hca : (u64s (looksW c (A : Int) p V))[A]? = some (.int .u64 (rdz (looksW c (A : Int) p V) A)) := by rw [hri]; simp [u64s, hAU]
            rw [putz_nat hAU] at hiw
            generalize looksW c (A : Int) p V = U at *
            generalize blackOf (rdz U (A : Int)) = yb at *
            generalize rdz U (A : Int) = xu at *
            obtain ⟨a5, o5, rfl, hal5, -⟩ := hr.some (by rw [u64s_len]; omega)
            have HRU := Lib.hid hr; have HKU := Lib.hid hk; have HIW2 := Lib.hid hiw; have HBL := Lib.hid hbl; have HCA := Lib.hid hca
            have HUL := Lib.hid hUl
            clear hr hk hiw hbl hca hsup hri hHU hUw hbh hUl
            go_wp2_with (at_builtin; go_loud (refine wpList_append_nil _ rfl _ _ _ rfl elem_u64 wr.heap.size rfl _ N (u64s U) rfl HRU.out (by rw [u64s_len]; have := HUL.out; omega) (by simp only [maxLen]; omega) (by omega) (by omega) ?_); intro ao' cap' w6 ho hg; go_loud (have hK6 : Keep [] wr w6 := Keep.grown (Keep.refl _ _) hg (by simp); have HO6 := Lib.hid ho; have HK6 := Lib.hid hK6; clear hK6 hg); go_loud (obtain ⟨gq, capq, hao, hq0, hq00, hq1, hq2, hqc, hfr⟩ := owns_some ho (by omega)); go_loud (cases hao); go_loud (have hcq := hqc A _ HCA.out; clear hqc ho))
            have HQ1 := Lib.hid hq1
            refine (HBL.out w6).mono ?_
            rintro e w7 ⟨rfl, K7⟩
            have HO7 := Lib.hid (K7.owns HO6.out (fun _ _ => by simp)); have HK7 := Lib.hid ((HKU.out.trans HK6.out).trans K7)
            obtain ⟨gq2, capq2, hao, hq02, hq002, hq12, hq22, hqc2, hfr2⟩ := owns_some HO7.out (by omega)
            cases hao
            have hcq7 := hqc2 A _ HCA.out
            clear hqc2 K7 hcq hfr ch lh
            go_wp2_with fail
            have hK8 := (HK5.out.trans HK7.out).setCell (p := ⟨gq, A, none⟩) (.inl (by have := HK5.out.size; have := HKU.out.size; show w2.heap.size ≤ gq; omega)) (.int .u64 yb)
            have hO8 := owns_put HO7.out (k := A) (by omega) (.int .u64 yb)
            have he : u64s VF = (u64s U).set A (.int .u64 yb) := by rw [HIW2.out]; simp [u64s, List.map_set]
            rw [← he] at hO8
            have HK8 := Lib.hid hK8; have HO8 := Lib.hid hO8
            clear hK8 hO8 he hcq7
            go_wp2_with fail
            go_roundg (M - (q + 1))
            case measure => omega
            case rel => exact ⟨q + 1, by omega, by go_num, by rw [hs2.out], by rw [hs2.out]; exact Rd.of_owns HO8.out (by intro u hu; obtain ⟨x, _, rfl⟩ := List.mem_map.1 hu; rfl), HK8.out, From.new (by have h1 := HK2.out.size; have h2 := HK5.out.size; have h3 := HKU.out.size; have h4 := HQ1.out; omega)⟩
      · have ht2 : (ty != 2) = true := by simp [ht]
        have ht3 : (ty == 2) = false := by simp [ht]
        have hs2 : Hid (passS c (hs.take (q + 1)) W = (V, met)) := by have := HPQ.out; rwa [if_neg ht] at this
        clear ht
        go_wp2_with fail
        go_roundg (M - (q + 1))
        case measure => omega
        case rel => exact ⟨q + 1, by omega, by go_num, by rw [hs2.out], by rw [hs2.out]; exact HR3.out, HK3.out, HFR.out⟩
    · obtain rfl : q = M := by omega
      have htk : hs.take q = hs := by rw [HM.out]; exact List.take_length
      rw [htk] at hr ⊢
      have HRQ := Lib.hid hr; have HK := Lib.hid hk
      clear hr hk htk
      go_wp2_with fail
      exact hR.out _ _ ⟨_, rfl, HRQ.out, HK2.out.trans HK.out, HFR.out⟩
end Go.Proofs.Ytnadiddaeolanaa
