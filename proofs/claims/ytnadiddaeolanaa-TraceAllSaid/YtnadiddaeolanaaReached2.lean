/- The walk of demesnelaw21.reached. -/
import Derived.Test.YtnadiddaeolanaaReached
namespace Go.Proofs.Ytnadiddaeolanaa
open Go.RowKit
set_option linter.unusedVariables false
set_option linter.unusedSimpArgs false

theorem Rd.u64cell {w : World} {ao : Option Addr} {N cap : Nat} {W : List Int} (h : Rd w (.slice ao N cap) N (u64s W)) (hl : W.length = N) (h0 : 0 < N) : ∃ g o, ao = Option.some ⟨g, o, Option.none⟩ ∧ g < w.heap.size ∧ ∀ i : Nat, i < N → w.cell? ⟨g, o + i, Option.none⟩ = Option.some (.int .u64 (rdz W i)) := by
  obtain ⟨g, o, he, hlt, hc⟩ := h.some (by rw [u64s_len]; omega)
  refine ⟨g, o, he, hlt, fun i hi => hc i _ ?_⟩
  have hi' : i < W.length := by omega
  rw [rdz_nat hi', u64s_get, List.getElem?_eq_getElem hi']; rfl
theorem Rd.intcell {w : World} {ao : Option Addr} {N cap : Nat} {hs : List Int} (h : Rd w (.slice ao N cap) N (intsV hs)) (hl : hs.length = N) (h0 : 0 < N) : ∃ g o, ao = Option.some ⟨g, o, Option.none⟩ ∧ g < w.heap.size ∧ ∀ i : Nat, i < N → w.cell? ⟨g, o + i, Option.none⟩ = Option.some (.int .i64 (hs.getD i 0)) := by
  obtain ⟨g, o, he, hlt, hc⟩ := h.some (by rw [intsV_len]; omega)
  refine ⟨g, o, he, hlt, fun i hi => hc i _ ?_⟩
  have hi' : i < hs.length := by omega
  rw [intsV_get, List.getD_eq_getElem?_getD, List.getElem?_eq_getElem hi']; rfl

set_option maxRecDepth 100000 in
set_option maxHeartbeats 16000000 in
theorem reached_walk (W : List Int) (hW : Words W) (hsm : 1 ≤ W.length ∧ W.length ≤ 4096) (hs : List Int) (hh : ∀ a ∈ hs, 0 ≤ a ∧ a < W.length) (hM : hs.length ≤ 1000) (c : Int) (hc : 0 ≤ c ∧ c ≤ 1) (vw vh : Value) (w : World) (hrw : Rd w vw W.length (u64s W)) (hrh : Rd w vh hs.length (intsV hs)) :
    Calls Try.prog 55 #[vw, vh, .int .u8 c] w fun e w' => ∃ (g : Nat) (out : List Bool), e = .returned (.slice (some ⟨g, 0, none⟩) W.length W.length) ∧ w'.heap[g]? = some (.cells (cellsB out) 4 (0, 0)) ∧ w.heap.size ≤ g ∧ RI W c hs none out [] ∧ Keep [] w w' := by
  refine calls_abs fun R hR => ?_
  have mixed : Try.prog.follows .mixedOrders = true := by kernel_rfl
  obtain ⟨aw, capw, rfl, hcw1, hcw2⟩ := hrw.shape
  obtain ⟨ah, caph, rfl, hch1, hch2⟩ := hrh.shape
  have hmk := fun w => make_bool W.length (by omega) w
  have hstart := RI.start (W := W) (c := c) (hs := hs)
  obtain ⟨gw, ow, rfl, hgw, hcw⟩ := hrw.u64cell rfl (by omega)
  have hsin := fun a (h : Src W c hs a) => src_in hW hh h
  obtain ⟨N, hN⟩ : ∃ N, N = W.length := ⟨_, rfl⟩
  obtain ⟨M, hMM⟩ : ∃ M, M = hs.length := ⟨_, rfl⟩
  have HRH := Lib.hid hrh; have HCW := Lib.hid hcw; have HST := Lib.hid hstart; have HIN := Lib.hid hsin; have HWW := Lib.hid hW; have HN := Lib.hid hN; have HMM := Lib.hid hMM; have HHS := Lib.hid hh
  rw [← hN] at hsm hcw1 hmk hR ⊢
  rw [← hMM] at hch1 hM ⊢
  clear hrw hrh hcw hstart hsin hW hN hMM hh
  go_enter Try.func55, Try.ntmps55
  go_wp2_with fail
  obtain ⟨zo, hzo⟩ : ∃ z, z = w.heap.size := ⟨_, rfl⟩
  simp only [← hzo]
  generalize hw1 : World.alloc _ _ = w1
  have bo : w1.heap[zo]? = some (.cells (cellsB (List.replicate N false)) 4 (0, 0)) := by rw [← hw1]; exact alloc_new _ _ _ hzo
  have K1 : Keep [] w w1 := by rw [← hw1]; exact (by repeat (first | (with_reducible exact Keep.refl _ _) | (with_reducible refine Keep.drew ?_) | (with_reducible refine Keep.drewN ?_ _) | (with_reducible refine Keep.alloc ?_ _) | (with_reducible refine Keep.setCell ?_ (by first | (simp; done) | (simp; omega) | (left; dsimp only; omega)) _)))
  have hs1 : w1.heap.size = zo + 1 := by rw [← hw1]; simp [hzo]
  have HBO := Lib.hid bo; have HK1 := Lib.hid K1; have HS1 := Lib.hid hs1; have HZO := Lib.hid (show w.heap.size ≤ zo from by omega)
  clear hw1 bo K1 hs1 hzo hmk
  go_loopg [8, 9] M (fun j v8 v9 wr => ∃ (i : Nat) (xs : List Int) (ao : Option Addr) (cap : Nat), i + j = M ∧ v9 = .int .i64 i ∧ v8 = .slice ao xs.length cap ∧ xs.length ≤ i ∧ Hid (xs = (hs.take i).filter fun a => tellOf (rdz W a) c == 2) ∧ Offs wr (zo + 1) 3 (.slice ao xs.length cap) xs.length xs ∧ Keep [] w1 wr)
  case atStart => exact ⟨0, [], none, 0, by omega, rfl, rfl, by simp, Lib.hid (by simp), Offs.nil _ _ _, Keep.refl _ _⟩
  case round =>
    obtain ⟨i, xs, ao, cap, hij, rfl, rfl, hxi, HXS, hof, hk⟩ := hrel
    by_cases hiM : i < M
    · have i1 : (i : Int) < M := by omega
      have i0 : (0 : Int) ≤ (i : Int) := by omega
      obtain ⟨gh, oh, hah, hghl, hchh⟩ := (HRH.out.keep (HK1.out.trans hk) (fun _ _ => by simp)).intcell rfl (by rw [← HMM.out]; omega)
      subst hah
      have hcell := hchh i (by rw [← HMM.out]; exact hiM)
      have hmem : hs.getD i 0 ∈ hs := by
        have : i < hs.length := by rw [← HMM.out]; exact hiM
        rw [List.getD_eq_getElem?_getD, List.getElem?_eq_getElem this]; exact List.getElem_mem this
      have htk : hs.take (i + 1) = hs.take i ++ [hs.getD i 0] := by
        have : i < hs.length := by rw [← HMM.out]; exact hiM
        rw [List.take_add_one, List.getElem?_eq_getElem this, List.getD_eq_getElem?_getD, List.getElem?_eq_getElem this]; rfl
      have hab := HHS.out _ hmem
      rw [← HN.out] at hab
      generalize hs.getD i 0 = a at *
      obtain ⟨A, rfl⟩ : ∃ A : Nat, a = A := ⟨a.toNat, by omega⟩
      have a1 : (A : Int) < N := by omega
      have a0 : (0 : Int) ≤ (A : Int) := by omega
      have hcw := (HK1.out.trans hk).cell (HCW.out A (by rw [← HN.out]; omega)) (by simp)
      have htl := fun w => shade_tell (rdz W A) c (HWW.out A) w
      have HFT : Hid ((hs.take (i + 1)).filter (fun a => tellOf (rdz W a) c == 2) = xs ++ if tellOf (rdz W A) c = 2 then [(A : Int)] else []) := by
        rw [Hid, htk, List.filter_append, ← HXS.out]
        congr 1
        by_cases ht : tellOf (rdz W A) c = 2 <;> simp [ht]
      generalize tellOf (rdz W A) c = tt at *
      generalize rdz W (A : Int) = x at *
      have HTL := Lib.hid htl; have HOF := Lib.hid hof; have HK := Lib.hid hk; have HCL := Lib.hid hcell
      clear htl hof hk hchh htk hmem hab hghl
      go_wp2_with fail
      refine (HTL.out wr).mono ?_
      rintro e w2 ⟨rfl, K2⟩
      have HK2 := Lib.hid (HK.out.trans K2); have HO2 := Lib.hid (HOF.out.keep K2 (fun _ _ => by simp))
      have hcell2 := K2.cell HCL.out (by simp)
      have hsz2 : zo + 1 ≤ w2.heap.size := by have h1 := HK2.out.size; have h2 := HS1.out; omega
      clear K2 hcell hcw
      by_cases ht : tt = 2
      · subst ht
        rw [if_pos rfl] at HFT
        have HSZ := Lib.hid hsz2
        clear hsz2
        go_wp2_with (at_builtin; go_loud (refine wpList_append_offs _ rfl _ _ _ rfl elem_int (zo + 1) (.slice ao xs.length cap) xs.length xs rfl (HO2.out.keep (S := []) (by repeat (first | (with_reducible exact Keep.refl _ _) | (with_reducible refine Keep.drew ?_) | (with_reducible refine Keep.drewN ?_ _) | (with_reducible refine Keep.alloc ?_ _) | (with_reducible refine Keep.setCell ?_ (by first | (simp; done) | (simp; omega) | (left; dsimp only; omega)) _))) (fun _ _ => by simp)) _ (A : Int) rfl (Rd.one (alloc_new _ _ _ rfl) rfl) (by simp only [maxLen]; omega) (by omega) (by have := HSZ.out; simp; omega) ?_); intro ao' cap' w3 ho hg hwh; go_loud (have HK3 := Lib.hid (show Keep (Value.slice ao xs.length cap).ownBlock.toList w2 w3 from by refine Keep.grown (w := World.alloc w2 _) (by repeat (first | (with_reducible exact Keep.refl _ _) | (with_reducible refine Keep.drew ?_) | (with_reducible refine Keep.drewN ?_ _) | (with_reducible refine Keep.alloc ?_ _) | (with_reducible refine Keep.setCell ?_ (by first | (simp; done) | (simp; omega) | (left; dsimp only; omega)) _))) hg (fun k hk => .inr (by simpa using hk))); have HO3 := Lib.hid ho; clear ho hg hwh))
        go_roundg (M - (i + 1))
        case measure => omega
        case rel =>
          refine ⟨i + 1, xs ++ [(A : Int)], ao', cap', by omega, by go_num, by rw [List.length_append]; rfl, by rw [List.length_append]; simp; omega, Lib.hid HFT.out.symm, by rw [List.length_append]; exact HO3.out, HK2.out.fresh HK3.out (fun x hx => .inl ?_)⟩
          have := (HO2.out.block x (by simpa using hx)).1
          have := HS1.out
          omega
      · have q0 : (tt == 2) = false := by simp [ht]
        rw [if_neg ht, List.append_nil] at HFT
        go_wp2_with fail
        go_roundg (M - (i + 1))
        case measure => omega
        case rel => exact ⟨i + 1, xs, ao, cap, by omega, by go_num, rfl, by omega, Lib.hid HFT.out.symm, HO2.out, HK2.out⟩
    · obtain rfl : i = M := by omega
      have hri : RI W c hs none (List.replicate N false) xs := by
        have h := HST.out
        rw [HXS.out, HN.out, HMM.out, List.take_length]
        exact h
      have HRI := Lib.hid hri; have HOF := Lib.hid hof; have HK := Lib.hid hk
      have HBO2 := Lib.hid (hk.get HBO.out (by simp))
      clear hri hof hk HXS HST
      go_wp2_with fail
      have hf0 : xs.length + falses (List.replicate N false) ≤ 6000 := by
        have : falses (List.replicate N false) ≤ N := by
          have h := List.countP_le_length (p := fun b => b == false) (l := List.replicate N false)
          rw [List.length_replicate] at h; exact h
        omega
      have HF0 := Lib.hid hf0
      clear hf0
      obtain ⟨J, hJ⟩ : ∃ J, J = xs.length + falses (List.replicate N false) := ⟨_, rfl⟩
      have HJ := Lib.hid hJ
      have HJ6 := Lib.hid (show J ≤ 6000 from by rw [hJ]; exact HF0.out)
      clear hJ
      go_loopg [8] J (fun j v8 wr => ∃ (ys : List Int) (out : List Bool) (ao : Option Addr) (cap : Nat), v8 = .slice ao ys.length cap ∧ Hid (ys.length + falses out = j) ∧ Hid (j ≤ 6000) ∧ Offs wr (zo + 1) 3 (.slice ao ys.length cap) ys.length ys ∧ wr.heap[zo]? = some (.cells (cellsB out) 4 (0, 0)) ∧ RI W c hs none out ys ∧ Keep [] w wr)
      case atStart => exact ⟨xs, _, ao, cap, rfl, Lib.hid HJ.out.symm, HJ6, HOF.out, HBO2.out, HRI.out, HK1.out.trans HK.out⟩
      case round =>
        obtain ⟨ys, out, ay, cy, rfl, HYJ, HJ6', hof, hbo, hri, hk⟩ := hrel
        cases ys with
        | nil =>
          have HBOX := Lib.hid hbo; have HRIX := Lib.hid hri; have HKX := Lib.hid hk
          clear hof hbo hri hk
          go_wp2_with fail
          exact hR.out _ _ ⟨zo, out, rfl, HBOX.out, HZO.out, HRIX.out, HKX.out⟩
        | cons a rest =>
          obtain ⟨gy, oy, cyy, hv, hgy, hce, hcap, hmax, htl1, htl2⟩ := hof.head
          simp only [List.length_cons] at hv ⊢
          have hv' : ay = some ⟨gy, oy, none⟩ ∧ cy = cyy := by
            have h1 := hv; simp only [Value.slice.injEq] at h1; exact ⟨h1.1, h1.2.2⟩
          obtain ⟨rfl, rfl⟩ := hv'
          have hSa := hri.wrk a (by simp)
          have hab := HIN.out a hSa
          rw [← HN.out] at hab
          obtain ⟨A, rfl⟩ : ∃ A : Nat, a = A := ⟨a.toNat, by omega⟩
          have a1 : (A : Int) < N := by omega
          have a0 : (0 : Int) ≤ (A : Int) := by omega
          have hcw := hk.cell (HCW.out A (by rw [← HN.out]; omega)) (by simp)
          have htk := fun w => word_take (rdz W A) (HWW.out A) w
          have hrb := refs_bd (rdz W A) (HWW.out A).1
          obtain ⟨er, her⟩ : ∃ er : Int, er = if isHd (rdz W A) then 0 else 3 := ⟨_, rfl⟩
          rw [← her] at htk
          have hrefs : Hid ((takeH (rdz W A)).refs = (takeH (rdz W A)).refs) := Lib.hid rfl
          generalize hd : takeH (rdz W A) = d at *
          have HD := Lib.hid hd
          obtain ⟨dk, dc, dg, dm, dow, dr, ds⟩ := d
          unfold Hd.val at htk
          dsimp only at htk hrb
          obtain ⟨rn, rfl⟩ : ∃ rn : Nat, dr = rn := ⟨dr.toNat, by omega⟩
          have hmw : IntKind.i64.wrap (rn : Int) = rn := by rw [IntKind.wrap_i64]; omega
          have i0 : (0 : Int) < ((rest.length + 1 : Nat) : Int) := by omega
          have j1 : (1 : Int) ≤ ((rest.length + 1 : Nat) : Int) := by omega
          have j2 : ((rest.length + 1 : Nat) : Int) ≤ (cy : Int) := by omega
          have j3 : (1 : Int) ≤ (cy : Int) := by omega
          have HTK := Lib.hid htk; have HRIX := Lib.hid hri; have HBOX := Lib.hid hbo; have HKX := Lib.hid hk; have HTL1 := Lib.hid htl1; have HTL2 := Lib.hid htl2; have HSA := Lib.hid hSa; have HCAP := Lib.hid hcap
          clear htk hri hbo hk htl1 htl2 hSa hd her hof hv hrefs hab hcap
          have hpost : ∀ (ao2 : Option Addr) (cap2 : Nat), (Hid (Offs wr (zo + 1) 3 (.slice ao2 rest.length cap2) rest.length rest)) → True := fun _ _ _ => trivial
          clear hpost
          by_cases hc1 : cy = 1
          · subst hc1
            have hr0 : rest.length = 0 := by have := HCAP.out; omega
            obtain rfl : rest = [] := List.eq_nil_of_length_eq_zero hr0
            have HTL := Lib.hid (HTL1.out rfl)
            clear HTL1 HTL2 hr0
            go_wp2_with fail
            refine (HTK.out wr).mono ?_
            rintro e w2 ⟨rfl, K2⟩
            have HK2 := Lib.hid K2
            clear K2
            go_wp2_with fail
            obtain ⟨zh, hzh⟩ : ∃ y, y = w2.heap.size := ⟨_, rfl⟩
            simp only [← hzh]
            generalize hw3 : World.alloc _ _ = w3
            have bh : w3.heap[zh]? = some (.cells #[.int .u8 dk, .int .u8 dc, .bool dg, .bool dm, .int .u8 dow, .int .u8 rn, .int .u8 ds] 100 (0, 0)) := by rw [← hw3]; exact alloc_new _ _ _ hzh
            have K3 : Keep [] wr w3 := by rw [← hw3]; refine Keep.alloc ?_ _; exact HK2.out
            have hzo3 : zo < zh := by have h1 := lt_of_block (HK2.out.get HBOX.out (by simp)); omega
            have HBH := Lib.hid bh; have HO3 := Lib.hid (HTL.out.keep K3 (fun _ _ => by simp)); have HBO3 := Lib.hid (K3.get HBOX.out (by simp)); have HK3 := Lib.hid (HKX.out.trans K3)
            have HGY : Hid (∀ g, (Value.slice (some ⟨gy, oy, none⟩) 0 0).ownBlock = some g → g < zh) := fun g hg => by have h1 := (HTL.out.block g hg).2; have h2 := HK2.out.size; omega
            have hpop := HRIX.out.pop
            have HPOP := Lib.hid hpop
            have HYJ2 : Hid (([] : List Int).length + falses out + 1 = gk) := Lib.hid (by have h := HYJ.out; simp only [List.length_cons] at h; first | omega | (simp; omega))
            clear hw3 bh K3 hzh hpop HK2 HKX HTL HBOX HRIX HYJ
            go_loopg [8, 13] rn (fun j v8 v13 wq => ∃ (k : Nat) (xs : List Int) (out2 : List Bool) (ax : Option Addr) (cx : Nat), k + j = rn + 1 ∧ 1 ≤ k ∧ v13 = .int .i64 k ∧ v8 = .slice ax xs.length cx ∧ Hid (xs.length + falses out2 + 1 = gk) ∧ Offs wq (zo + 1) 3 (.slice ax xs.length cx) xs.length xs ∧ wq.heap[zo]? = some (.cells (cellsB out2) 4 (0, 0)) ∧ RI W c hs (some (A : Int)) out2 xs ∧ Hid (∀ q, q < k → ∀ v, LeadsAt W c A q v → out2.getD v.toNat false = true) ∧ Keep [] w wq ∧ wq.heap[zh]? = some (.cells #[.int .u8 dk, .int .u8 dc, .bool dg, .bool dm, .int .u8 dow, .int .u8 rn, .int .u8 ds] 100 (0, 0)) ∧ Hid (∀ g, (Value.slice ax xs.length cx).ownBlock = some g → g ≠ zh))
            case atStart => exact ⟨1, [], out, _, _, by omega, by omega, rfl, rfl, HYJ2, HO3.out, HBO3.out, HPOP.out, Lib.hid (fun q hq v hv => by have := hv.1; omega), HK3.out, HBH.out, Lib.hid (fun g hg => by have := HGY.out g hg; omega)⟩
            case round =>
              obtain ⟨k, xs, out2, ax, cx, hkj, hk1, rfl, rfl, HXJ, hof, hbo, hri, HPT, hk, hbh, HNZ⟩ := hrel
              have ch := cell_at hbh
              have HOFX := Lib.hid hof; have HBOQ := Lib.hid hbo; have HRIQ := Lib.hid hri; have HKQ := Lib.hid hk; have HBHQ := Lib.hid hbh
              clear hof hbo hri hk hbh
              by_cases hkr : k ≤ rn
              · have k1 : (k : Int) ≤ rn := by omega
                have hwa : IntKind.i64.wrap ((A : Int) + k) = ((A + k : Nat) : Int) := by rw [IntKind.wrap_i64]; omega
                by_cases hkN : A + k < N
                · have k2 : ((A + k : Nat) : Int) < N := by omega
                  have k3 : (0 : Int) ≤ ((A + k : Nat) : Int) := by omega
                  have hcv := HKQ.out.cell (HCW.out (A + k) (by rw [← HN.out]; omega)) (by simp)
                  have hvb := HWW.out ((A + k : Nat) : Int)
                  have hlead : ∀ v, LeadsAt W c A k v → v = rdz W ((A + k : Nat) : Int) ∧ v ≠ 0 ∧ v < N ∧ tellOf (rdz W v) c = 1 := fun v h => by
                    obtain ⟨_, _, _, h1, h2, h3, h4⟩ := h
                    rw [← HN.out] at h3
                    exact ⟨by rw [← h1]; congr 1, h2, h3, h4⟩
                  have hled : ∀ V : Nat, rdz W ((A + k : Nat) : Int) = V → V ≠ 0 → V < N → tellOf (rdz W V) c = 1 → LeadsTo W c A V := fun V h1 h2 h3 h4 => ⟨k, hk1, by rw [HD.out]; exact k1, by rw [← HN.out]; omega, by rw [← h1]; congr 1, by omega, by rw [← HN.out]; omega, h4⟩
                  obtain ⟨V, hV⟩ : ∃ V : Nat, rdz W ((A + k : Nat) : Int) = V := ⟨(rdz W ((A + k : Nat) : Int)).toNat, by omega⟩
                  rw [hV] at hcv hvb hlead
                  have hled := hled V hV
                  have HLEAD := Lib.hid hlead; have HLED := Lib.hid hled
                  have hnext : ∀ o3 : List Bool, (∀ u : Nat, out2.getD u false = true → o3.getD u false = true) → (V ≠ 0 → V < N → tellOf (rdz W V) c = 1 → o3.getD V false = true) → ∀ q, q < k + 1 → ∀ v, LeadsAt W c A q v → o3.getD v.toNat false = true := fun o3 hm hv q hq v hl => by
                    by_cases hqk : q = k
                    · subst hqk
                      obtain ⟨h1, h2, h3, h4⟩ := HLEAD.out v hl
                      subst h1
                      exact hv (by omega) (by omega) h4
                    · exact hm _ (HPT.out q (by omega) v hl)
                  have HNEXT := Lib.hid hnext
                  have hNw : IntKind.u64.wrap (N : Int) = N := by rw [IntKind.wrap_u64]; omega
                  clear hlead hled hnext hV
                  generalize hApk : A + k = Ap at *
                  have HAP := Lib.hid hApk
                  clear hApk
                  by_cases hv0 : V = 0
                  · subst hv0
                    go_wp2_with fail
                    go_roundg (rn - k)
                    case measure => omega
                    case rel => exact ⟨k + 1, xs, out2, ax, cx, by omega, by omega, by go_num, rfl, HXJ, HOFX.out, HBOQ.out, HRIQ.out, Lib.hid (HNEXT.out out2 (fun _ h => h) (fun h => absurd rfl h)), HKQ.out, HBHQ.out, HNZ⟩
                  have v1 : ((V : Int) == 0) = false := by simp; omega
                  by_cases hvN : V < N
                  · have v2 : decide ((N : Int) ≤ (V : Int)) = false := by simp; omega
                    have v3 : (V : Int) < N := by omega
                    have v4 : (0 : Int) ≤ (V : Int) := by omega
                    have hvo : V < out2.length := by rw [HRIQ.out.len, ← HN.out]; exact hvN
                    have hco : wr.cell? ⟨zo, V, none⟩ = some (.bool (out2.getD V false)) := by rw [cell_at HBOQ.out, cellsB_get, List.getD_eq_getElem?_getD, List.getElem?_eq_getElem hvo]; rfl
                    cases hob : out2.getD V false with
                    | true =>
                      rw [hob] at hco
                      have HOB := Lib.hid hob
                      clear hob
                      go_wp2_with fail
                      go_roundg (rn - k)
                      case measure => omega
                      case rel => exact ⟨k + 1, xs, out2, ax, cx, by omega, by omega, by go_num, rfl, HXJ, HOFX.out, HBOQ.out, HRIQ.out, Lib.hid (HNEXT.out out2 (fun _ h => h) (fun _ _ _ => HOB.out)), HKQ.out, HBHQ.out, HNZ⟩
                    | false =>
                      rw [hob] at hco
                      have HOB := Lib.hid hob
                      have hcx := HKQ.out.cell (HCW.out V (by rw [← HN.out]; exact hvN)) (by simp)
                      have htl := fun w => shade_tell (rdz W V) c (HWW.out V) w
                      have htt : Hid (tellOf (rdz W V) c = tellOf (rdz W V) c) := Lib.hid rfl
                      obtain ⟨tt, hteq⟩ : ∃ tt, tt = tellOf (rdz W V) c := ⟨_, rfl⟩
                      rw [← hteq] at htl
                      generalize rdz W (V : Int) = xv at hcx htl
                      have HTEQ := Lib.hid hteq; have HTL4 := Lib.hid htl
                      clear hob hteq htl htt
                      go_wp2_with fail
                      refine (HTL4.out wr).mono ?_
                      rintro e w4 ⟨rfl, K4⟩
                      have ch := cell_at (K4.get HBHQ.out (by simp))
                      have bo4 := K4.get HBOQ.out (by simp)
                      have co4 := cell_at bo4; have fo4 := frozen_at bo4; have lo4 := lt_of_block bo4
                      have hco4 := K4.cell hco (by simp)
                      have HK4 := Lib.hid (HKQ.out.trans K4); have HO4 := Lib.hid (HOFX.out.keep K4 (fun _ _ => by simp)); have HB4 := Lib.hid bo4; have HBH4 := Lib.hid (K4.get HBHQ.out (by simp))
                      clear K4 bo4 co4 hco hcx hcv
                      by_cases ht1 : tt = 1
                      · subst ht1
                        have hled := HLED.out (by omega) hvN HTEQ.out.symm
                        have hpush := HRIQ.out.push HSA.out V (by rw [← HN.out]; exact hvN) hled
                        have hfs := falses_set out2 V (by rw [HRIQ.out.len, ← HN.out]; exact hvN) HOB.out
                        have HPUSH := Lib.hid hpush; have HFS := Lib.hid hfs
                        have hVw : IntKind.i64.wrap (V : Int) = V := by rw [IntKind.wrap_i64]; omega
                        have hxl : xs.length ≤ 6000 := by have h1 := HXJ.out; have h2 := HJ6'.out; omega
                        have hsz4 : zo + 1 ≤ w4.heap.size := by have h1 := lt_of_block HB4.out; omega
                        have HSZ4 := Lib.hid hsz4
                        clear hled hpush hfs hsz4
                        go_upto_region 18 with (fail)
                        generalize hw5 : World.setCell _ _ _ = w5
                        have K5 : Keep [zo] w4 w5 := by rw [← hw5]; ((repeat (first | (with_reducible exact Keep.refl _ _) | (with_reducible refine Keep.drew ?_) | (with_reducible refine Keep.drewN ?_ _) | (with_reducible refine Keep.alloc ?_ _) | ((with_reducible refine Keep.setCell ?_ ?_ _); rotate_left; focus (first | (simp; done) | (simp; omega) | (left; dsimp only; omega))))); done)
                        have bo5 : w5.heap[zo]? = some (.cells (cellsB (out2.set V true)) 4 (0, 0)) := by rw [← hw5, ← cellsB_set]; exact put_at HB4.out V _
                        have hof5 := HO4.out.keep K5 (fun g hg => by have h1 := (HO4.out.block g hg).1; simp; omega)
                        have hs5 : zo + 1 ≤ w5.heap.size := by have h1 := K5.size; have h2 := HSZ4.out; omega
                        have HK5 := Lib.hid (HK4.out.fresh K5 (by have := HZO.out; simp; omega)); have HB5 := Lib.hid bo5; have HO5 := Lib.hid hof5; have HS5 := Lib.hid hs5; have HBH5 := Lib.hid (K5.get HBH4.out (by simp; omega))
                        clear hw5 K5 bo5 hof5 hs5 ch fo4 lo4 hco4
                        go_wp2_with (at_builtin; go_loud (refine wpList_append_offs _ rfl _ _ _ rfl elem_int (zo + 1) (.slice ax xs.length cx) xs.length xs rfl (HO5.out.keep (S := []) (by repeat (first | (with_reducible exact Keep.refl _ _) | (with_reducible refine Keep.drew ?_) | (with_reducible refine Keep.drewN ?_ _) | (with_reducible refine Keep.alloc ?_ _) | (with_reducible refine Keep.setCell ?_ (by first | (simp; done) | (simp; omega) | (left; dsimp only; omega)) _))) (fun _ _ => by simp)) _ (V : Int) rfl (Rd.one (alloc_new _ _ _ rfl) rfl) (by simp only [maxLen]; omega) (by omega) (by have := HS5.out; simp; omega) ?_); intro ao' cap' w6 ho hg hwh; go_loud (have HK6 := Lib.hid (show Keep (Value.slice ax xs.length cx).ownBlock.toList w5 w6 from by refine Keep.grown (w := World.alloc w5 _) (by repeat (first | (with_reducible exact Keep.refl _ _) | (with_reducible refine Keep.drew ?_) | (with_reducible refine Keep.drewN ?_ _) | (with_reducible refine Keep.alloc ?_ _) | (with_reducible refine Keep.setCell ?_ (by first | (simp; done) | (simp; omega) | (left; dsimp only; omega)) _))) hg (fun k hk => .inr (by simpa using hk))); have HO6 := Lib.hid ho; have HWH := Lib.hid hwh; clear ho hg hwh))
                        have hno : zo ∉ (Value.slice ax xs.length cx).ownBlock.toList := fun hm => by have := (HO5.out.block zo (by simpa using hm)).1; omega
                        have hnh : zh ∉ (Value.slice ax xs.length cx).ownBlock.toList := fun hm => HNZ.out zh (by simpa using hm) rfl
                        have HB6 := Lib.hid (HK6.out.get HB5.out hno); have HBH6 := Lib.hid (HK6.out.get HBH5.out hnh)
                        have HKF := Lib.hid (HK5.out.fresh HK6.out (fun x hx => .inl (by have h1 := (HO5.out.block x (by simpa using hx)).1; have h2 := HZO.out; omega)))
                        have hzs : zh < w5.heap.size := lt_of_block HBH5.out
                        have HZS := Lib.hid hzs
                        clear hno hnh hzs
                        go_roundg (rn - k)
                        case measure => omega
                        case rel =>
                          refine ⟨k + 1, xs ++ [(V : Int)], out2.set V true, ao', cap', by omega, by omega, by go_num, by rw [List.length_append]; rfl, Lib.hid ?_, by rw [List.length_append]; exact HO6.out, HB6.out, HPUSH.out, Lib.hid (HNEXT.out _ (fun u hu => getD_set_true out2 V u hu) (fun _ _ _ => ?_)), HKF.out, HBH6.out, Lib.hid (fun g hg => ?_)⟩
                          · have h1 := HXJ.out; have h2 := HFS.out
                            rw [List.length_append]; simp; omega
                          · rw [List.getD_eq_getElem?_getD, List.getElem?_set_self (by rw [HRIQ.out.len, ← HN.out]; exact hvN)]; rfl
                          · rw [List.length_append] at hg
                            rcases HWH.out g hg with h | h
                            · exact HNZ.out g h
                            · have := HZS.out; simp at h; omega
                      · have q1 : (tt == 1) = false := by simp [ht1]
                        have q2 : (tt != 1) = true := by simp [ht1]
                        go_wp2_with fail
                        go_roundg (rn - k)
                        case measure => omega
                        case rel => exact ⟨k + 1, xs, out2, ax, cx, by omega, by omega, by go_num, rfl, HXJ, HO4.out, HB4.out, HRIQ.out, Lib.hid (HNEXT.out out2 (fun _ h => h) (fun _ _ h => absurd (HTEQ.out.trans h) ht1)), HK4.out, HBH4.out, HNZ⟩
                  · have v2 : decide ((N : Int) ≤ (V : Int)) = true := by simp; omega
                    go_wp2_with fail
                    go_roundg (rn - k)
                    case measure => omega
                    case rel => exact ⟨k + 1, xs, out2, ax, cx, by omega, by omega, by go_num, rfl, HXJ, HOFX.out, HBOQ.out, HRIQ.out, Lib.hid (HNEXT.out out2 (fun _ h => h) (fun _ h => absurd h hvN)), HKQ.out, HBHQ.out, HNZ⟩
                · have k2 : ¬ ((A + k : Nat) : Int) < N := by omega
                  have k2' : decide (((A + k : Nat) : Int) < (N : Int)) = false := by simp; omega
                  have hcl := HRIQ.out.close (fun v hv => by
                    obtain ⟨q, hq⟩ := hv
                    have h0 := hq
                    obtain ⟨_, _, h3, _⟩ := hq
                    rw [← HN.out] at h3
                    exact HPT.out q (by omega) v h0)
                  have HCL := Lib.hid hcl
                  clear hcl
                  go_wp2_with fail
                  go_roundg (xs.length + falses out2)
                  case measure => have := HXJ.out; omega
                  case rel => exact ⟨xs, out2, ax, cx, rfl, Lib.hid rfl, Lib.hid (by have h1 := HXJ.out; have h2 := HJ6'.out; omega), HOFX.out, HBOQ.out, HCL.out, HKQ.out⟩
              · have k1 : ¬ (k : Int) ≤ rn := by omega
                have hcl := HRIQ.out.close (fun v hv => by
                  obtain ⟨q, hq⟩ := hv
                  have h0 := hq
                  obtain ⟨_, h2, _⟩ := hq
                  rw [HD.out] at h2
                  dsimp only at h2
                  exact HPT.out q (by omega) v h0)
                have HCL := Lib.hid hcl
                clear hcl
                go_wp2_with fail
                go_roundg (xs.length + falses out2)
                case measure => have := HXJ.out; omega
                case rel => exact ⟨xs, out2, ax, cx, rfl, Lib.hid rfl, Lib.hid (by have h1 := HXJ.out; have h2 := HJ6'.out; omega), HOFX.out, HBOQ.out, HCL.out, HKQ.out⟩
          · have HTL := Lib.hid (HTL2.out hc1)
            clear HTL1 HTL2
            go_wp2_with fail
            refine (HTK.out wr).mono ?_
            rintro e w2 ⟨rfl, K2⟩
            have HK2 := Lib.hid K2
            clear K2
            go_wp2_with fail
            obtain ⟨zh, hzh⟩ : ∃ y, y = w2.heap.size := ⟨_, rfl⟩
            simp only [← hzh]
            generalize hw3 : World.alloc _ _ = w3
            have bh : w3.heap[zh]? = some (.cells #[.int .u8 dk, .int .u8 dc, .bool dg, .bool dm, .int .u8 dow, .int .u8 rn, .int .u8 ds] 100 (0, 0)) := by rw [← hw3]; exact alloc_new _ _ _ hzh
            have K3 : Keep [] wr w3 := by rw [← hw3]; refine Keep.alloc ?_ _; exact HK2.out
            have hzo3 : zo < zh := by have h1 := lt_of_block (HK2.out.get HBOX.out (by simp)); omega
            have HBH := Lib.hid bh; have HO3 := Lib.hid (HTL.out.keep K3 (fun _ _ => by simp)); have HBO3 := Lib.hid (K3.get HBOX.out (by simp)); have HK3 := Lib.hid (HKX.out.trans K3)
            have HGY : Hid (∀ g, (Value.slice (some ⟨gy, oy + 1, none⟩) rest.length (cy - 1)).ownBlock = some g → g < zh) := fun g hg => by have h1 := (HTL.out.block g hg).2; have h2 := HK2.out.size; omega
            have hpop := HRIX.out.pop
            have HPOP := Lib.hid hpop
            have HYJ2 : Hid ((rest : List Int).length + falses out + 1 = gk) := Lib.hid (by have h := HYJ.out; simp only [List.length_cons] at h; first | omega | (simp; omega))
            clear hw3 bh K3 hzh hpop HK2 HKX HTL HBOX HRIX HYJ
            go_loopg [8, 13] rn (fun j v8 v13 wq => ∃ (k : Nat) (xs : List Int) (out2 : List Bool) (ax : Option Addr) (cx : Nat), k + j = rn + 1 ∧ 1 ≤ k ∧ v13 = .int .i64 k ∧ v8 = .slice ax xs.length cx ∧ Hid (xs.length + falses out2 + 1 = gk) ∧ Offs wq (zo + 1) 3 (.slice ax xs.length cx) xs.length xs ∧ wq.heap[zo]? = some (.cells (cellsB out2) 4 (0, 0)) ∧ RI W c hs (some (A : Int)) out2 xs ∧ Hid (∀ q, q < k → ∀ v, LeadsAt W c A q v → out2.getD v.toNat false = true) ∧ Keep [] w wq ∧ wq.heap[zh]? = some (.cells #[.int .u8 dk, .int .u8 dc, .bool dg, .bool dm, .int .u8 dow, .int .u8 rn, .int .u8 ds] 100 (0, 0)) ∧ Hid (∀ g, (Value.slice ax xs.length cx).ownBlock = some g → g ≠ zh))
            case atStart => exact ⟨1, rest, out, _, _, by omega, by omega, rfl, rfl, HYJ2, HO3.out, HBO3.out, HPOP.out, Lib.hid (fun q hq v hv => by have := hv.1; omega), HK3.out, HBH.out, Lib.hid (fun g hg => by have := HGY.out g hg; omega)⟩
            case round =>
              obtain ⟨k, xs, out2, ax, cx, hkj, hk1, rfl, rfl, HXJ, hof, hbo, hri, HPT, hk, hbh, HNZ⟩ := hrel
              have ch := cell_at hbh
              have HOFX := Lib.hid hof; have HBOQ := Lib.hid hbo; have HRIQ := Lib.hid hri; have HKQ := Lib.hid hk; have HBHQ := Lib.hid hbh
              clear hof hbo hri hk hbh
              by_cases hkr : k ≤ rn
              · have k1 : (k : Int) ≤ rn := by omega
                have hwa : IntKind.i64.wrap ((A : Int) + k) = ((A + k : Nat) : Int) := by rw [IntKind.wrap_i64]; omega
                by_cases hkN : A + k < N
                · have k2 : ((A + k : Nat) : Int) < N := by omega
                  have k3 : (0 : Int) ≤ ((A + k : Nat) : Int) := by omega
                  have hcv := HKQ.out.cell (HCW.out (A + k) (by rw [← HN.out]; omega)) (by simp)
                  have hvb := HWW.out ((A + k : Nat) : Int)
                  have hlead : ∀ v, LeadsAt W c A k v → v = rdz W ((A + k : Nat) : Int) ∧ v ≠ 0 ∧ v < N ∧ tellOf (rdz W v) c = 1 := fun v h => by
                    obtain ⟨_, _, _, h1, h2, h3, h4⟩ := h
                    rw [← HN.out] at h3
                    exact ⟨by rw [← h1]; congr 1, h2, h3, h4⟩
                  have hled : ∀ V : Nat, rdz W ((A + k : Nat) : Int) = V → V ≠ 0 → V < N → tellOf (rdz W V) c = 1 → LeadsTo W c A V := fun V h1 h2 h3 h4 => ⟨k, hk1, by rw [HD.out]; exact k1, by rw [← HN.out]; omega, by rw [← h1]; congr 1, by omega, by rw [← HN.out]; omega, h4⟩
                  obtain ⟨V, hV⟩ : ∃ V : Nat, rdz W ((A + k : Nat) : Int) = V := ⟨(rdz W ((A + k : Nat) : Int)).toNat, by omega⟩
                  rw [hV] at hcv hvb hlead
                  have hled := hled V hV
                  have HLEAD := Lib.hid hlead; have HLED := Lib.hid hled
                  have hnext : ∀ o3 : List Bool, (∀ u : Nat, out2.getD u false = true → o3.getD u false = true) → (V ≠ 0 → V < N → tellOf (rdz W V) c = 1 → o3.getD V false = true) → ∀ q, q < k + 1 → ∀ v, LeadsAt W c A q v → o3.getD v.toNat false = true := fun o3 hm hv q hq v hl => by
                    by_cases hqk : q = k
                    · subst hqk
                      obtain ⟨h1, h2, h3, h4⟩ := HLEAD.out v hl
                      subst h1
                      exact hv (by omega) (by omega) h4
                    · exact hm _ (HPT.out q (by omega) v hl)
                  have HNEXT := Lib.hid hnext
                  have hNw : IntKind.u64.wrap (N : Int) = N := by rw [IntKind.wrap_u64]; omega
                  clear hlead hled hnext hV
                  generalize hApk : A + k = Ap at *
                  have HAP := Lib.hid hApk
                  clear hApk
                  by_cases hv0 : V = 0
                  · subst hv0
                    go_wp2_with fail
                    go_roundg (rn - k)
                    case measure => omega
                    case rel => exact ⟨k + 1, xs, out2, ax, cx, by omega, by omega, by go_num, rfl, HXJ, HOFX.out, HBOQ.out, HRIQ.out, Lib.hid (HNEXT.out out2 (fun _ h => h) (fun h => absurd rfl h)), HKQ.out, HBHQ.out, HNZ⟩
                  have v1 : ((V : Int) == 0) = false := by simp; omega
                  by_cases hvN : V < N
                  · have v2 : decide ((N : Int) ≤ (V : Int)) = false := by simp; omega
                    have v3 : (V : Int) < N := by omega
                    have v4 : (0 : Int) ≤ (V : Int) := by omega
                    have hvo : V < out2.length := by rw [HRIQ.out.len, ← HN.out]; exact hvN
                    have hco : wr.cell? ⟨zo, V, none⟩ = some (.bool (out2.getD V false)) := by rw [cell_at HBOQ.out, cellsB_get, List.getD_eq_getElem?_getD, List.getElem?_eq_getElem hvo]; rfl
                    cases hob : out2.getD V false with
                    | true =>
                      rw [hob] at hco
                      have HOB := Lib.hid hob
                      clear hob
                      go_wp2_with fail
                      go_roundg (rn - k)
                      case measure => omega
                      case rel => exact ⟨k + 1, xs, out2, ax, cx, by omega, by omega, by go_num, rfl, HXJ, HOFX.out, HBOQ.out, HRIQ.out, Lib.hid (HNEXT.out out2 (fun _ h => h) (fun _ _ _ => HOB.out)), HKQ.out, HBHQ.out, HNZ⟩
                    | false =>
                      rw [hob] at hco
                      have HOB := Lib.hid hob
                      have hcx := HKQ.out.cell (HCW.out V (by rw [← HN.out]; exact hvN)) (by simp)
                      have htl := fun w => shade_tell (rdz W V) c (HWW.out V) w
                      have htt : Hid (tellOf (rdz W V) c = tellOf (rdz W V) c) := Lib.hid rfl
                      obtain ⟨tt, hteq⟩ : ∃ tt, tt = tellOf (rdz W V) c := ⟨_, rfl⟩
                      rw [← hteq] at htl
                      generalize rdz W (V : Int) = xv at hcx htl
                      have HTEQ := Lib.hid hteq; have HTL4 := Lib.hid htl
                      clear hob hteq htl htt
                      go_wp2_with fail
                      refine (HTL4.out wr).mono ?_
                      rintro e w4 ⟨rfl, K4⟩
                      have ch := cell_at (K4.get HBHQ.out (by simp))
                      have bo4 := K4.get HBOQ.out (by simp)
                      have co4 := cell_at bo4; have fo4 := frozen_at bo4; have lo4 := lt_of_block bo4
                      have hco4 := K4.cell hco (by simp)
                      have HK4 := Lib.hid (HKQ.out.trans K4); have HO4 := Lib.hid (HOFX.out.keep K4 (fun _ _ => by simp)); have HB4 := Lib.hid bo4; have HBH4 := Lib.hid (K4.get HBHQ.out (by simp))
                      clear K4 bo4 co4 hco hcx hcv
                      by_cases ht1 : tt = 1
                      · subst ht1
                        have hled := HLED.out (by omega) hvN HTEQ.out.symm
                        have hpush := HRIQ.out.push HSA.out V (by rw [← HN.out]; exact hvN) hled
                        have hfs := falses_set out2 V (by rw [HRIQ.out.len, ← HN.out]; exact hvN) HOB.out
                        have HPUSH := Lib.hid hpush; have HFS := Lib.hid hfs
                        have hVw : IntKind.i64.wrap (V : Int) = V := by rw [IntKind.wrap_i64]; omega
                        have hxl : xs.length ≤ 6000 := by have h1 := HXJ.out; have h2 := HJ6'.out; omega
                        have hsz4 : zo + 1 ≤ w4.heap.size := by have h1 := lt_of_block HB4.out; omega
                        have HSZ4 := Lib.hid hsz4
                        clear hled hpush hfs hsz4
                        go_upto_region 18 with (fail)
                        generalize hw5 : World.setCell _ _ _ = w5
                        have K5 : Keep [zo] w4 w5 := by rw [← hw5]; ((repeat (first | (with_reducible exact Keep.refl _ _) | (with_reducible refine Keep.drew ?_) | (with_reducible refine Keep.drewN ?_ _) | (with_reducible refine Keep.alloc ?_ _) | ((with_reducible refine Keep.setCell ?_ ?_ _); rotate_left; focus (first | (simp; done) | (simp; omega) | (left; dsimp only; omega))))); done)
                        have bo5 : w5.heap[zo]? = some (.cells (cellsB (out2.set V true)) 4 (0, 0)) := by rw [← hw5, ← cellsB_set]; exact put_at HB4.out V _
                        have hof5 := HO4.out.keep K5 (fun g hg => by have h1 := (HO4.out.block g hg).1; simp; omega)
                        have hs5 : zo + 1 ≤ w5.heap.size := by have h1 := K5.size; have h2 := HSZ4.out; omega
                        have HK5 := Lib.hid (HK4.out.fresh K5 (by have := HZO.out; simp; omega)); have HB5 := Lib.hid bo5; have HO5 := Lib.hid hof5; have HS5 := Lib.hid hs5; have HBH5 := Lib.hid (K5.get HBH4.out (by simp; omega))
                        clear hw5 K5 bo5 hof5 hs5 ch fo4 lo4 hco4
                        go_wp2_with (at_builtin; go_loud (refine wpList_append_offs _ rfl _ _ _ rfl elem_int (zo + 1) (.slice ax xs.length cx) xs.length xs rfl (HO5.out.keep (S := []) (by repeat (first | (with_reducible exact Keep.refl _ _) | (with_reducible refine Keep.drew ?_) | (with_reducible refine Keep.drewN ?_ _) | (with_reducible refine Keep.alloc ?_ _) | (with_reducible refine Keep.setCell ?_ (by first | (simp; done) | (simp; omega) | (left; dsimp only; omega)) _))) (fun _ _ => by simp)) _ (V : Int) rfl (Rd.one (alloc_new _ _ _ rfl) rfl) (by simp only [maxLen]; omega) (by omega) (by have := HS5.out; simp; omega) ?_); intro ao' cap' w6 ho hg hwh; go_loud (have HK6 := Lib.hid (show Keep (Value.slice ax xs.length cx).ownBlock.toList w5 w6 from by refine Keep.grown (w := World.alloc w5 _) (by repeat (first | (with_reducible exact Keep.refl _ _) | (with_reducible refine Keep.drew ?_) | (with_reducible refine Keep.drewN ?_ _) | (with_reducible refine Keep.alloc ?_ _) | (with_reducible refine Keep.setCell ?_ (by first | (simp; done) | (simp; omega) | (left; dsimp only; omega)) _))) hg (fun k hk => .inr (by simpa using hk))); have HO6 := Lib.hid ho; have HWH := Lib.hid hwh; clear ho hg hwh))
                        have hno : zo ∉ (Value.slice ax xs.length cx).ownBlock.toList := fun hm => by have := (HO5.out.block zo (by simpa using hm)).1; omega
                        have hnh : zh ∉ (Value.slice ax xs.length cx).ownBlock.toList := fun hm => HNZ.out zh (by simpa using hm) rfl
                        have HB6 := Lib.hid (HK6.out.get HB5.out hno); have HBH6 := Lib.hid (HK6.out.get HBH5.out hnh)
                        have HKF := Lib.hid (HK5.out.fresh HK6.out (fun x hx => .inl (by have h1 := (HO5.out.block x (by simpa using hx)).1; have h2 := HZO.out; omega)))
                        have hzs : zh < w5.heap.size := lt_of_block HBH5.out
                        have HZS := Lib.hid hzs
                        clear hno hnh hzs
                        go_roundg (rn - k)
                        case measure => omega
                        case rel =>
                          refine ⟨k + 1, xs ++ [(V : Int)], out2.set V true, ao', cap', by omega, by omega, by go_num, by rw [List.length_append]; rfl, Lib.hid ?_, by rw [List.length_append]; exact HO6.out, HB6.out, HPUSH.out, Lib.hid (HNEXT.out _ (fun u hu => getD_set_true out2 V u hu) (fun _ _ _ => ?_)), HKF.out, HBH6.out, Lib.hid (fun g hg => ?_)⟩
                          · have h1 := HXJ.out; have h2 := HFS.out
                            rw [List.length_append]; simp; omega
                          · rw [List.getD_eq_getElem?_getD, List.getElem?_set_self (by rw [HRIQ.out.len, ← HN.out]; exact hvN)]; rfl
                          · rw [List.length_append] at hg
                            rcases HWH.out g hg with h | h
                            · exact HNZ.out g h
                            · have := HZS.out; simp at h; omega
                      · have q1 : (tt == 1) = false := by simp [ht1]
                        have q2 : (tt != 1) = true := by simp [ht1]
                        go_wp2_with fail
                        go_roundg (rn - k)
                        case measure => omega
                        case rel => exact ⟨k + 1, xs, out2, ax, cx, by omega, by omega, by go_num, rfl, HXJ, HO4.out, HB4.out, HRIQ.out, Lib.hid (HNEXT.out out2 (fun _ h => h) (fun _ _ h => absurd (HTEQ.out.trans h) ht1)), HK4.out, HBH4.out, HNZ⟩
                  · have v2 : decide ((N : Int) ≤ (V : Int)) = true := by simp; omega
                    go_wp2_with fail
                    go_roundg (rn - k)
                    case measure => omega
                    case rel => exact ⟨k + 1, xs, out2, ax, cx, by omega, by omega, by go_num, rfl, HXJ, HOFX.out, HBOQ.out, HRIQ.out, Lib.hid (HNEXT.out out2 (fun _ h => h) (fun _ h => absurd h hvN)), HKQ.out, HBHQ.out, HNZ⟩
                · have k2 : ¬ ((A + k : Nat) : Int) < N := by omega
                  have k2' : decide (((A + k : Nat) : Int) < (N : Int)) = false := by simp; omega
                  have hcl := HRIQ.out.close (fun v hv => by
                    obtain ⟨q, hq⟩ := hv
                    have h0 := hq
                    obtain ⟨_, _, h3, _⟩ := hq
                    rw [← HN.out] at h3
                    exact HPT.out q (by omega) v h0)
                  have HCL := Lib.hid hcl
                  clear hcl
                  go_wp2_with fail
                  go_roundg (xs.length + falses out2)
                  case measure => have := HXJ.out; omega
                  case rel => exact ⟨xs, out2, ax, cx, rfl, Lib.hid rfl, Lib.hid (by have h1 := HXJ.out; have h2 := HJ6'.out; omega), HOFX.out, HBOQ.out, HCL.out, HKQ.out⟩
              · have k1 : ¬ (k : Int) ≤ rn := by omega
                have hcl := HRIQ.out.close (fun v hv => by
                  obtain ⟨q, hq⟩ := hv
                  have h0 := hq
                  obtain ⟨_, h2, _⟩ := hq
                  rw [HD.out] at h2
                  dsimp only at h2
                  exact HPT.out q (by omega) v h0)
                have HCL := Lib.hid hcl
                clear hcl
                go_wp2_with fail
                go_roundg (xs.length + falses out2)
                case measure => have := HXJ.out; omega
                case rel => exact ⟨xs, out2, ax, cx, rfl, Lib.hid rfl, Lib.hid (by have h1 := HXJ.out; have h2 := HJ6'.out; omega), HOFX.out, HBOQ.out, HCL.out, HKQ.out⟩
end Go.Proofs.Ytnadiddaeolanaa
