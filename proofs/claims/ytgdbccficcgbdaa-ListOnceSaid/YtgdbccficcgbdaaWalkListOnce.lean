/- The walk of ListOnce. -/
import Derived.Test.YtgdbccficcgbdaaOnce2
import Derived.Deep.DeepCutAuto
import Derived.Deep.CutBlock
import Derived.Deep.RegionHeld3
import Derived.Deep.DrawnRows
namespace Go.Proofs.Ytgdbccficcgbdaa
open Go.RowKit Go.ChangeShapes Go.WideShapes Go.Maps
attribute [local go_sem ↓] Go.wp_at_zero Go.wp_at_succ
set_option linter.unusedVariables false
set_option linter.unusedSimpArgs false

set_option maxRecDepth 100000 in
set_option maxHeartbeats 4000000 in
theorem list_once_law (ao : Option Addr) (n cap : Nat) (F : Nat → Nat → Int) (w : World)
    (hA : Recs w (.slice ao n cap) n [.u8, .i64, .i64, .i64] F) : Calls Try.prog 14 #[.slice ao n cap] w fun e w' => e = .returned (.bool true) ∧ Below w.heap.size w w' := by
  refine calls_abs fun R hR => ?_
  have HA := Lib.hid hA
  have hnm : n ≤ 9223372036854775807 := by
    obtain ⟨cs, hr, _⟩ := hA
    obtain ⟨_, _, hv, h1, h2, _⟩ := hr
    simp only [maxLen] at h2
    omega
  clear hA
  by_cases hbig : 150 < n
  · have hb1 : (150 : Int) < (n : Int) := by omega
    go_enter Try.func14, Try.ntmps14
    go_wp2_with (go_at_call 53; refine (list_wakes _).mono ?_; rintro e w' ⟨rfl, hk⟩)
    exact hR.out _ _ ⟨rfl, hk.below (Nat.le_refl _) (by simp)⟩
  have hb1 : ¬ (150 : Int) < (n : Int) := by omega
  have hmm := @run_makeMap Try.prog
  go_enter Try.func14, Try.ntmps14
  go_wp2_with fail
  refine (list_new w).mono ?_
  rintro e w1 ⟨rfl, N1, K1⟩
  obtain ⟨b, hb⟩ : ∃ b, b = w.heap.size := ⟨_, rfl⟩
  have HB := Lib.hid hb
  simp only [← hb] at N1 ⊢
  have hs1 := K1.size
  have HN1 := Lib.hid N1; have HK1 := Lib.hid K1
  have hl1 := lt_of_block N1.head
  clear N1 K1 hb
  go_wp2_with fail
  go_loopg [5] n (fun j i wr => ∃ (k : Nat) (L : Nat → List Int) (V : Nat → Value), k + j = n ∧ i = .int .i64 k ∧ LM w b w1.heap.size k wr L V ∧ total L ≤ k)
  case atStart =>
    refine ⟨0, fun _ => [], fun _ => .slice none 0 0, by omega, rfl, ⟨HN1.out.keep (S := []) (by repeat (first | (with_reducible exact Keep.refl _ _) | (with_reducible refine Keep.drew ?_) | (with_reducible refine Keep.drewN ?_ _) | (with_reducible refine Keep.alloc ?_ _) | (with_reducible refine Keep.setCell ?_ (by first | (simp; done) | (simp; omega) | (left; dsimp only; omega)) _))) (fun _ _ => by simp), MapI.made w1, ?_, HK1.out.trans (by repeat (first | (with_reducible exact Keep.refl _ _) | (with_reducible refine Keep.drew ?_) | (with_reducible refine Keep.drewN ?_ _) | (with_reducible refine Keep.alloc ?_ _) | (with_reducible refine Keep.setCell ?_ (by first | (simp; done) | (simp; omega) | (left; dsimp only; omega)) _))), by have := HB.out; omega⟩, by simp [total]⟩
    intro hm
    have := (HN1.out.blocks _ hm).2
    omega
  case round =>
    obtain ⟨k, L, V, hkj, rfl, hP, htot⟩ := hrel
    have HP := Lib.hid hP; clear hP
    by_cases hkn : k < n
    · obtain ⟨ab, aof, rfl, hab, hcells⟩ := HA.out.cell hkn (by simp)
      have d0 := HP.out.keep.cell (hcells 0 .u8 rfl).1 (by simp)
      have d1 := HP.out.keep.cell (hcells 1 .i64 rfl).1 (by simp)
      have d2 := HP.out.keep.cell (hcells 2 .i64 rfl).1 (by simp)
      have d3 := HP.out.keep.cell (hcells 3 .i64 rfl).1 (by simp)
      have WF2 := Lib.hid (hcells 2 .i64 rfl).2
      simp only [Nat.add_zero, List.length_cons, List.length_nil, ← Nat.add_assoc] at d0 d1 d2 d3
      clear hcells
      generalize hq0 : w1.heap.size = q0 at *
      clear hq0
      have lq := HP.out.map.lt
      have lb := lt_of_block HP.out.lst.head
      have hlbs : ∀ g ∈ lblocks b V, g < wr.heap.size := fun g hg => (HP.out.lst.blocks g hg).2
      go_upto_block 2 with (fail)
      obtain ⟨x, hx⟩ : ∃ x, x = wr.heap.size := ⟨_, rfl⟩
      have HX := Lib.hid hx
      simp only [← hx] at lq lb hlbs ⊢
      generalize hwa : World.alloc wr _ = wa
      have hact : wa.heap[x]? = some (.cells #[.int .u8 (F k 0), .int .i64 (F k 1), .int .i64 (F k 2), .int .i64 (F k 3)] 95 (0, 0)) := by rw [← hwa]; exact alloc_new _ _ _ hx
      have hPa : LM w b q0 k wa L V := HP.out.still (by rw [← hwa]; exact (by repeat (first | (with_reducible exact Keep.refl _ _) | (with_reducible refine Keep.drew ?_) | (with_reducible refine Keep.drewN ?_ _) | (with_reducible refine Keep.alloc ?_ _) | (with_reducible refine Keep.setCell ?_ (by first | (simp; done) | (simp; omega) | (left; dsimp only; omega)) _))))
      have hsz : x < wa.heap.size := lt_of_block hact
      have hxb : x ≠ q0 := by omega
      clear hwa hx d0 d1 d2 d3
      have HPA := Lib.hid hPa; have HACT := Lib.hid hact; have HLB := Lib.hid hlbs
      clear hPa hlbs
      generalize hf0 : F k 0 = f0 at *; generalize hf1 : F k 1 = f1 at *; generalize hf2 : F k 2 = f2 at *; generalize hf3 : F k 3 = f3 at *
      clear hf0 hf1 hf2 hf3
      go_cut [] (fun wx => (∃ V', LM w b q0 (k + 1) wx (actL f0 f1 f2 f3 L) V'))
      case first =>
        have ca := cell_at hact
        by_cases p0 : f0 = 0
        · have t0 : (f0 == 0) = true := by simp [p0]
          have hL2 : actL f0 f1 f2 f3 L = popL L f1 := by simp [actL, p0]
          have HACTL := Lib.hid hL2
          clear p0 hL2
          go_wp2_with fail
          refine (list_pop HPA.out.lst (by omega) f1).mono ?_
          rintro e w2 ⟨rfl, V', hl2, hk2, hf2⟩
          obtain ⟨m2, ap2, k02⟩ := HPA.out.listed hl2 hk2 hf2
          have hact2 := hk2.get HACT.out (fun hm => by have := HLB.out _ hm; omega)
          have ca2 := cell_at hact2
          have HL2 := Lib.hid hl2; have HM2 := Lib.hid m2; have HAP2 := Lib.hid ap2; have HK02 := Lib.hid k02
          clear hl2 hk2 hf2 m2 ap2 k02 hact2 ca
          rcases popE_cases (L := L) (c := f1) with ⟨hE, kk, xs, y, hc, hk4, hLk, hX, hpl⟩ | ⟨hE, hX, hpl⟩
          · rw [hE, hX]
            have HLK := Lib.hid hLk; have HPL := Lib.hid hpl; have HC := Lib.hid hc
            have lk := HM2.out.look (HM2.out.wf hk4 (x := y) (by rw [hLk]; simp))
            have hcls : clsL L y = f1 + 1 := by rw [HM2.out.once.cls hk4 (x := y) (by rw [hLk]; simp), hc]
            rw [hcls] at lk
            have hwr : IntKind.i64.wrap (f1 + 1) = f1 + 1 := by rw [IntKind.wrap_i64]; omega
            clear hcls hLk hpl hE hX hc
            go_wp2_with (at_delete; refine wpList_delete_I _ rfl _ _ rfl rfl rfl HM2.out hk4 HLK.out ?_; intro w3 hm3 hk3; have HM3 := Lib.hid hm3; have HK3 := Lib.hid hk3; clear hm3 hk3)
            go_meet
            case rel =>
              rw [HACTL.out, HPL.out]
              have hl := HL2.out
              rw [HPL.out] at hl
              exact ⟨_, LM.made hl HAP2.out HK02.out HPA.out.above HK3.out (HM3.out.mono (by omega))⟩
          · have HE := Lib.hid hE; have HPL := Lib.hid hpl
            have e0 : (popE L f1 == 0) = false := by simp [hE]
            have e1 : (popE L f1 != 0) = true := by simp [hE]
            rw [hX]
            clear hE hX hpl
            generalize popE L f1 = E at e0 e1 HE
            go_wp2_with fail
            go_meet
            case rel =>
              rw [HACTL.out]
              have hl := HL2.out
              rw [HPL.out] at hl ⊢
              exact ⟨_, LM.made hl HAP2.out HK02.out HPA.out.above (Keep.refl _ _) (HM2.out.mono (by omega))⟩
        have t0 : (f0 == 0) = false := by simp [p0]
        by_cases p1 : f0 = 1
        · have t1 : (f0 == 1) = true := by simp [p1]
          have hL2 : actL f0 f1 f2 f3 L = (fun c => left f2 f3 (L c)) := by simp [actL, p1]
          have HACTL := Lib.hid hL2
          clear p0 p1 hL2
          obtain ⟨D, hown, hhas, hat, honce, hwf⟩ := HPA.out.map
          have hsd := MapI.size hown hhas honce hwf
          have HOWN := Lib.hid hown; have HHAS := Lib.hid hhas; have HAT := Lib.hid hat; have HON := Lib.hid honce; have HWF := Lib.hid hwf; have HSD := Lib.hid hsd
          clear hown hhas hat honce hwf hsd
          go_wp2_with (at_range; refine wpList_range_own _ rfl _ 106 rfl 3 3 law_int Try.underlying106 _ q0 k D rfl HOWN.out ?_; intro wb hrg0 hg0 hs0; have HRG0 := Lib.hid hrg0; have HG0 := Lib.hid hg0; have HS0 := Lib.hid hs0; clear hrg0 hg0 hs0)
          go_frame
          generalize hrb : wa.heap.size = rb at *
          have HRB := Lib.hid hrb
          clear hrb
          go_loopg [9] (Maps.size D) (fun j nn wz => ∃ lft : Lit → Bool, wz.ranges Try.prog 3 (plainElem Try.prog 3) q0 rb k D lft j ∧ nn = .int .i64 (metL L f2 f3 lft : Nat) ∧ (∀ y, (Lit.int .i64 y).wf = true → lft (.int .i64 y) = true → hasL L y = true) ∧ Keep [] wa wz)
          case atStart =>
            refine ⟨Maps.has D, HRG0.out, ?_, fun y hy h => by rw [← HHAS.out y hy]; exact h, (Keep.refl _ _).grown HG0.out (by simp)⟩
            rw [metL_start (fun y hy => by rw [HHAS.out y (HWF.out y hy), hasL_keys]; exact decide_eq_true hy)]
            rfl
          case round =>
            obtain ⟨lft, hrg, rfl, hlf, hkz⟩ := hrel
            have HRG := Lib.hid hrg; have HLF := Lib.hid hlf; have HKZ := Lib.hid hkz
            have caz := cell_at (hkz.get HACT.out (by simp))
            have hml : metL L f2 f3 lft ≤ total L := by rw [← keysL_len]; exact List.countP_le_length
            clear hrg hlf hkz
            go_wp2_with (at_next; refine wpList_next_ranges_ii _ rfl _ rfl 3 3 .i64 .i64 law_int Try.underlying3 Try.underlying3 q0 rb k _ _ _ rfl HRG.out ?_ ?_)
            · intro hc0 hl0
              have HL0 := Lib.hid hl0
              clear hl0 hc0
              have hend : metL L f2 f3 lft = total L - total (fun c => left f2 f3 (L c)) := metL_end HL0.out
              rw [hend]
              clear hend hml
              have HP2 := Lib.hid (HPA.out.still HKZ.out)
              go_wp2_with fail
              refine (list_drop HP2.out.lst f2 f3 (by omega)).mono ?_
              rintro e w2 ⟨rfl, ⟨V', hl2, hf2'⟩, hk2⟩
              have hf2 : ∀ g ∈ lblocks b V', g ∈ lblocks b V ∨ wr.heap.size ≤ g := fun g hg => .inl (hf2' g hg)
              obtain ⟨m2, ap2, k02⟩ := HP2.out.listed hl2 hk2 hf2
              have hact2 := hk2.get (HKZ.out.get HACT.out (by simp)) (fun hm => by have := HLB.out _ hm; omega)
              have HL2 := Lib.hid hl2; have HM2 := Lib.hid m2; have HAP2 := Lib.hid ap2; have HK02 := Lib.hid k02
              have ca2 := cell_at hact2
              have HACT2 := Lib.hid hact2
              clear hl2 hk2 hf2 hf2' m2 ap2 k02 hact2 caz ca hact
              obtain ⟨D2, hown, hhas, hat, honce, hwf⟩ := HM2.out
              have HOWN2 := Lib.hid hown; have HHAS2 := Lib.hid hhas; have HAT2 := Lib.hid hat
              clear hown hhas hat honce hwf
              generalize total L - total (fun c => left f2 f3 (L c)) = df at *
              go_wp2_with (at_range; refine wpList_range_own _ rfl _ 106 rfl 3 3 law_int Try.underlying106 _ q0 k D2 rfl HOWN2.out ?_; intro wd hrg0 hg0 hs0; have HRG2 := Lib.hid hrg0; have HG2 := Lib.hid hg0; have HS2 := Lib.hid hs0; clear hrg0 hg0 hs0)
              go_frame
              generalize hrd : w2.heap.size = rd at *
              have HRD := Lib.hid hrd
              clear hrd
              go_loopg [] (Maps.size D2) (fun j wy => ∃ (lft : Lit → Bool) (Dx : DataW Unit), wy.ranges Try.prog 3 (plainElem Try.prog 3) q0 rd k Dx lft j ∧ (∀ y, (Lit.int .i64 y).wf = true → Maps.has Dx (.int .i64 y) = (Maps.has D2 (.int .i64 y) && !(btw f2 f3 y && !lft (.int .i64 y)))) ∧ (∀ y z, (Lit.int .i64 y).wf = true → Maps.has Dx (.int .i64 y) = true → Dx.atKey (.int .i64 y) z = D2.atKey (.int .i64 y) z) ∧ Keep [q0] w2 wy)
              case atStart =>
                refine ⟨Maps.has D2, D2, HRG2.out, fun y hy => by cases Maps.has D2 (.int .i64 y) <;> simp, fun _ _ _ _ => rfl, (Keep.refl _ _).grown HG2.out (by simp)⟩
              case round =>
                obtain ⟨lf2, Dx, hrg, hh, ha, hky⟩ := hrel
                have HRGY := Lib.hid hrg; have HH := Lib.hid hh; have HAA := Lib.hid ha; have HKY := Lib.hid hky
                have cay := cell_at (hky.get HACT2.out (by simp; omega))
                clear hrg hh ha hky
                go_wp2_with (at_next; refine wpList_next_ranges_ii _ rfl _ rfl 3 3 .i64 .i64 law_int Try.underlying3 Try.underlying3 q0 rd k _ _ _ rfl HRGY.out ?_ ?_)
                · intro hc0 hl0
                  have HL3 := Lib.hid hl0
                  clear hl0 hc0
                  go_wp2_with fail
                  go_meet
                  case rel =>
                    rw [HACTL.out]
                    refine ⟨_, LM.made HL2.out HAP2.out HK02.out HPA.out.above HKY.out ?_⟩
                    have hm := MapI.sub (D := D2) HRGY.out.owns HHAS2.out HAT2.out HON.out HWF.out (HON.out.left f2 f3) (fun y => !btw f2 f3 y) (fun c hc y => by simp [left]) (fun y hy => by rw [HH.out y hy, HL3.out]; simp) (fun y z hy hh => HAA.out y z hy hh)
                    exact hm.mono (by omega)
                · intro y c wy1 cnt1 hwx hwc hlx hat hrg1 hlt hg1 hs1 hen
                  have hk1 : Keep [q0] w2 wy1 := Keep.grown HKY.out hg1 (fun g hg => .inl (by cases hg; have := HRD.out; omega))
                  have cay1 := cell_at (hk1.get HACT2.out (by simp; omega))
                  have HRG1 := Lib.hid hrg1; have HK1 := Lib.hid hk1; have HLX := Lib.hid hlx; have HWX := Lib.hid hwx
                  clear hrg1 hk1 hg1 hs1 hat hwc hlx cay hwx
                  by_cases b1 : f2 ≤ y
                  · by_cases b2 : y < f3
                    · have hbt : Hid (btw f2 f3 y = true) := by simp [Hid, btw, b1, b2]
                      go_wp2_with (at_delete; refine wpList_delete_ranges _ rfl _ _ 106 3 rfl 3 law_int Try.underlying106 _ q0 rd k _ _ _ rfl HRG1.out _ _ rfl (keyOf_int_mk Try.underlying3 HWX.out) ?_; intro wy2 cnt2 hrg2 hle hturn; have HRG2' := Lib.hid hrg2; have HTU := Lib.hid hturn; clear hrg2 hturn; go_frame)
                      go_roundg cnt2
                      case measure => omega
                      case rel =>
                        have hr := HRG2'.out
                        rw [strike_twice] at hr
                        refine ⟨_, _, hr, fun z hz => ?_, fun z v hz hh => ?_, Keep.grown HK1.out HTU.out.grown (fun g hg => .inr (by cases hg; simp))⟩
                        · by_cases e : z = y
                          · subst e
                            rw [has_del_same, hbt.out, WideAt.sameKey_self (by simp [WideAt.IsKeyLit])]
                            simp
                          · rw [has_del_other (by simpa using e), HH.out z hz, sameKey_ne (by simpa using e)]
                            simp
                        · by_cases e : z = y
                          · subst e; rw [has_del_same] at hh; cases hh
                          · rw [has_del_other (by simpa using e)] at hh
                            rw [atKey_del_other (by simpa using e)]
                            exact HAA.out z v hz hh
                    · have hbt : Hid (btw f2 f3 y = false) := by simp [Hid, btw, b1, b2]
                      go_wp2_with fail
                      go_roundg cnt1
                      case measure => omega
                      case rel =>
                        refine ⟨_, _, HRG1.out, fun z hz => ?_, HAA.out, HK1.out⟩
                        rw [HH.out z hz]
                        by_cases e : z = y
                        · subst e; rw [hbt.out]; simp
                        · rw [sameKey_ne (by simpa using e)]; simp
                  · have hbt : Hid (btw f2 f3 y = false) := by simp [Hid, btw, b1]
                    go_wp2_with fail
                    go_roundg cnt1
                    case measure => omega
                    case rel =>
                      refine ⟨_, _, HRG1.out, fun z hz => ?_, HAA.out, HK1.out⟩
                      rw [HH.out z hz]
                      by_cases e : z = y
                      · subst e; rw [hbt.out]; simp
                      · rw [sameKey_ne (by simpa using e)]; simp
            · intro y c wz1 cnt1 hwx hwc hlx hat hrg1 hlt hg1 hs1 hen
              have hk1 : Keep [] wa wz1 := Keep.grown HKZ.out hg1 (fun g hg => .inl (by cases hg; have := HRB.out; omega))
              have caz1 := cell_at (hk1.get HACT.out (by simp))
              have hst := metL_step HON.out (lo := f2) (hi := f3) (HLF.out y hwx hlx) hlx
              have HRG1 := Lib.hid hrg1; have HK1 := Lib.hid hk1; have HST := Lib.hid hst
              have hlf' : Hid (∀ z, (Lit.int .i64 z).wf = true → (lft (.int .i64 z) && !(Lit.int .i64 z).sameKey (.int .i64 y)) = true → hasL L z = true) := fun z hz h => HLF.out z hz (by simp at h; exact h.1)
              clear hrg1 hk1 hg1 hs1 hat hwc hlx caz hwx hst
              by_cases b1 : f2 ≤ y
              · by_cases b2 : y < f3
                · have hbt : Hid (btw f2 f3 y = true) := by simp [Hid, btw, b1, b2]
                  go_wp2_with fail
                  go_roundg cnt1
                  case measure => omega
                  case rel => exact ⟨_, HRG1.out, by rw [HST.out, hbt.out]; go_num, hlf'.out, HK1.out⟩
                · have hbt : Hid (btw f2 f3 y = false) := by simp [Hid, btw, b1, b2]
                  go_wp2_with fail
                  go_roundg cnt1
                  case measure => omega
                  case rel => exact ⟨_, HRG1.out, by rw [HST.out, hbt.out]; go_num, hlf'.out, HK1.out⟩
              · have hbt : Hid (btw f2 f3 y = false) := by simp [Hid, btw, b1]
                go_wp2_with fail
                go_roundg cnt1
                case measure => omega
                case rel => exact ⟨_, HRG1.out, by rw [HST.out, hbt.out]; go_num, hlf'.out, HK1.out⟩
        · have t1 : (f0 == 1) = false := by simp [p1]
          have hL2 : actL f0 f1 f2 f3 L = pushL L f1 f2 := by simp [actL, p0, p1]
          have HACTL := Lib.hid hL2
          clear p0 p1 hL2
          go_wp2_with fail
          refine (list_push HPA.out.lst (by omega) f1 f2).mono ?_
          rintro e w2 ⟨rfl, V', hl2, hk2, hf2⟩
          obtain ⟨m2, ap2, k02⟩ := HPA.out.listed hl2 hk2 hf2
          have hact2 := hk2.get HACT.out (fun hm => by have := HLB.out _ hm; omega)
          have ca2 := cell_at hact2
          have HL2 := Lib.hid hl2; have HM2 := Lib.hid m2; have HAP2 := Lib.hid ap2; have HK02 := Lib.hid k02
          have lk := m2.look_ok WF2.out
          clear hl2 hk2 hf2 m2 ap2 k02 hact2 ca
          rcases pushE_cases (L := L) (c := f1) (x := f2) with ⟨hE, hh, kk, hc, hk4, hpl⟩ | ⟨hE, hh, hpl⟩ | ⟨hE, hpl⟩
          · rw [hE]
            rw [hh] at lk
            have HPL := Lib.hid hpl; have HH := Lib.hid hh
            obtain ⟨w3, hup, M3, K3⟩ := HM2.out.put hk4 WF2.out hh (by simp only [maxLen]; omega)
            rw [← hc] at hup
            have hwr : IntKind.i64.wrap (f1 + 1) = f1 + 1 := by rw [IntKind.wrap_i64]; omega
            have HM3 := Lib.hid M3; have HK3 := Lib.hid K3
            clear M3 K3 hpl hh hE hc
            generalize clsL L f2 = cl at lk
            go_wp2_with fail
            go_meet
            case rel =>
              rw [HACTL.out, HPL.out]
              have hl := HL2.out
              rw [HPL.out] at hl
              exact ⟨_, LM.made hl HAP2.out HK02.out HPA.out.above HK3.out HM3.out⟩
          · rw [hE]
            rw [hh] at lk
            have HPL := Lib.hid hpl
            clear hpl hh hE
            generalize clsL L f2 = cl at lk
            go_wp2_with fail
            go_meet
            case rel =>
              rw [HACTL.out, HPL.out]
              have hl := HL2.out
              rw [HPL.out] at hl
              exact ⟨_, LM.made hl HAP2.out HK02.out HPA.out.above (Keep.refl _ _) (HM2.out.mono (by omega))⟩
          · rw [hE]
            have HPL := Lib.hid hpl
            clear hpl hE
            generalize clsL L f2 = cl at lk
            generalize hasL L f2 = ha at lk
            go_wp2_with fail
            go_meet
            case rel =>
              rw [HACTL.out, HPL.out]
              have hl := HL2.out
              rw [HPL.out] at hl
              exact ⟨_, LM.made hl HAP2.out HK02.out HPA.out.above (Keep.refl _ _) (HM2.out.mono (by omega))⟩
      case rest =>
        obtain ⟨V2, hP2⟩ := hcut
        have htot2 := total_actL f0 f1 f2 f3 L
        generalize actL f0 f1 f2 f3 L = L2 at hP2 htot2
        have HP2 := Lib.hid hP2
        clear hP2
        obtain ⟨W2, rfl⟩ : ∃ W2, W2 = wc := ⟨wc, rfl⟩
        go_wp2_with fail
        go_loopg [15, 16] 4 (fun j s i wz => ∃ c : Nat, c + j = 4 ∧ i = .int .i64 c ∧ s = .int .i64 ((((List.range c).map fun c => (L2 c).length).sum : Nat)) ∧ Keep [] W2 wz)
        case atStart => exact ⟨0, by omega, rfl, rfl, Keep.refl _ _⟩
        case round =>
          obtain ⟨c, hc, rfl, rfl, hkz⟩ := hrel
          have HPz := Lib.hid (HP2.out.still hkz); have HKZ := Lib.hid hkz
          clear hkz
          by_cases hc4 : c < 4
          · have i0 : (c : Int) < 4 := by omega
            have i1 : (0 : Int) ≤ (c : Int) := by omega
            have hic : inC (c : Int) = true := by simp [inC]; omega
            have hal : allL L2 c = rev L2 c := by simp [allL, rev, hic]
            have hr4 := total_row L2 c hc4
            have hsl := sum_le L2 (c := c + 1) (by omega)
            have hss : ((List.range (c + 1)).map fun c => (L2 c).length).sum = ((List.range c).map fun c => (L2 c).length).sum + (L2 c).length := by simp [List.range_succ]
            have HSS := Lib.hid hss
            rw [hss] at hsl
            generalize hsm : ((List.range c).map fun c => (L2 c).length).sum = sm at *
            clear hss hsm
            go_wp2_with fail
            refine (list_all HPz.out.lst (by omega) c).mono ?_
            rintro e w4 ⟨v, rfl, O4, K4⟩
            rw [hal] at O4
            obtain ⟨av, cv, rfl, _, _⟩ := owns_val O4
            have HRD4 := Lib.hid (Rd.of_owns O4 (by simp [ints, Value.oneCell']))
            have HP4 := Lib.hid (HPz.out.still K4)
            have HK4 := Lib.hid (HKZ.out.trans K4)
            clear O4 K4 hal
            have hq2 : (rev L2 c).length = (L2 c).length := by simp [rev]
            have HQ := Lib.hid hq2
            rw [hq2]
            rw [hq2] at HRD4
            clear hq2
            generalize hq : (L2 c).length = q at *
            have HQ2 := Lib.hid hq
            clear hq
            have hwr : IntKind.i64.wrap ((sm : Int) + (q : Int)) = (sm : Int) + q := by rw [IntKind.wrap_i64]; omega
            go_wp2_with fail
            go_loopg [18] q (fun j i wy => ∃ p : Nat, p + j = q ∧ i = .int .i64 p ∧ Keep [] w4 wy)
            case atStart => exact ⟨0, by omega, rfl, Keep.refl _ _⟩
            case round =>
              obtain ⟨p, hp, rfl, hky⟩ := hrel
              have HP5 := Lib.hid (HP4.out.still hky); have HKY := Lib.hid hky
              have HRD5 := Lib.hid (HRD4.out.keep hky (fun _ _ => by simp))
              clear hky
              by_cases hpl : p < q
              · obtain ⟨b4, o4, rfl, hb4, hc4'⟩ := HRD5.out.some (by rw [ints_len, HQ.out]; omega)
                have hpx : p < (rev L2 c).length := by rw [HQ.out]; exact hpl
                have e4 := hc4' p (.int .i64 (rev L2 c)[p]) (by rw [ints_get]; simp [hpx])
                have hmem : (rev L2 c)[p] ∈ L2 c := by
                  rw [← List.mem_reverse]
                  exact List.getElem_mem hpx
                have j0 : (0 : Int) ≤ (p : Int) := by omega
                have j1 : (p : Int) < (q : Int) := by omega
                clear hc4'
                generalize (rev L2 c)[p] = y at e4 hmem
                have lk := HP5.out.map.look (HP5.out.map.wf hc4 hmem)
                rw [HP5.out.map.once.cls hc4 hmem] at lk
                have hhas : Hid (hasL L2 y = true) := by rw [Hid, hasL_keys]; exact decide_eq_true (mem_keys.2 ⟨c, hc4, hmem⟩)
                have hwc : IntKind.i64.wrap ((c : Int) + 1) = (c : Int) + 1 := by rw [IntKind.wrap_i64]; omega
                clear hmem
                go_wp2_with fail
                refine (list_has HP5.out.lst y).mono ?_
                rintro e w6 ⟨rfl, K6⟩
                rw [hhas.out]
                have HK6 := Lib.hid (HKY.out.trans K6)
                clear K6
                go_wp2_with fail
                go_roundg (q - (p + 1))
                case measure => omega
                case rel => exact ⟨p + 1, by omega, by go_num, HK6.out⟩
              · have hpe : p = q := by omega
                go_wp2_with fail
                go_roundg (4 - (c + 1))
                case measure => omega
                case rel => exact ⟨c + 1, by omega, by go_num, by rw [HSS.out]; go_num, HK4.out.trans HKY.out⟩
          · obtain rfl : c = 4 := by omega
            rw [sum_rows L2]
            go_wp2_with (at_len; refine wpList_len_I _ rfl _ rfl rfl HPz.out.map ?_)
            go_roundg (n - (k + 1))
            case measure => omega
            case rel => exact ⟨k + 1, L2, V2, by omega, by go_num, HPz.out, by omega⟩
    · have nx : ¬ (k : Int) < (n : Int) := by omega
      go_wp2_with fail
      refine (list_wakes _).mono ?_
      rintro e w4 ⟨rfl, K4⟩
      have HP4 := Lib.hid (HP.out.still K4)
      clear K4
      go_wp2_with fail
      exact hR.out _ _ ⟨rfl, HP4.out.keep.below (Nat.le_refl _) (by simp)⟩

set_option maxRecDepth 100000 in
theorem lawListOnce_walk {H : Type} {enc : TypeId × Value → H} {base : Nat} (W : World) {v0 : Value} {d0 : DataW H} {p0 : List MemPlace}
    (ok0 : Value.okWide Try.prog W .any base 88 v0) (h0 : DataW.Trod enc Try.prog W 0 (fun _ => true) true 88 v0 d0 p0) :
    Calls Try.prog 14 #[v0] W fun e w' => e = .returned (.bool true) ∧ Below W.heap.size W w' := by
  obtain ⟨ao, len, cap, rfl⟩ := okWide_slice Try.underlying88 ok0
  obtain ⟨n, F, hA⟩ := open_recs (ks := [.u8, .i64, .i64, .i64]) Try.underlying88 Try.underlying95 (by kernel_rfl) (by kernel_rfl) (by kernel_rfl) h0 rfl
  have hn : len = n := by obtain ⟨_, ⟨_, _, hv, _⟩, _⟩ := hA; cases hv; rfl
  subst hn
  exact list_once_law ao len cap F W hA
end Go.Proofs.Ytgdbccficcgbdaa
