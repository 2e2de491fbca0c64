/- The walker of ReapWhite. -/
import Derived.Test.YtnadiddaeolanaaReapTells
namespace Go.Proofs.Ytnadiddaeolanaa
open Go.RowKit
set_option linter.unusedVariables false
set_option linter.unusedSimpArgs false

theorem wrap64_incW (n : Nat) : wrap64 (wrap64 (n : Int) + 1) = wrap64 ((n + 1 : Nat) : Int) := by unfold wrap64; omega

set_option maxRecDepth 100000 in
set_option maxHeartbeats 8000000 in
theorem white_fn (N A : Nat) (hN : N ≤ 4096) (hA : A < N) (W V : List Int) (hWl : W.length = N) (hVl : V.length = N) (hW : Words W) (hV : Words V) (c : Int) (hc : 0 ≤ c ∧ c ≤ 1) (k : Nat) (e1 e2 e3 e4 : Int) (q : Nat)
    (hfree : tellOf (rdz W A) c = 1 → (takeH (rdz V A)).kind = 0) (m : Nat) (hm : A + m < N) (hkeep : tellOf (rdz W A) c ≠ 1 → rdz V A = rdz W A ∧ (takeH (rdz V A)).size = m ∧ ∀ j : Nat, 1 ≤ j → j ≤ m → rdz V ((A + j : Nat) : Int) = rdz W ((A + j : Nat) : Int))
    (pw pk pc pn pm b g : Nat) (hd : (pk ≠ pn ∧ pk ≠ pw ∧ pk ≠ pc ∧ pk ≠ pm ∧ pn ≠ pw ∧ pn ≠ pc ∧ pn ≠ pm) ∧ (b ≠ pw ∧ b ≠ pk ∧ b ≠ pc ∧ b ≠ pn ∧ b ≠ pm) ∧ (g ≠ pw ∧ g ≠ pk ∧ g ≠ pc ∧ g ≠ pn ∧ g ≠ pm)) (gw : Nat) (hgw : gw ≠ b ∧ gw ≠ g ∧ gw ≠ pk ∧ gw ≠ pn) (w : World) (hAr : ∃ t la, Arn w b g V t la)
    (h1 : w.heap[pw]? = some (.cells #[.slice (some ⟨gw, 0, none⟩) N N] 28 (0, 0))) (h2 : w.heap[pk]? = some (.cells #[.bool true] 4 (0, 0))) (h3 : w.heap[pc]? = some (.cells #[.int .u8 c] 5 (0, 0)))
    (h4 : w.heap[pn]? = some (.cells #[.int .i64 (wrap64 q)] 3 (0, 0))) (h5 : w.heap[pm]? = some (.cells #[.pointer (some ⟨b, 0, none⟩)] 25 (0, 0))) (h6 : w.heap[gw]? = some (.cells (cellsOf .u64 W) 27 (0, 0))) :
    Calls Try.prog 71 #[.int .i64 A, .int .i64 k, .agg #[.int .u8 e1, .int .u8 e2, .int .u8 e3, .int .u8 e4], .int .u64 (rdz V A), .pointer (some ⟨pw, 0, none⟩), .pointer (some ⟨pk, 0, none⟩), .pointer (some ⟨pc, 0, none⟩), .pointer (some ⟨pn, 0, none⟩), .pointer (some ⟨pm, 0, none⟩)] w fun x w' =>
      x = .returned (.tuple #[]) ∧ w'.heap[pk]? = some (.cells #[.bool true] 4 (0, 0)) ∧ w'.heap[pn]? = some (.cells #[.int .i64 (wrap64 ((q + if tellOf (rdz W A) c = 1 then 1 else 0 : Nat) : Int))] 3 (0, 0)) ∧ (∃ t la, Arn w' b g V t la) ∧ Keep [b, g, pk, pn] w w' := by
  refine calls_abs fun R hR => ?_
  obtain ⟨⟨d1, d2, d3, d4, d5, d6, d7⟩, ⟨e1', e2', e3', e4', e5'⟩, ⟨g1', g2', g3', g4', g5'⟩⟩ := hd
  obtain ⟨y1, y2, y3, y4⟩ := hgw
  have npk2 : pk ∉ [b, g] := by simp only [List.mem_cons, List.not_mem_nil, or_false, not_or]; exact ⟨e2'.symm, g2'.symm⟩
  have npw2 : pw ∉ [b, g] := by simp only [List.mem_cons, List.not_mem_nil, or_false, not_or]; exact ⟨e1'.symm, g1'.symm⟩
  have npm2 : pm ∉ [b, g] := by simp only [List.mem_cons, List.not_mem_nil, or_false, not_or]; exact ⟨e5'.symm, g5'.symm⟩
  have ngw2 : gw ∉ [b, g] := by simp only [List.mem_cons, List.not_mem_nil, or_false, not_or]; exact ⟨y1, y2⟩
  have npw3 : pw ∉ [b, g, pk] := by simp only [List.mem_cons, List.not_mem_nil, or_false, not_or]; exact ⟨e1'.symm, g1'.symm, d2.symm⟩
  have npm3 : pm ∉ [b, g, pk] := by simp only [List.mem_cons, List.not_mem_nil, or_false, not_or]; exact ⟨e5'.symm, g5'.symm, d4.symm⟩
  have ngw3 : gw ∉ [b, g, pk] := by simp only [List.mem_cons, List.not_mem_nil, or_false, not_or]; exact ⟨y1, y2, y3⟩
  have npn3 : pn ∉ [b, g, pk] := by simp only [List.mem_cons, List.not_mem_nil, or_false, not_or]; exact ⟨e4'.symm, g4'.symm, d1.symm⟩
  have nb1 : b ∉ [pk] ∧ g ∉ [pk] := by simp only [List.mem_cons, List.not_mem_nil, or_false]; exact ⟨e2', g2'⟩
  have nb2 : b ∉ [pk, pn] ∧ g ∉ [pk, pn] := by simp only [List.mem_cons, List.not_mem_nil, or_false, not_or]; exact ⟨⟨e2', e4'⟩, g2', g4'⟩
  have hkn : pk ≠ pn := d1
  have NS := Lib.hid (And.intro npk2 (And.intro npw2 (And.intro npm2 (And.intro ngw2 (And.intro npw3 (And.intro npm3 (And.intro ngw3 (And.intro npn3 (And.intro nb1 nb2)))))))))
  clear d2 d3 d4 d5 d6 d7 e1' e2' e3' e4' e5' g1' g2' g3' g4' g5' y1 y2 y3 y4 d1 npk2 npw2 npm2 ngw2 npw3 npm3 ngw3 npn3 nb1 nb2
  have mixed : Try.prog.follows .mixedOrders = true := by kernel_rfl
  have c1 := cell_at h1; have c2 := cell_at h2; have c3 := cell_at h3; have c4 := cell_at h4; have c5 := cell_at h5
  have l1 := lt_of_block h1; have l2 := lt_of_block h2; have l3 := lt_of_block h3; have l4 := lt_of_block h4; have l5 := lt_of_block h5; have l6 := lt_of_block h6
  have f2 := frozen_at h2; have f4 := frozen_at h4
  have hAW : A < W.length := by omega
  have hcw := row_cell h6 hAW
  have hrw : rdz W (A : Int) = W[A] := rdz_nat hAW
  rw [← hrw] at hcw
  have htk := fun w => word_take (rdz V A) (hV A) w
  have htl := fun w => shade_tell (rdz W A) c (hW A) w
  obtain ⟨er, her⟩ : ∃ er : Int, er = if isHd (rdz V A) then 0 else 3 := ⟨_, rfl⟩
  rw [← her] at htk
  have a0 : (0 : Int) ≤ (A : Int) := by omega
  have a1 : (A : Int) < N := by omega
  have g1 : decide ((A : Int) < 0) = false := by simp
  have g2 : decide ((N : Int) ≤ (A : Int)) = false := by simp; omega
  generalize htt : tellOf (rdz W A) c = tt at *
  have HTT := Lib.hid htt
  generalize hxw : rdz W (A : Int) = xw at *
  generalize hxv : rdz V (A : Int) = xv at *
  have HXW := Lib.hid hxw; have HXV := Lib.hid hxv
  generalize takeH xv = d at *
  obtain ⟨dk, dc, dg, dm, dow, dr, ds⟩ := d
  unfold Hd.val at htk
  dsimp only at htk hfree hkeep
  have H2 := Lib.hid h2; have H4 := Lib.hid h4; have H6 := Lib.hid h6; have H1 := Lib.hid h1; have H5 := Lib.hid h5
  have HTK := Lib.hid htk; have HTL := Lib.hid htl; have HAR := Lib.hid hAr; have HKP := Lib.hid hkeep; have HFR := Lib.hid hfree; have HWL := Lib.hid hWl; have HVL := Lib.hid hVl
  have HCW := Lib.hid hcw; have HC1 := Lib.hid c1; have HC3 := Lib.hid c3
  clear h1 h2 h3 h4 h5 h6 htk htl hAr hkeep hfree her htt hxw hxv hrw hWl hVl hW hV hAW
  go_enter Try.func71, Try.ntmps71
  go_wp2_with fail
  refine (HTK.out _).mono ?_
  rintro e w2 ⟨rfl, K2⟩
  have hk2 : Keep [] w w2 := by refine Keep.trans ?_ K2; ((repeat (first | (with_reducible exact Keep.refl _ _) | (with_reducible refine Keep.drew ?_) | (with_reducible refine Keep.drewN ?_ _) | (with_reducible refine Keep.alloc ?_ _) | ((with_reducible refine Keep.setCell ?_ ?_ _); rotate_left; focus (first | (simp; done) | (simp; omega) | (left; dsimp only; omega))))); done)
  have HK2 := Lib.hid hk2
  clear hk2 K2 c1 c2 c3 c4 c5 hcw f2 f4
  go_upto_region 4 with (fail)
  obtain ⟨zh, hzh⟩ : ∃ y, y = w2.heap.size := ⟨_, rfl⟩
  simp only [← hzh]
  generalize hw3 : World.alloc _ _ = w3
  have bh : w3.heap[zh]? = some (.cells #[.int .u8 dk, .int .u8 dc, .bool dg, .bool dm, .int .u8 dow, .int .u8 dr, .int .u8 ds] 100 (0, 0)) := by rw [← hw3]; exact alloc_new _ _ _ hzh
  have K3 : Keep [] w w3 := by rw [← hw3]; ((repeat (first | (with_reducible exact HK2.out) | (with_reducible refine Keep.drew ?_) | (with_reducible refine Keep.drewN ?_ _) | (with_reducible refine Keep.alloc ?_ _) | ((with_reducible refine Keep.setCell ?_ ?_ _); rotate_left; focus (first | (simp; done) | (simp; omega) | (left; dsimp only; omega))))); done)
  have D0 : Hid (w3.cell? ⟨pw, 0, none⟩ = some (.slice (some ⟨gw, 0, none⟩) N N)) := K3.cell (HC1.out 0) (by simp)
  have D1 : Hid (w3.cell? ⟨gw, A, none⟩ = some (.int .u64 xw)) := K3.cell HCW.out (by simp)
  have D2 : Hid (w3.cell? ⟨pc, 0, none⟩ = some (.int .u8 c)) := K3.cell (HC3.out 0) (by simp)
  have hlz : pw < zh ∧ pk < zh ∧ pc < zh ∧ pn < zh ∧ pm < zh ∧ gw < zh ∧ b < zh ∧ g < zh := by have h1 := arn_lt HAR.out; have h2 := HK2.out.size; omega
  have HBH := Lib.hid bh; have HK3 := Lib.hid K3
  clear hw3 bh K3 hzh l1 l2 l3 l4 l5 l6
  first
  | (go_region_held3 (fun w' => w'.cell? ⟨pw, 0, none⟩ = some (.slice (some ⟨gw, 0, none⟩) N N) ∧ w'.cell? ⟨gw, A, none⟩ = some (.int .u64 xw) ∧ w'.cell? ⟨pc, 0, none⟩ = some (.int .u8 c))
      (first
        | (refine ⟨Keep.cell (S := []) (w := w3) ?_ D0.out (by simp), Keep.cell (S := []) (w := w3) ?_ D1.out (by simp), Keep.cell (S := []) (w := w3) ?_ D2.out (by simp)⟩; all_goals (((repeat (first | (with_reducible exact Keep.refl _ _) | (with_reducible refine Keep.drew ?_) | (with_reducible refine Keep.drewN ?_ _) | (with_reducible refine Keep.alloc ?_ _) | ((with_reducible refine Keep.setCell ?_ ?_ _); rotate_left; focus (first | (simp; done) | (simp; omega) | (left; dsimp only; omega))))); done)))
        | (refine ⟨Keep.cell (S := []) (w := w3) ?_ D0.out (by simp), Keep.cell (S := []) (w := w3) ?_ D1.out (by simp), Keep.cell (S := []) (w := w3) ?_ D2.out (by simp)⟩; all_goals (((repeat (first | (with_reducible exact HK4.out) | (with_reducible refine Keep.drew ?_) | (with_reducible refine Keep.drewN ?_ _) | (with_reducible refine Keep.alloc ?_ _) | ((with_reducible refine Keep.setCell ?_ ?_ _); rotate_left; focus (first | (simp; done) | (simp; omega) | (left; dsimp only; omega))))); done))))
      (first | (go_at_call 25; refine (HTL.out _).mono ?_; rintro e w4 ⟨rfl, K4⟩; have HK4 := Lib.hid (show Keep [] w3 w4 from by refine Keep.trans (a := w3) ?_ K4; ((repeat (first | (with_reducible exact Keep.refl _ _) | (with_reducible refine Keep.drew ?_) | (with_reducible refine Keep.drewN ?_ _) | (with_reducible refine Keep.alloc ?_ _) | ((with_reducible refine Keep.setCell ?_ ?_ _); rotate_left; focus (first | (simp; done) | (simp; omega) | (left; dsimp only; omega))))); done)); clear K4)))
  | fail
  have hk4 : Keep [] w w4 := HK3.out.trans HK4.out
  have b1 := hk4.get H1.out (by simp); have b2 := hk4.get H2.out (by simp); have b4 := hk4.get H4.out (by simp); have b5 := hk4.get H5.out (by simp); have b6 := hk4.get H6.out (by simp); have bh := HK4.out.get HBH.out (by simp)
  have c1 := cell_at b1; have c2 := cell_at b2; have c4 := cell_at b4; have c5 := cell_at b5; have ch := cell_at bh
  have f2 := frozen_at b2; have f4 := frozen_at b4; have l2 := lt_of_block b2; have l4 := lt_of_block b4
  have hcw := hk4.cell HCW.out (by simp)
  have HB1 := Lib.hid b1; have HB2 := Lib.hid b2; have HB4 := Lib.hid b4; have HB5 := Lib.hid b5; have HB6 := Lib.hid b6; have HBH4 := Lib.hid bh; have HKW := Lib.hid hk4
  clear hk4 b1 b2 b4 b5 b6 bh D0 D1 D2
  by_cases ht : tt = 1
  · subst ht
    have hdk := HFR.out rfl
    subst hdk
    rw [if_pos rfl] at hR
    have hwi := wrap64_incW q
    generalize wrap64 ((q + 1 : Nat) : Int) = q1 at *
    generalize wrap64 (q : Int) = q0 at *
    have c2' : ∀ v, (w4.setCell ⟨pn, 0, none⟩ v).cell? ⟨pk, 0, none⟩ = some (.bool true) := fun v => (World.cell?_setCell_other _ _ _ _ (by first | (simp; done) | (simp; omega))).trans (c2 0)
    have ch' : ∀ v, (w4.setCell ⟨pn, 0, none⟩ v).cell? ⟨zh, 0, none⟩ = some (.int .u8 0) := fun v => (World.cell?_setCell_other _ _ _ _ (by first | (simp; done) | (simp; omega))).trans (ch 0)
    have hn1 : ¬ pk = pn := hkn
    go_wp2_with fail
    refine bodyPost_end (v := .tuple #[]) ?_ rfl ?_
    · kernel_rfl
    have kx : Keep [pk, pn] w4 ((w4.setCell ⟨pn, 0, none⟩ (.int .i64 q1)).setCell ⟨pk, 0, none⟩ (.bool true)) := by ((repeat (first | (with_reducible exact Keep.refl _ _) | (with_reducible refine Keep.drew ?_) | (with_reducible refine Keep.drewN ?_ _) | (with_reducible refine Keep.alloc ?_ _) | ((with_reducible refine Keep.setCell ?_ ?_ _); rotate_left; focus (first | (simp; done) | (simp; omega) | (left; dsimp only; omega))))); done)
    refine hR.out _ _ ⟨rfl, ?_, ?_, ?_, ?_⟩
    · exact put_at (put_other (a := ⟨pn, 0, none⟩) HB2.out hkn _) 0 _
    · exact put_other (a := ⟨pk, 0, none⟩) (put_at HB4.out 0 _) (fun e => hkn e.symm) _
    · obtain ⟨t, la, h⟩ := HAR.out
      exact ⟨t, la, (h.keep HKW.out (by simp) (by simp)).keep kx NS.out.2.2.2.2.2.2.2.2.2.1 NS.out.2.2.2.2.2.2.2.2.2.2⟩
    · exact (HKW.out.mono (by simp)).trans (kx.mono (by simp))
  · have q1 : (tt == 1) = false := by simp [ht]
    obtain ⟨hxx, hds, hkj⟩ := HKP.out ht
    subst hxx hds
    rw [if_neg ht, Nat.add_zero] at hR
    have q2 : (xv == xv) = true := by simp
    have hmw : IntKind.i64.wrap (m : Int) = m := by rw [IntKind.wrap_i64]; omega
    have HKJ := Lib.hid hkj
    clear hkj ht
    go_wp2_with fail
    generalize hw5 : World.setCell _ _ _ = w5
    have K5 : Keep [pk] w4 w5 := by rw [← hw5]; ((repeat (first | (with_reducible exact Keep.refl _ _) | (with_reducible refine Keep.drew ?_) | (with_reducible refine Keep.drewN ?_ _) | (with_reducible refine Keep.alloc ?_ _) | ((with_reducible refine Keep.setCell ?_ ?_ _); rotate_left; focus (first | (simp; done) | (simp; omega) | (left; dsimp only; omega))))); done)
    have hok5 : w5.heap[pk]? = some (.cells #[.bool true] 4 (0, 0)) := by rw [← hw5]; exact put_at HB2.out 0 _
    have har5 : ∃ t la, Arn w5 b g V t la := by
      obtain ⟨t, la, h⟩ := HAR.out
      exact ⟨t, la, (h.keep HKW.out (by simp) (by simp)).keep K5 NS.out.2.2.2.2.2.2.2.2.1.1 NS.out.2.2.2.2.2.2.2.2.1.2⟩
    have HOK5 := Lib.hid hok5; have HAR5 := Lib.hid har5; have HK5 := Lib.hid K5
    clear hw5 K5 hok5 har5 c1 c2 c4 c5 ch f2 f4 l2 l4 hcw
    go_loopg [15] m (fun j v15 wr => ∃ p : Nat, p + j = m ∧ v15 = .int .i64 ((p : Int) + 1) ∧ wr.heap[pk]? = some (.cells #[.bool true] 4 (0, 0)) ∧ (∃ t la, Arn wr b g V t la) ∧ Keep [b, g, pk] w4 wr)
    case atStart => exact ⟨0, by omega, rfl, HOK5.out, HAR5.out, HK5.out.mono (by simp)⟩
    case round =>
      obtain ⟨p, hpj, rfl, hok, har, hk⟩ := hrel
      have bh := hk.get HBH4.out (by simp; omega)
      have ch := cell_at bh
      by_cases hpm : p < m
      · have j1 : (p : Int) + 1 ≤ m := by omega
        have j2 : IntKind.i64.wrap ((A : Int) + (p + 1)) = ((A + (p + 1) : Nat) : Int) := by rw [IntKind.wrap_i64]; omega
        have hjl : A + (p + 1) < W.length := by rw [HWL.out]; omega
        have hval := HKJ.out (p + 1) (by omega) (by omega)
        have hrw2 : rdz W ((A + (p + 1) : Nat) : Int) = W[A + (p + 1)] := rdz_nat hjl
        have b1 := hk.get HB1.out NS.out.2.2.2.2.1; have b5 := hk.get HB5.out NS.out.2.2.2.2.2.1; have b6 := hk.get HB6.out NS.out.2.2.2.2.2.2.1
        have hcw2 := row_cell b6 hjl
        rw [← hrw2, ← hval] at hcw2
        have j3 : ((A + (p + 1) : Nat) : Int) < N := by omega
        have j4 : (0 : Int) ≤ ((A + (p + 1) : Nat) : Int) := by omega
        have hrd := fun (w' : World) (t la : Int) (h : Arn w' b g V t la) => arena_read_any h ((A + (p + 1) : Nat) : Int)
        generalize rdz V ((A + (p + 1) : Nat) : Int) = y at *
        generalize A + (p + 1) = Ap at *
        have D0 : Hid (wr.cell? ⟨pk, 0, none⟩ = some (.bool true)) := by rw [Hid, cell_at hok]; rfl
        have D1 : Hid (wr.cell? ⟨pw, 0, none⟩ = some (.slice (some ⟨gw, 0, none⟩) N N)) := by rw [Hid, cell_at b1]; rfl
        have D2 : Hid (wr.cell? ⟨pm, 0, none⟩ = some (.pointer (some ⟨b, 0, none⟩))) := by rw [Hid, cell_at b5]; rfl
        have D3 : Hid (wr.cell? ⟨gw, Ap, none⟩ = some (.int .u64 y)) := hcw2
        have qy : (y == y) = true := by simp
        have fok := frozen_at hok; have lok := lt_of_block hok
        have HOKR := Lib.hid hok; have HARR := Lib.hid har; have HKR := Lib.hid hk; have HRD := Lib.hid hrd
        clear hok har hk hrd hval hrw2 b1 b5 b6 hcw2 hjl bh
        obtain ⟨tr, lar, har⟩ := HARR.out
        have HARX := Lib.hid har
        clear har
        go_wp2_with fail
        (go_region_held3 (fun w' => w'.cell? ⟨pk, 0, none⟩ = some (.bool true) ∧ w'.cell? ⟨pw, 0, none⟩ = some (.slice (some ⟨gw, 0, none⟩) N N) ∧ w'.cell? ⟨pm, 0, none⟩ = some (.pointer (some ⟨b, 0, none⟩)) ∧ w'.cell? ⟨gw, Ap, none⟩ = some (.int .u64 y))
            (first
              | (refine ⟨Keep.cell (S := []) (w := wr) ?_ D0.out (by simp), Keep.cell (S := []) (w := wr) ?_ D1.out (by simp), Keep.cell (S := []) (w := wr) ?_ D2.out (by simp), Keep.cell (S := []) (w := wr) ?_ D3.out (by simp)⟩; all_goals (((repeat (first | (with_reducible exact Keep.refl _ _) | (with_reducible refine Keep.drew ?_) | (with_reducible refine Keep.drewN ?_ _) | (with_reducible refine Keep.alloc ?_ _) | ((with_reducible refine Keep.setCell ?_ ?_ _); rotate_left; focus (first | (simp; done) | (simp; omega) | (left; dsimp only; omega))))); done)))
              | (refine ⟨Keep.cell (S := [b, g]) (w := wr) ?_ D0.out NS.out.1, Keep.cell (S := [b, g]) (w := wr) ?_ D1.out NS.out.2.1, Keep.cell (S := [b, g]) (w := wr) ?_ D2.out NS.out.2.2.1, Keep.cell (S := [b, g]) (w := wr) ?_ D3.out NS.out.2.2.2.1⟩; all_goals (((repeat (first | (with_reducible exact HK6.out) | (with_reducible refine Keep.drew ?_) | (with_reducible refine Keep.drewN ?_ _) | (with_reducible refine Keep.alloc ?_ _) | ((with_reducible refine Keep.setCell ?_ ?_ _); rotate_left; focus (first | (simp; done) | (simp; omega) | (left; dsimp only; omega))))); done)))
              | (refine ⟨?_, Keep.cell (S := [b, g, pk]) (w := wr) ?_ D1.out NS.out.2.2.2.2.1, Keep.cell (S := [b, g, pk]) (w := wr) ?_ D2.out NS.out.2.2.2.2.2.1, Keep.cell (S := [b, g, pk]) (w := wr) ?_ D3.out NS.out.2.2.2.2.2.2.1⟩; (exact (cell_at (put_at b6' 0 _) 0)); all_goals (((repeat (first | (with_reducible exact HK6.out.mono (by simp)) | (with_reducible refine Keep.drew ?_) | (with_reducible refine Keep.drewN ?_ _) | (with_reducible refine Keep.alloc ?_ _) | ((with_reducible refine Keep.setCell ?_ ?_ _); rotate_left; focus (first | (simp; done) | (simp; omega) | (left; dsimp only; omega))))); done))))
            (first | (go_at_call 30; refine (HRD.out _ _ _ (HARX.out.keep (S := []) (by ((repeat (first | (with_reducible exact Keep.refl _ _) | (with_reducible refine Keep.drew ?_) | (with_reducible refine Keep.drewN ?_ _) | (with_reducible refine Keep.alloc ?_ _) | ((with_reducible refine Keep.setCell ?_ ?_ _); rotate_left; focus (first | (simp; done) | (simp; omega) | (left; dsimp only; omega))))); done)) (by simp) (by simp))).mono ?_; rintro e w6 ⟨rfl, A6, K6⟩; have HA6 := Lib.hid A6; have HK6 := Lib.hid (show Keep [b, g] wr w6 from by refine Keep.trans (a := wr) ?_ K6; ((repeat (first | (with_reducible exact Keep.refl _ _) | (with_reducible refine Keep.drew ?_) | (with_reducible refine Keep.drewN ?_ _) | (with_reducible refine Keep.alloc ?_ _) | ((with_reducible refine Keep.setCell ?_ ?_ _); rotate_left; focus (first | (simp; done) | (simp; omega) | (left; dsimp only; omega))))); done)); have b6' := HK6.out.get HOKR.out NS.out.1; have f6 := frozen_at b6'; have l6 := lt_of_block b6'; clear A6 K6)))
        all_goals (
          generalize hw7 : World.setCell _ _ _ = w7
          have K7 : Keep [pk] w6 w7 := by rw [← hw7]; ((repeat (first | (with_reducible exact Keep.refl _ _) | (with_reducible refine Keep.drew ?_) | (with_reducible refine Keep.drewN ?_ _) | (with_reducible refine Keep.alloc ?_ _) | ((with_reducible refine Keep.setCell ?_ ?_ _); rotate_left; focus (first | (simp; done) | (simp; omega) | (left; dsimp only; omega))))); done)
          have hok7 : w7.heap[pk]? = some (.cells #[.bool true] 4 (0, 0)) := by rw [← hw7]; exact put_at (HK6.out.get HOKR.out NS.out.1) 0 _
          have har7 : ∃ t la, Arn w7 b g V t la := ⟨_, _, HA6.out.keep K7 NS.out.2.2.2.2.2.2.2.2.1.1 NS.out.2.2.2.2.2.2.2.2.1.2⟩
          have hk7 : Keep [b, g, pk] w4 w7 := (HKR.out.trans (HK6.out.mono (by simp))).trans (K7.mono (by simp))
          have HOK7 := Lib.hid hok7; have HAR7 := Lib.hid har7; have HK7 := Lib.hid hk7
          clear hw7 K7 hok7 har7 hk7 b6' f6 l6
          go_wp2_with fail
          go_roundg (m - (p + 1))
          case measure => omega
          case rel => exact ⟨p + 1, by omega, by go_num, HOK7.out, HAR7.out, HK7.out⟩)
      · obtain rfl : p = m := by omega
        have j1 : ¬ (p : Int) + 1 ≤ p := by omega
        go_wp2_with fail
        refine bodyPost_end (v := .tuple #[]) ?_ rfl ?_
        · kernel_rfl
        refine hR.out _ _ ⟨rfl, hok, hk.get HB4.out NS.out.2.2.2.2.2.2.2.1, har, (HKW.out.mono (by simp)).trans (hk.mono (by simp))⟩
end Go.Proofs.Ytnadiddaeolanaa
