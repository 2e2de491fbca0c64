/- The walk of ListPlays. -/
import Derived.Test.YtgdbccficcgbdaaListRev
import Derived.Deep.DeepCutAuto
import Derived.Deep.CutBlock
import Derived.Deep.RegionHeld3
import Derived.Deep.DrawnRows
namespace Go.Proofs.Ytgdbccficcgbdaa
open Go.RowKit Go.ChangeShapes Go.WideShapes
attribute [local go_sem ↓] Go.wp_at_zero Go.wp_at_succ
set_option linter.unusedVariables false
set_option linter.unusedSimpArgs false

set_option maxRecDepth 100000 in
set_option maxHeartbeats 4000000 in
theorem list_plays_law (ao : Option Addr) (n cap : Nat) (F : Nat → Nat → Int) (w : World)
    (hA : Recs w (.slice ao n cap) n [.u8, .i64, .i64, .i64] F) : Calls Try.prog 12 #[.slice ao n cap] w fun e w' => e = .returned (.bool true) ∧ Below w.heap.size w w' := by
  refine calls_abs fun R hR => ?_
  have HA := Lib.hid hA
  have hnm : n ≤ 9223372036854775807 := by
    obtain ⟨cs, hr, _⟩ := hA
    obtain ⟨_, _, hv, h1, h2, _⟩ := hr
    simp only [maxLen] at h2
    omega
  clear hA
  by_cases hbig : 150 < n
  · have hb1 : (150 : Int) < (n : Int) := by omega
    go_enter Try.func12, Try.ntmps12
    go_wp2_with (go_at_call 53; refine (list_wakes _).mono ?_; rintro e w' ⟨rfl, hk⟩)
    exact hR.out _ _ ⟨rfl, hk.below (Nat.le_refl _) (by simp)⟩
  have hb1 : ¬ (150 : Int) < (n : Int) := by omega
  go_enter Try.func12, Try.ntmps12
  go_wp2_with fail
  refine (list_new w).mono ?_
  rintro e w1 ⟨rfl, N1, K1⟩
  obtain ⟨b, hb⟩ : ∃ b, b = w.heap.size := ⟨_, rfl⟩
  have HB := Lib.hid hb
  simp only [← hb] at N1 ⊢
  have hs1 := K1.size
  have HN1 := Lib.hid N1; have HK1 := Lib.hid K1
  have hl1 := lt_of_block N1.head
  clear N1 K1 hb
  go_wp2_with fail
  go_loopg [5] n (fun j i wr => ∃ (k : Nat) (L : Nat → List Int) (V U : Nat → Value), k + j = n ∧ i = .int .i64 k ∧ LP w b w1.heap.size wr L V U ∧ total L ≤ k)
  case atStart =>
    refine ⟨0, fun _ => [], fun _ => .slice none 0 0, fun _ => .slice none 0 0, by omega, rfl, ⟨HN1.out.keep (S := []) (by repeat (first | (with_reducible exact Keep.refl _ _) | (with_reducible refine Keep.drew ?_) | (with_reducible refine Keep.drewN ?_ _) | (with_reducible refine Keep.alloc ?_ _) | (with_reducible refine Keep.setCell ?_ (by first | (simp; done) | (simp; omega) | (left; dsimp only; omega)) _))) (fun _ _ => by simp), alloc_new _ _ _ rfl, fun c hc => by simp [rev, ints]; exact Rd.nil _, fun c g hc hg => by simp [Value.ownBlock] at hg, ?_, fun c g hc hg => by simp [Value.ownBlock] at hg, HK1.out.trans (by repeat (first | (with_reducible exact Keep.refl _ _) | (with_reducible refine Keep.drew ?_) | (with_reducible refine Keep.drewN ?_ _) | (with_reducible refine Keep.alloc ?_ _) | (with_reducible refine Keep.setCell ?_ (by first | (simp; done) | (simp; omega) | (left; dsimp only; omega)) _))), by have := HB.out; omega⟩, by simp [total]⟩
    intro hm
    have := (HN1.out.blocks _ hm).2
    omega
  case round =>
    obtain ⟨k, L, V, U, hkj, rfl, hP, htot⟩ := hrel
    have HP := Lib.hid hP; clear hP
    by_cases hkn : k < n
    · obtain ⟨ab, aof, rfl, hab, hcells⟩ := HA.out.cell hkn (by simp)
      have d0 := HP.out.keep.cell (hcells 0 .u8 rfl).1 (by simp)
      have d1 := HP.out.keep.cell (hcells 1 .i64 rfl).1 (by simp)
      have d2 := HP.out.keep.cell (hcells 2 .i64 rfl).1 (by simp)
      have d3 := HP.out.keep.cell (hcells 3 .i64 rfl).1 (by simp)
      simp only [Nat.add_zero, List.length_cons, List.length_nil, ← Nat.add_assoc] at d0 d1 d2 d3
      clear hcells
      have lq := lt_of_block HP.out.box
      have lb := lt_of_block HP.out.lst.head
      have hlbs : ∀ g ∈ lblocks b V, g < wr.heap.size := fun g hg => (HP.out.lst.blocks g hg).2
      go_upto_block 2 with (fail)
      obtain ⟨x, hx⟩ : ∃ x, x = wr.heap.size := ⟨_, rfl⟩
      have HX := Lib.hid hx
      simp only [← hx] at lq lb hlbs ⊢
      generalize hwa : World.alloc wr _ = wa
      have hact : wa.heap[x]? = some (.cells #[.int .u8 (F k 0), .int .i64 (F k 1), .int .i64 (F k 2), .int .i64 (F k 3)] 95 (0, 0)) := by rw [← hwa]; exact alloc_new _ _ _ hx
      have hPa : LP w b w1.heap.size wa L V U := HP.out.still (by rw [← hwa]; exact (by repeat (first | (with_reducible exact Keep.refl _ _) | (with_reducible refine Keep.drew ?_) | (with_reducible refine Keep.drewN ?_ _) | (with_reducible refine Keep.alloc ?_ _) | (with_reducible refine Keep.setCell ?_ (by first | (simp; done) | (simp; omega) | (left; dsimp only; omega)) _))))
      have hsz : x < wa.heap.size := lt_of_block hact
      clear hwa hx d0 d1 d2 d3
      obtain ⟨a0, q0, a1, q1, a2, q2, a3, q3, hu0, hu1, hu2, hu3⟩ := hPa.rl.shapes2
      have hval : rlVal U = .agg #[.slice a0 (rev L 0).length q0, .slice a1 (rev L 1).length q1, .slice a2 (rev L 2).length q2, .slice a3 (rev L 3).length q3] := by rw [rlVal, hu0, hu1, hu2, hu3]
      have hlit : (#[U 0, U 1, U 2, U 3] : Array Value) = #[.slice a0 (rev L 0).length q0, .slice a1 (rev L 1).length q1, .slice a2 (rev L 2).length q2, .slice a3 (rev L 3).length q3] := by rw [hu0, hu1, hu2, hu3]
      have HVAL := Lib.hid hval; have HLIT := Lib.hid hlit; have HPA := Lib.hid hPa; have HACT := Lib.hid hact
      clear hval hlit hPa hu0 hu1 hu2 hu3
      go_cut [] (fun wx => (∃ V' U', LP w b w1.heap.size wx (actL (F k 0) (F k 1) (F k 2) (F k 3) L) V' U') ∧ wx.heap[x]? = some (.cells #[.int .u8 (F k 0), .int .i64 (F k 1), .int .i64 (F k 2), .int .i64 (F k 3)] 95 (0, 0)))
      case first =>
        have ca := cell_at hact
        by_cases q0 : F k 0 = 0
        · have t0 : (F k 0 == 0) = true := by simp [q0]
          have hL2 : actL (F k 0) (F k 1) (F k 2) (F k 3) L = popL L (F k 1) := by simp [actL, q0]
          have HACTL := Lib.hid hL2
          clear q0
          go_wp2_with fail
          refine (list_pop HPA.out.lst (by omega) (F k 1)).mono ?_
          rintro e w2 ⟨rfl, V', hl2, hk2, hf2⟩
          obtain ⟨hq2, rl2, lo2, ap2, ap22, k02⟩ := HPA.out.listed hl2 hk2 hf2
          have hact2 := hk2.get HACT.out (fun hm => by have := hlbs _ hm; omega)
          rw [HLIT.out] at hq2
          have c2 := cell_at hq2
          have ca2 := cell_at hact2
          have lq2 := lt_of_block hq2
          have lx2 := lt_of_block hact2
          have HQ2 := Lib.hid hq2; have HL2 := Lib.hid hl2; have HLO2 := Lib.hid lo2; have HAP2 := Lib.hid ap2; have HAP22 := Lib.hid ap22; have HK02 := Lib.hid k02; have HACT2 := Lib.hid hact2; have HRL2 := Lib.hid rl2
          clear hl2 hk2 hf2 lo2 ap2 ap22 k02 hact2 rl2 hq2 ca hL2
          go_wp2_with fail
          have hcall := ref07_pop HRL2.out (by rw [rev_total]; omega) (F k 1)
          rw [HVAL.out] at hcall
          refine hcall.mono ?_
          rintro e w3 ⟨U', rfl, rl3, k3, fr3⟩
          rw [rev_popL] at rl3
          rw [rev_popX, rev_popE]
          obtain ⟨a0', q0', a1', q1', a2', q2', a3', q3', hu0, hu1, hu2, hu3⟩ := rl3.shapes2
          rw [rlVal, hu0, hu1, hu2, hu3]
          have HLIT' : Hid ((#[U' 0, U' 1, U' 2, U' 3] : Array Value) = _) := congrArg (fun a => a) (show (#[U' 0, U' 1, U' 2, U' 3] : Array Value) = #[.slice a0' _ q0', .slice a1' _ q1', .slice a2' _ q2', .slice a3' _ q3'] from by rw [hu0, hu1, hu2, hu3])
          have hq3 := k3.get HQ2.out (by simp)
          have hact3 := k3.get HACT2.out (by simp)
          have c3 := cell_at hq3
          have ca3 := cell_at hact3
          have fq3 := frozen_at hq3
          have lq3 := lt_of_block hq3
          have lx3 := lt_of_block hact3
          have n1 : ¬ w1.heap.size = w3.heap.size := by omega
          have n2 : ¬ w3.heap.size = w1.heap.size := by omega
          have HQ3 := Lib.hid hq3; have HACT3 := Lib.hid hact3; have HRL3 := Lib.hid rl3; have HK3 := Lib.hid k3; have HFR3 := Lib.hid fr3
          clear hu0 hu1 hu2 hu3 hq3 hact3 rl3 k3 fr3 c2 ca2 hcall
          go_wp2_with fail
          go_meet
          case rel =>
            rw [HACTL.out]
            have hq4 := HQ3.out
            refine ⟨⟨_, U', LP.made HL2.out HLO2.out HAP2.out HAP22.out HK02.out HPA.out.above lq2 HK3.out HRL3.out HFR3.out ?_ ?_⟩, ?_⟩
            · exact (by repeat (first | (with_reducible exact Keep.refl _ _) | (with_reducible refine Keep.drew ?_) | (with_reducible refine Keep.drewN ?_ _) | (with_reducible refine Keep.alloc ?_ _) | (with_reducible refine Keep.setCell ?_ (by first | (simp; done) | (simp; omega) | (left; dsimp only; omega)) _)))
            · rw [HLIT'.out]
              exact (by simp [World.alloc, World.setCell, World.drew, World.drewN, Array.getElem?_push, Array.getElem?_modify, hq4, n1, n2])
            · exact Keep.get (S := [w1.heap.size]) (w := w3) (by repeat (first | (with_reducible exact Keep.refl _ _) | (with_reducible refine Keep.drew ?_) | (with_reducible refine Keep.drewN ?_ _) | (with_reducible refine Keep.alloc ?_ _) | (with_reducible refine Keep.setCell ?_ (by first | (simp; done) | (simp; omega) | (left; dsimp only; omega)) _))) HACT3.out (by simp; omega)
        have t0 : (F k 0 == 0) = false := by simp [q0]
        by_cases q1 : F k 0 = 1
        · have t1 : (F k 0 == 1) = true := by simp [q1]
          have hL2 : actL (F k 0) (F k 1) (F k 2) (F k 3) L = (fun c => left (F k 2) (F k 3) (L c)) := by simp [actL, q1]
          have HACTL := Lib.hid hL2
          clear q1
          go_wp2_with fail
          refine (list_drop HPA.out.lst (F k 2) (F k 3) (by omega)).mono ?_
          rintro e w2 ⟨rfl, ⟨V', hl2, hf2'⟩, hk2⟩
          have hf2 : ∀ g ∈ lblocks b V', g ∈ lblocks b V ∨ wa.heap.size ≤ g := fun g hg => .inl (hf2' g hg)
          obtain ⟨hq2, rl2, lo2, ap2, ap22, k02⟩ := HPA.out.listed hl2 hk2 hf2
          have hact2 := hk2.get HACT.out (fun hm => by have := hlbs _ hm; omega)
          rw [HLIT.out] at hq2
          have c2 := cell_at hq2
          have ca2 := cell_at hact2
          have lq2 := lt_of_block hq2
          have lx2 := lt_of_block hact2
          have HQ2 := Lib.hid hq2; have HL2 := Lib.hid hl2; have HLO2 := Lib.hid lo2; have HAP2 := Lib.hid ap2; have HAP22 := Lib.hid ap22; have HK02 := Lib.hid k02; have HACT2 := Lib.hid hact2; have HRL2 := Lib.hid rl2
          clear hl2 hk2 hf2 lo2 ap2 ap22 k02 hact2 rl2 hq2 ca hL2
          go_wp2_with fail
          have hcall := ref07_drop HRL2.out HLO2.out (by rw [rev_total]; omega) (F k 2) (F k 3)
          rw [HVAL.out] at hcall
          refine hcall.mono ?_
          rintro e w3 ⟨U', rfl, rl3, k3, fr3⟩
          rw [rev_left] at rl3
          rw [rev_left, rev_total, rev_total]
          obtain ⟨a0', q0', a1', q1', a2', q2', a3', q3', hu0, hu1, hu2, hu3⟩ := rl3.shapes2
          rw [rlVal, hu0, hu1, hu2, hu3]
          have HLIT' : Hid ((#[U' 0, U' 1, U' 2, U' 3] : Array Value) = _) := congrArg (fun a => a) (show (#[U' 0, U' 1, U' 2, U' 3] : Array Value) = #[.slice a0' _ q0', .slice a1' _ q1', .slice a2' _ q2', .slice a3' _ q3'] from by rw [hu0, hu1, hu2, hu3])
          have hq3 := k3.get HQ2.out (by simp)
          have hact3 := k3.get HACT2.out (by simp)
          have c3 := cell_at hq3
          have ca3 := cell_at hact3
          have fq3 := frozen_at hq3
          have lq3 := lt_of_block hq3
          have lx3 := lt_of_block hact3
          have n1 : ¬ w1.heap.size = w3.heap.size := by omega
          have n2 : ¬ w3.heap.size = w1.heap.size := by omega
          have HQ3 := Lib.hid hq3; have HACT3 := Lib.hid hact3; have HRL3 := Lib.hid rl3; have HK3 := Lib.hid k3; have HFR3 := Lib.hid fr3
          clear hu0 hu1 hu2 hu3 hq3 hact3 rl3 k3 fr3 c2 ca2 hcall
          go_wp2_with fail
          go_meet
          case rel =>
            rw [HACTL.out]
            have hq4 := HQ3.out
            refine ⟨⟨_, U', LP.made HL2.out HLO2.out HAP2.out HAP22.out HK02.out HPA.out.above lq2 HK3.out HRL3.out HFR3.out ?_ ?_⟩, ?_⟩
            · exact (by repeat (first | (with_reducible exact Keep.refl _ _) | (with_reducible refine Keep.drew ?_) | (with_reducible refine Keep.drewN ?_ _) | (with_reducible refine Keep.alloc ?_ _) | (with_reducible refine Keep.setCell ?_ (by first | (simp; done) | (simp; omega) | (left; dsimp only; omega)) _)))
            · rw [HLIT'.out]
              exact (by simp [World.alloc, World.setCell, World.drew, World.drewN, Array.getElem?_push, Array.getElem?_modify, hq4, n1, n2])
            · exact Keep.get (S := [w1.heap.size]) (w := w3) (by repeat (first | (with_reducible exact Keep.refl _ _) | (with_reducible refine Keep.drew ?_) | (with_reducible refine Keep.drewN ?_ _) | (with_reducible refine Keep.alloc ?_ _) | (with_reducible refine Keep.setCell ?_ (by first | (simp; done) | (simp; omega) | (left; dsimp only; omega)) _))) HACT3.out (by simp; omega)
        · have t1 : (F k 0 == 1) = false := by simp [q1]
          have hL2 : actL (F k 0) (F k 1) (F k 2) (F k 3) L = pushL L (F k 1) (F k 2) := by simp [actL, q0, q1]
          have HACTL := Lib.hid hL2
          clear q0 q1
          go_wp2_with fail
          refine (list_push HPA.out.lst (by omega) (F k 1) (F k 2)).mono ?_
          rintro e w2 ⟨rfl, V', hl2, hk2, hf2⟩
          obtain ⟨hq2, rl2, lo2, ap2, ap22, k02⟩ := HPA.out.listed hl2 hk2 hf2
          have hact2 := hk2.get HACT.out (fun hm => by have := hlbs _ hm; omega)
          rw [HLIT.out] at hq2
          have c2 := cell_at hq2
          have ca2 := cell_at hact2
          have lq2 := lt_of_block hq2
          have lx2 := lt_of_block hact2
          have HQ2 := Lib.hid hq2; have HL2 := Lib.hid hl2; have HLO2 := Lib.hid lo2; have HAP2 := Lib.hid ap2; have HAP22 := Lib.hid ap22; have HK02 := Lib.hid k02; have HACT2 := Lib.hid hact2; have HRL2 := Lib.hid rl2
          clear hl2 hk2 hf2 lo2 ap2 ap22 k02 hact2 rl2 hq2 ca hL2
          go_wp2_with fail
          have hcall := ref07_push HRL2.out (by rw [rev_total]; omega) (F k 1) (F k 2)
          rw [HVAL.out] at hcall
          refine hcall.mono ?_
          rintro e w3 ⟨U', rfl, rl3, k3, fr3⟩
          rw [rev_pushL] at rl3
          rw [rev_pushE]
          obtain ⟨a0', q0', a1', q1', a2', q2', a3', q3', hu0, hu1, hu2, hu3⟩ := rl3.shapes2
          rw [rlVal, hu0, hu1, hu2, hu3]
          have HLIT' : Hid ((#[U' 0, U' 1, U' 2, U' 3] : Array Value) = _) := congrArg (fun a => a) (show (#[U' 0, U' 1, U' 2, U' 3] : Array Value) = #[.slice a0' _ q0', .slice a1' _ q1', .slice a2' _ q2', .slice a3' _ q3'] from by rw [hu0, hu1, hu2, hu3])
          have hq3 := k3.get HQ2.out (by simp)
          have hact3 := k3.get HACT2.out (by simp)
          have c3 := cell_at hq3
          have ca3 := cell_at hact3
          have fq3 := frozen_at hq3
          have lq3 := lt_of_block hq3
          have lx3 := lt_of_block hact3
          have n1 : ¬ w1.heap.size = w3.heap.size := by omega
          have n2 : ¬ w3.heap.size = w1.heap.size := by omega
          have HQ3 := Lib.hid hq3; have HACT3 := Lib.hid hact3; have HRL3 := Lib.hid rl3; have HK3 := Lib.hid k3; have HFR3 := Lib.hid fr3
          clear hu0 hu1 hu2 hu3 hq3 hact3 rl3 k3 fr3 c2 ca2 hcall
          go_wp2_with fail
          go_meet
          case rel =>
            rw [HACTL.out]
            have hq4 := HQ3.out
            refine ⟨⟨_, U', LP.made HL2.out HLO2.out HAP2.out HAP22.out HK02.out HPA.out.above lq2 HK3.out HRL3.out HFR3.out ?_ ?_⟩, ?_⟩
            · exact (by repeat (first | (with_reducible exact Keep.refl _ _) | (with_reducible refine Keep.drew ?_) | (with_reducible refine Keep.drewN ?_ _) | (with_reducible refine Keep.alloc ?_ _) | (with_reducible refine Keep.setCell ?_ (by first | (simp; done) | (simp; omega) | (left; dsimp only; omega)) _)))
            · rw [HLIT'.out]
              exact (by simp [World.alloc, World.setCell, World.drew, World.drewN, Array.getElem?_push, Array.getElem?_modify, hq4, n1, n2])
            · exact Keep.get (S := [w1.heap.size]) (w := w3) (by repeat (first | (with_reducible exact Keep.refl _ _) | (with_reducible refine Keep.drew ?_) | (with_reducible refine Keep.drewN ?_ _) | (with_reducible refine Keep.alloc ?_ _) | (with_reducible refine Keep.setCell ?_ (by first | (simp; done) | (simp; omega) | (left; dsimp only; omega)) _))) HACT3.out (by simp; omega)
      case rest =>
        obtain ⟨⟨V2, U2, hP2⟩, hact2⟩ := hcut
        have htot2 := total_actL (F k 0) (F k 1) (F k 2) (F k 3) L
        generalize actL (F k 0) (F k 1) (F k 2) (F k 3) L = L2 at hP2 htot2
        obtain ⟨W2, rfl⟩ : ∃ W2, W2 = wc := ⟨wc, rfl⟩
        have ca := cell_at hact2
        obtain ⟨e0, r0, e1, r1, e2, r2, e3, r3, hu0, hu1, hu2, hu3⟩ := hP2.rl.shapes2
        have hval2 : rlVal U2 = .agg #[.slice e0 (rev L2 0).length r0, .slice e1 (rev L2 1).length r1, .slice e2 (rev L2 2).length r2, .slice e3 (rev L2 3).length r3] := by rw [rlVal, hu0, hu1, hu2, hu3]
        have hq := hP2.box
        have HBX := Lib.hid hq
        rw [hu0, hu1, hu2, hu3] at hq
        have cq := cell_at hq
        have g0 : W2.cell? ⟨w1.heap.size, 0, none⟩ = some (.slice e0 (rev L2 0).length r0) := by rw [cq]; rfl
        have g1 : W2.cell? ⟨w1.heap.size, 1, none⟩ = some (.slice e1 (rev L2 1).length r1) := by rw [cq]; rfl
        have g2 : W2.cell? ⟨w1.heap.size, 2, none⟩ = some (.slice e2 (rev L2 2).length r2) := by rw [cq]; rfl
        have g3 : W2.cell? ⟨w1.heap.size, 3, none⟩ = some (.slice e3 (rev L2 3).length r3) := by rw [cq]; rfl
        have gx : W2.cell? ⟨x, 2, none⟩ = some (.int .i64 (F k 2)) := by rw [ca]; rfl
        have HVAL2 := Lib.hid hval2; have HP2 := Lib.hid hP2; have HACT2 := Lib.hid hact2
        clear hval2 hP2 hact2 hu0 hu1 hu2 hu3 hq cq ca
        go_upto_region 27 with (fail)
        go_cut [112] (fun r wx => r = .bool false ∧ Keep [] W2 wx)
        case first =>
          have G0 := Lib.hid g0; have G1 := Lib.hid g1; have G2 := Lib.hid g2; have G3 := Lib.hid g3; have GX := Lib.hid gx
          go_region_held3 (fun w' => w'.cell? ⟨x, 2, none⟩ = some (.int .i64 (F k 2)) ∧ w'.cell? ⟨w1.heap.size, 0, none⟩ = some (.slice e0 (rev L2 0).length r0) ∧ w'.cell? ⟨w1.heap.size, 1, none⟩ = some (.slice e1 (rev L2 1).length r1) ∧ w'.cell? ⟨w1.heap.size, 2, none⟩ = some (.slice e2 (rev L2 2).length r2) ∧ w'.cell? ⟨w1.heap.size, 3, none⟩ = some (.slice e3 (rev L2 3).length r3))
            (first
              | (refine ⟨Keep.cell (S := []) (w := W2) ?_ GX.out (by simp), Keep.cell (S := []) (w := W2) ?_ G0.out (by simp), Keep.cell (S := []) (w := W2) ?_ G1.out (by simp), Keep.cell (S := []) (w := W2) ?_ G2.out (by simp), Keep.cell (S := []) (w := W2) ?_ G3.out (by simp)⟩; all_goals (((repeat (first | (with_reducible exact Keep.refl _ _) | (with_reducible refine Keep.drew ?_) | (with_reducible refine Keep.drewN ?_ _) | (with_reducible refine Keep.alloc ?_ _) | ((with_reducible refine Keep.setCell ?_ ?_ _); rotate_left; focus (first | (simp; done) | (simp; omega) | (left; dsimp only; omega))))); done)))
              | (refine ⟨Keep.cell (S := []) (w := W2) ?_ GX.out (by simp), Keep.cell (S := []) (w := W2) ?_ G0.out (by simp), Keep.cell (S := []) (w := W2) ?_ G1.out (by simp), Keep.cell (S := []) (w := W2) ?_ G2.out (by simp), Keep.cell (S := []) (w := W2) ?_ G3.out (by simp)⟩; all_goals (((repeat (first | (with_reducible exact HKY.out) | (with_reducible refine Keep.drew ?_) | (with_reducible refine Keep.drewN ?_ _) | (with_reducible refine Keep.alloc ?_ _) | ((with_reducible refine Keep.setCell ?_ ?_ _); rotate_left; focus (first | (simp; done) | (simp; omega) | (left; dsimp only; omega))))); done)))
              | (refine ⟨Keep.cell (S := []) (w := W2) ?_ GX.out (by simp), Keep.cell (S := []) (w := W2) ?_ G0.out (by simp), Keep.cell (S := []) (w := W2) ?_ G1.out (by simp), Keep.cell (S := []) (w := W2) ?_ G2.out (by simp), Keep.cell (S := []) (w := W2) ?_ G3.out (by simp)⟩; all_goals (((repeat (first | (with_reducible exact HKX.out) | (with_reducible refine Keep.drew ?_) | (with_reducible refine Keep.drewN ?_ _) | (with_reducible refine Keep.alloc ?_ _) | ((with_reducible refine Keep.setCell ?_ ?_ _); rotate_left; focus (first | (simp; done) | (simp; omega) | (left; dsimp only; omega))))); done))))
            ((first
              | (go_at_call 61; refine (list_has (w := W2.drew) (HP2.out.still (by repeat (first | (with_reducible exact Keep.refl _ _) | (with_reducible refine Keep.drew ?_) | (with_reducible refine Keep.drewN ?_ _) | (with_reducible refine Keep.alloc ?_ _) | (with_reducible refine Keep.setCell ?_ (by first | (simp; done) | (simp; omega) | (left; dsimp only; omega)) _)))).lst (F k 2)).mono ?_; rintro e wx ⟨rfl, KX⟩; have HKX := Lib.hid KX.off_drew; clear KX)
              | (go_at_call 61; refine (list_has (w := wy) (HP2.out.still HKY.out).lst (F k 2)).mono ?_; rintro e wx ⟨rfl, KX⟩; have HKX := Lib.hid (HKY.out.trans KX); clear KX)
              | (go_at_call 62; rw [← HVAL2.out]; refine (ref07_has (w := W2.drew) (HP2.out.still (by repeat (first | (with_reducible exact Keep.refl _ _) | (with_reducible refine Keep.drew ?_) | (with_reducible refine Keep.drewN ?_ _) | (with_reducible refine Keep.alloc ?_ _) | (with_reducible refine Keep.setCell ?_ (by first | (simp; done) | (simp; omega) | (left; dsimp only; omega)) _)))).rl (by rw [rev_total]; omega) (F k 2)).mono ?_; rintro e wy ⟨rfl, KY⟩; have HKY := Lib.hid KY.off_drew; clear KY)
              | (go_at_call 62; rw [← HVAL2.out]; refine (ref07_has (w := wx) (HP2.out.still HKX.out).rl (by rw [rev_total]; omega) (F k 2)).mono ?_; rintro e wy ⟨rfl, KY⟩; have HKY := Lib.hid (HKX.out.trans KY); clear KY)))
          all_goals (
            go_wp2_with fail
            go_meet
            case rel => exact ⟨by simp [rev_has], by first | exact HKY.out | exact HKX.out⟩)
        case rest =>
          obtain ⟨rfl, hk2⟩ := hcut
          have HP3 := Lib.hid (HP2.out.still hk2)
          have hs3 := total_row L2
          have g0' := hk2.cell g0 (by simp); have g1' := hk2.cell g1 (by simp); have g2' := hk2.cell g2 (by simp); have g3' := hk2.cell g3 (by simp)
          have hcl : ∀ c, c < 4 → ∃ ar cr, wc.cell? ⟨w1.heap.size, c, none⟩ = some (.slice ar (rev L2 c).length cr) ∧ U2 c = .slice ar (rev L2 c).length cr := fun c hc => by
            obtain ⟨ar, cr, hv, _, _⟩ := (HP3.out.rl c hc).shape
            exact ⟨ar, cr, by rw [cell_at HP3.out.box, box4 hc, hv], hv⟩
          have HCL := Lib.hid hcl
          clear hk2 g0 g1 g2 g3 g0' g1' g2' g3' gx hcl
          obtain ⟨W3, rfl⟩ : ∃ W3, W3 = wc := ⟨wc, rfl⟩
          go_wp2_with fail
          go_loopg [18] 4 (fun j i wz => ∃ c : Nat, c + j = 4 ∧ i = .int .i64 c ∧ Keep [] W3 wz)
          case atStart => exact ⟨0, by omega, rfl, Keep.refl _ _⟩
          case round =>
            obtain ⟨c, hc, rfl, hkz⟩ := hrel
            have HPz := Lib.hid (HP3.out.still hkz); have HKZ := Lib.hid hkz
            clear hkz
            by_cases hc4 : c < 4
            · have i0 : (c : Int) < 4 := by omega
              have i1 : (0 : Int) ≤ (c : Int) := by omega
              have hic : inC (c : Int) = true := by simp [inC]; omega
              have hal : allL L2 c = rev L2 c := by simp [allL, rev, hic]
              have hr4 := hs3 c hc4
              have hrl : (rev L2 c).length = (L2 c).length := by simp [rev]
              go_wp2_with fail
              refine (list_all HPz.out.lst (by omega) c).mono ?_
              rintro e w4 ⟨v, rfl, O4, K4⟩
              rw [hal] at O4
              obtain ⟨av, cv, rfl, _, _⟩ := owns_val O4
              obtain ⟨ar, cr, hcl, hu⟩ := HCL.out c hc4
              have hcell := (HKZ.out.trans K4).cell hcl (by simp)
              have HRD4 := Lib.hid (Rd.of_owns O4 (by simp [ints, Value.oneCell']))
              have HP4 := Lib.hid (HPz.out.still K4)
              have HK4 := Lib.hid (HKZ.out.trans K4)
              have HCL4 := Lib.hid hcell
              have HU := Lib.hid hu
              clear O4 K4 hcl hu
              go_wp2_with fail
              refine (list_len HP4.out.lst (by omega) c).mono ?_
              rintro e w5 ⟨rfl, K5⟩
              rw [hal]
              have HP5 := Lib.hid (HP4.out.still K5)
              have HK5 := Lib.hid (HK4.out.trans K5)
              have hcell5 := K5.cell HCL4.out (by simp)
              have HRD5 := Lib.hid (HRD4.out.keep K5 (fun _ _ => by simp))
              have hrr := HP5.out.rl c hc4
              rw [HU.out] at hrr
              have HRR := Lib.hid hrr
              clear K5 hcell hrr
              generalize hq : (rev L2 c).length = q at *
              have hq2 : (rev L2 c).length = q := hq
              have HQ := Lib.hid hq2
              clear hq hq2
              go_wp2_with fail
              go_loopg [20] q (fun j i wy => ∃ p : Nat, p + j = q ∧ i = .int .i64 p ∧ ∃ nq, wy = w5.drewN nq)
              case atStart => exact ⟨0, by omega, rfl, 0, rfl⟩
              case round =>
                obtain ⟨p, hp, rfl, nq, rfl⟩ := hrel
                by_cases hpl : p < q
                · obtain ⟨b4, o4, rfl, hb4, hc4'⟩ := HRD5.out.some (by rw [ints_len, HQ.out]; omega)
                  obtain ⟨b5, o5, rfl, hb5, hc5'⟩ := HRR.out.some (by rw [ints_len, HQ.out]; omega)
                  have hpx : p < (rev L2 c).length := by rw [HQ.out]; exact hpl
                  have e4 := hc4' p (.int .i64 (rev L2 c)[p]) (by rw [ints_get]; simp [hpx])
                  have e5 := hc5' p (.int .i64 (rev L2 c)[p]) (by rw [ints_get]; simp [hpx])
                  have j0 : (0 : Int) ≤ (p : Int) := by omega
                  have j1 : (p : Int) < (q : Int) := by omega
                  clear hc4' hc5'
                  generalize (rev L2 c)[p] = y at e4 e5
                  go_wp2_with fail
                  go_quiet (fail)
                  go_wp2_with fail
                  go_roundg (q - (p + 1))
                  case measure => omega
                  case rel => exact ⟨p + 1, by omega, by go_num, _, rfl⟩
                · have hpe : p = q := by omega
                  go_wp2_with fail
                  go_roundg (4 - (c + 1))
                  case measure => omega
                  case rel => exact ⟨c + 1, by omega, by go_num, HK5.out.drewN _⟩
            · obtain rfl : c = 4 := by omega
              go_wp2_with fail
              go_roundg (n - (k + 1))
              case measure => omega
              case rel => exact ⟨k + 1, L2, V2, U2, by omega, by go_num, HPz.out, by omega⟩
    · have nx : ¬ (k : Int) < (n : Int) := by omega
      have a1 : allL L 4 = [] := by simp [allL, inC]
      have a2 : allL L (-1) = [] := by simp [allL, inC]
      go_wp2_with fail
      refine (list_all HP.out.lst (by omega) 4).mono ?_
      rintro e w2 ⟨v, rfl, O2, K2⟩
      rw [a1] at O2
      obtain ⟨av, cv, rfl, _, _⟩ := owns_val O2
      have HP2 := Lib.hid (HP.out.still K2)
      clear O2 K2
      go_wp2_with fail
      refine (list_len HP2.out.lst (by omega) (-1)).mono ?_
      rintro e w3 ⟨rfl, K3⟩
      rw [a2]
      have HP3 := Lib.hid (HP2.out.still K3)
      clear K3
      go_wp2_with fail
      refine (list_wakes w3).mono ?_
      rintro e w4 ⟨rfl, K4⟩
      have HP4 := Lib.hid (HP3.out.still K4)
      clear K4
      go_wp2_with fail
      exact hR.out _ _ ⟨rfl, HP4.out.keep.below (Nat.le_refl _) (by simp)⟩

set_option maxRecDepth 100000 in
theorem lawListPlays_walk {H : Type} {enc : TypeId × Value → H} {base : Nat} (W : World) {v0 : Value} {d0 : DataW H} {p0 : List MemPlace}
    (ok0 : Value.okWide Try.prog W .any base 88 v0) (h0 : DataW.Trod enc Try.prog W 0 (fun _ => true) true 88 v0 d0 p0) :
    Calls Try.prog 12 #[v0] W fun e w' => e = .returned (.bool true) ∧ Below W.heap.size W w' := by
  obtain ⟨ao, len, cap, rfl⟩ := okWide_slice Try.underlying88 ok0
  obtain ⟨n, F, hA⟩ := open_recs (ks := [.u8, .i64, .i64, .i64]) Try.underlying88 Try.underlying95 (by kernel_rfl) (by kernel_rfl) (by kernel_rfl) h0 rfl
  have hn : len = n := by obtain ⟨_, ⟨_, _, hv, _⟩, _⟩ := hA; cases hv; rfl
  subst hn
  exact list_plays_law ao len cap F W hA
end Go.Proofs.Ytgdbccficcgbdaa
