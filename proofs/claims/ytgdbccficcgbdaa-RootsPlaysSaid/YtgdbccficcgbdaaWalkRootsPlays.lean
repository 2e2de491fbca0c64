/- The walk of RootsPlays. -/
import Derived.Test.YtgdbccficcgbdaaRootsLaw
import Derived.Test.YtgdbccficcgbdaaRef09b
import Derived.WalkSmall
import Derived.Deep.LoopGhost
import Derived.Deep.DeepCutAuto
import Derived.Deep.CutBlock
import Derived.Deep.RegionHeld3
import Derived.Deep.DrawnRows
namespace Go.Proofs.Ytgdbccficcgbdaa
open Go.RowKit Go.ChangeShapes Go.WideShapes
attribute [local go_sem ↓] Go.wp_at_zero Go.wp_at_succ
set_option linter.unusedVariables false
set_option linter.unusedSimpArgs false

/-- What stands behind an act: the roots at block b, the reference at block q. -/
def RootsAt (w : World) (b q m : Nat) (wx : World) : Prop :=
  ∃ (S K : List Int) (a1 : Option Addr) (c1 : Nat) (a2 : Option Addr) (c2 : Nat), S.length = m ∧ Rts wx b S K ∧ wx.heap[q]? = some (.cells #[.slice a1 m c1, .slice a2 K.length c2] 79 (0, 0)) ∧
    R9 wx a1 c1 a2 c2 m K.length S K ∧ (∀ a, (a1 = some a ∨ a2 = some a) → a.block ≠ b ∧ a.block ≠ q) ∧ Keep [] w wx

theorem RootsAt.next {w wx : World} {b q m : Nat} (hbq : b ≠ q) (hwb : w.heap.size ≤ b) (hwq : w.heap.size ≤ q) {S' K' : List Int} {a1 a2 a1' a2' : Option Addr} {c1' c2' m' : Nat} {w3 w4 : World}
    (hS : S'.length = m) (h3 : Rts w3 b S' K') (k3 : Keep [b] wx w3) (hq : ∃ o, w3.heap[q]? = some o) (h4 : R9 w4 a1' c1' a2' c2' m m' S' K') (k4 : Keep [] w3 w4) (fr : Frs w3 a1 a2 a1' a2') (ho : ∀ a, (a1 = some a ∨ a2 = some a) → a.block ≠ b ∧ a.block ≠ q) (hk : Keep [] w wx)
    {w5 : World} (k5 : Keep [q] w4 w5) (h5 : w5.heap[q]? = some (.cells #[.slice a1' m c1', .slice a2' m' c2'] 79 (0, 0))) : RootsAt w b q m w5 := by
  have hm' := h4.2.1
  subst hm'
  have hfr : ∀ a, (a1' = some a ∨ a2' = some a) → a.block ≠ b ∧ a.block ≠ q := fun a ha => by
    rcases fr a ha with h | h
    · have := h3.lt
      obtain ⟨o, hq⟩ := hq
      have := lt_of_block hq
      omega
    · exact ho a h
  refine ⟨S', K', a1', c1', a2', c2', hS, (h3.keep k4 (by simp)).keep k5 (by simpa using hbq), h5, h4.keepT k5 (fun a ha => by simpa using (hfr a ha).2), hfr, ?_⟩
  exact Keep.of_below (((hk.below_self.trans (k3.below hk.size (by simpa using hwb))).trans (k4.below (by have := hk.size; have := k3.size; omega) (by simp))).trans (k5.below (by have := hk.size; have := k3.size; have := k4.size; omega) (by simpa using hwq)))

theorem roots_slots_eq {w : World} {b m : Nat} {S K : List Int} (h : Rts w b S K) (hm : S.length = m) : Calls Try.prog 51 #[.pointer (some ⟨b, 0, none⟩)] w fun e w' => e = .returned (.int .i64 m) ∧ w' = w := by
  subst hm
  exact roots_slots h

set_option maxRecDepth 100000 in
set_option maxHeartbeats 4000000 in
theorem roots_plays_law (slots : Int) (ao : Option Addr) (n cap : Nat) (F : Nat → Nat → Int) (w : World)
    (hA : Recs w (.slice ao n cap) n [.u8, .i64, .i64] F) : Calls Try.prog 10 #[.int .i64 slots, .slice ao n cap] w fun e w' => e = .returned (.bool true) ∧ Below w.heap.size w w' := by
  refine calls_abs fun R hR => ?_
  have HA := Lib.hid hA
  have hnm : n ≤ 9223372036854775807 := by
    obtain ⟨cs, hr, _⟩ := hA
    obtain ⟨_, _, hv, h1, h2, _⟩ := hr
    simp only [maxLen] at h2
    omega
  clear hA
  by_cases hbig : 150 < n
  · have h150 : (150 : Int) < (n : Int) := by omega
    go_enter Try.func10, Try.ntmps10
    go_wp2_with (go_at_call 38; refine (roots_wakes _).mono ?_; rintro e w' ⟨rfl, hk⟩)
    exact hR.out _ _ ⟨rfl, hk.below_self⟩
  have h150 : ¬ (150 : Int) < (n : Int) := by omega
  by_cases hlow : slots < 1
  · go_enter Try.func10, Try.ntmps10
    go_wp2_with (first | (go_at_call 39; refine (roots_new_bad slots (.inl hlow) _).mono ?_; rintro e w' ⟨rfl, rfl⟩) | (go_at_call 38; refine (roots_wakes _).mono ?_; rintro e w' ⟨rfl, hk⟩))
    exact hR.out _ _ ⟨rfl, hk.below_self⟩
  by_cases hhigh : 8 < slots
  · go_enter Try.func10, Try.ntmps10
    go_wp2_with (first | (go_at_call 39; refine (roots_new_bad slots (.inr hhigh) _).mono ?_; rintro e w' ⟨rfl, rfl⟩) | (go_at_call 38; refine (roots_wakes _).mono ?_; rintro e w' ⟨rfl, hk⟩))
    exact hR.out _ _ ⟨rfl, hk.below_self⟩
  obtain ⟨m, rfl⟩ : ∃ m : Nat, slots = m := ⟨slots.toNat, by omega⟩
  go_enter Try.func10, Try.ntmps10
  go_wp2_with fail
  refine (roots_new m m rfl (by omega) (by omega) _).mono ?_
  rintro e w1 ⟨b, rfl, A1, K1, hb⟩
  have hbl := A1.lt
  have HA1 := Lib.hid A1; have HK1 := Lib.hid K1; clear A1 K1
  go_wp2_with fail
  refine (ref09_new m m rfl (by omega) _).mono ?_
  rintro e w2 ⟨a1, c1, rfl, R2, K2, F2⟩
  have HR2 := Lib.hid R2; have HK2 := Lib.hid K2; have HF2 := Lib.hid F2; clear R2 K2 F2
  go_wp2_with fail
  have hbq : b ≠ w2.heap.size := by have := HK2.out.size; omega
  have hwq : w.heap.size ≤ w2.heap.size := by have := HK2.out.size; have := HK1.out.size; omega
  have hm8 : m ≤ 8 := by omega
  have hA0 : RootsAt w b w2.heap.size m (w2.alloc (.cells #[.slice a1 m c1, .slice none 0 0] 79)) := by
    refine ⟨List.replicate m 0, [], a1, c1, none, 0, by simp, HA1.out.keep (T := []) (by repeat (first | (with_reducible exact HK2.out) | (with_reducible refine Keep.drew ?_) | (with_reducible refine Keep.drewN ?_ _) | (with_reducible refine Keep.alloc ?_ _) | (with_reducible refine Keep.setCell ?_ (by first | (simp; done) | (simp; omega) | (left; dsimp only; omega)) _))) (by simp), alloc_new _ _ _ rfl, HR2.out.keep (by repeat (first | (with_reducible exact Keep.refl _ _) | (with_reducible refine Keep.drew ?_) | (with_reducible refine Keep.drewN ?_ _) | (with_reducible refine Keep.alloc ?_ _) | (with_reducible refine Keep.setCell ?_ (by first | (simp; done) | (simp; omega) | (left; dsimp only; omega)) _))), fun a ha => ?_, HK1.out.trans (by repeat (first | (with_reducible exact HK2.out) | (with_reducible refine Keep.drew ?_) | (with_reducible refine Keep.drewN ?_ _) | (with_reducible refine Keep.alloc ?_ _) | (with_reducible refine Keep.setCell ?_ (by first | (simp; done) | (simp; omega) | (left; dsimp only; omega)) _)))⟩
    rcases ha with ha | ha
    · have := HF2.out a ha
      obtain ⟨g, o, e, hlt, _⟩ := (show Rd w2 (.slice a1 m c1) m _ from HR2.out.2.2.1).some (by simp; omega)
      rw [ha] at e; cases e
      simp at this ⊢
      omega
    · cases ha
  have HA0 := Lib.hid hA0; clear hA0
  have HHB := Lib.hid hb; have HHBL := Lib.hid hbl
  go_loopg [8] n (fun j i wr => ∃ k : Nat, k + j = n ∧ i = .int .i64 k ∧ RootsAt w b w2.heap.size m wr)
  case atStart => exact ⟨0, by omega, rfl, HA0.out⟩
  case round =>
    obtain ⟨k, hkj, rfl, hP⟩ := hrel
    have HP := Lib.hid hP; clear hP
    by_cases hkn : k < n
    · obtain ⟨ab, aof, rfl, hab, hcells⟩ := HA.out.cell hkn (by simp)
      obtain ⟨S, K, a1', c1', a2', c2', hS, hT, hQ, hR9, hfr, hKw⟩ := HP.out
      have d0 := hKw.cell (hcells 0 .u8 rfl).1 (by simp)
      have d1 := hKw.cell (hcells 1 .i64 rfl).1 (by simp)
      have d2 := hKw.cell (hcells 2 .i64 rfl).1 (by simp)
      simp only [Nat.add_zero, List.length_cons, List.length_nil, ← Nat.add_assoc] at d0 d1 d2
      clear hcells
      have cq := cell_at hQ
      have fq := frozen_at hQ
      have lq := lt_of_block hQ
      have lb := hT.lt
      have hdeep := hT.deep
      have HS := Lib.hid hS; have HT := Lib.hid hT; have HQ := Lib.hid hQ; have H9 := Lib.hid hR9; have HF := Lib.hid hfr; have HKW := Lib.hid hKw
      clear hS hT hQ hR9 hfr hKw
      go_upto_block 2 with (fail)
      go_cut [10, 11] (fun x y wx => x = y ∧ RootsAt w b w2.heap.size m wx ∧ ∃ z, x = .int .i64 z)
      case first =>
        by_cases hd0 : F k 0 = 0
        · have t0 : (F k 0 == 0) = true := by simp [hd0]
          clear hd0
          go_wp2_with fail
          refine (roots_push_any (S := S) (K := K) (HT.out.keep (T := []) (by repeat (first | (with_reducible exact Keep.refl _ _) | (with_reducible refine Keep.drew ?_) | (with_reducible refine Keep.drewN ?_ _) | (with_reducible refine Keep.alloc ?_ _) | (with_reducible refine Keep.setCell ?_ (by first | (simp; done) | (simp; omega) | (left; dsimp only; omega)) _))) (by simp)) (F k 1)).mono ?_
          rintro e w3 ⟨rfl, S3, K3⟩
          have bx3 := K3.get (alloc_new wr (.cells #[.int .u8 (F k 0), .int .i64 (F k 1), .int .i64 (F k 2)] 82) _ rfl) (by simp; omega)
          have bq3 := K3.get (alloc_keeps HQ.out _) (by simp; omega)
          have cx3 := cell_at bx3
          have cq3 := cell_at bq3
          have KW3 : Keep [b] wr w3 := ((Keep.refl _ wr).alloc _).trans K3
          have HBX3 := Lib.hid bx3; have HBQ3 := Lib.hid bq3; have HS3 := Lib.hid S3; have HW3 := Lib.hid KW3
          have H93 := Lib.hid (H9.out.keepT KW3 (fun a ha => by simpa using (HF.out a ha).1))
          clear cq fq d0 d1 d2 bx3 bq3 S3 K3 KW3
          go_wp2_with fail
          refine (ref09_push_any (F k 1) (by omega) hdeep w3 H93.out).mono ?_
          rintro e w4 ⟨b1, e1, b2, e2, m', rfl, R4, K4, F4⟩
          have bq4 := K4.get HBQ3.out (by simp)
          have cq4 := cell_at bq4
          have fq4 := frozen_at bq4
          have lq4 := lt_of_block bq4
          have HBQ4 := Lib.hid bq4; have HR4 := Lib.hid R4; have HK4 := Lib.hid K4; have HF4 := Lib.hid F4
          clear bq4 R4 K4 F4 cq3 cx3
          go_wp2_with fail
          go_meet
          case rel =>
            refine ⟨rfl, RootsAt.next hbq HHB.out hwq ((pushF_len S K (F k 1)).trans HS.out) HS3.out HW3.out ⟨_, HBQ3.out⟩ HR4.out HK4.out HF4.out HF.out HKW.out (w5 := _) ?_ ?_, _, rfl⟩
            · ((repeat (first | (with_reducible exact Keep.refl _ _) | (with_reducible refine Keep.drew ?_) | (with_reducible refine Keep.drewN ?_ _) | (with_reducible refine Keep.alloc ?_ _) | ((with_reducible refine Keep.setCell ?_ ?_ _); rotate_left; focus (first | (simp; done) | (simp; omega) | (left; dsimp only; omega))))); done)
            · have h := HBQ4.out
              exact (by simp [World.alloc, World.setCell, World.drew, World.drewN, Array.getElem?_push, Array.getElem?_modify, h])
        · have t0 : (F k 0 == 0) = false := by simp [hd0]
          by_cases hd1 : F k 0 = 1
          · have t1 : (F k 0 == 1) = true := by simp [hd1]
            clear hd0 hd1
            go_wp2_with fail
            refine (roots_pop_any (S := S) (K := K) (HT.out.keep (T := []) (by repeat (first | (with_reducible exact Keep.refl _ _) | (with_reducible refine Keep.drew ?_) | (with_reducible refine Keep.drewN ?_ _) | (with_reducible refine Keep.alloc ?_ _) | (with_reducible refine Keep.setCell ?_ (by first | (simp; done) | (simp; omega) | (left; dsimp only; omega)) _))) (by simp)) (F k 1)).mono ?_
            rintro e w3 ⟨rfl, S3, K3⟩
            have bx3 := K3.get (alloc_new wr (.cells #[.int .u8 (F k 0), .int .i64 (F k 1), .int .i64 (F k 2)] 82) _ rfl) (by simp; omega)
            have bq3 := K3.get (alloc_keeps HQ.out _) (by simp; omega)
            have cx3 := cell_at bx3
            have cq3 := cell_at bq3
            have KW3 : Keep [b] wr w3 := ((Keep.refl _ wr).alloc _).trans K3
            have HBX3 := Lib.hid bx3; have HBQ3 := Lib.hid bq3; have HS3 := Lib.hid S3; have HW3 := Lib.hid KW3
            have H93 := Lib.hid (H9.out.keepT KW3 (fun a ha => by simpa using (HF.out a ha).1))
            clear cq fq d0 d1 d2 bx3 bq3 S3 K3 KW3
            go_wp2_with fail
            refine (ref09_pop_any (F k 1) (by omega) w3 H93.out).mono ?_
            rintro e w4 ⟨b1, e1, b2, e2, m', rfl, R4, K4, F4⟩
            have bq4 := K4.get HBQ3.out (by simp)
            have cq4 := cell_at bq4
            have fq4 := frozen_at bq4
            have lq4 := lt_of_block bq4
            have HBQ4 := Lib.hid bq4; have HR4 := Lib.hid R4; have HK4 := Lib.hid K4; have HF4 := Lib.hid F4
            clear bq4 R4 K4 F4 cq3 cx3
            go_wp2_with fail
            go_meet
            case rel =>
              refine ⟨rfl, RootsAt.next hbq HHB.out hwq ((popF_len S K (F k 1)).trans HS.out) HS3.out HW3.out ⟨_, HBQ3.out⟩ HR4.out HK4.out HF4.out HF.out HKW.out (w5 := _) ?_ ?_, _, rfl⟩
              · ((repeat (first | (with_reducible exact Keep.refl _ _) | (with_reducible refine Keep.drew ?_) | (with_reducible refine Keep.drewN ?_ _) | (with_reducible refine Keep.alloc ?_ _) | ((with_reducible refine Keep.setCell ?_ ?_ _); rotate_left; focus (first | (simp; done) | (simp; omega) | (left; dsimp only; omega))))); done)
              · have h := HBQ4.out
                exact (by simp [World.alloc, World.setCell, World.drew, World.drewN, Array.getElem?_push, Array.getElem?_modify, h])
          · have t1 : (F k 0 == 1) = false := by simp [hd1]
            clear hd0 hd1
            go_wp2_with fail
            refine (roots_set_any (S := S) (K := K) (HT.out.keep (T := []) (by repeat (first | (with_reducible exact Keep.refl _ _) | (with_reducible refine Keep.drew ?_) | (with_reducible refine Keep.drewN ?_ _) | (with_reducible refine Keep.alloc ?_ _) | (with_reducible refine Keep.setCell ?_ (by first | (simp; done) | (simp; omega) | (left; dsimp only; omega)) _))) (by simp)) (F k 1) (F k 2)).mono ?_
            rintro e w3 ⟨rfl, S3, K3⟩
            have bx3 := K3.get (alloc_new wr (.cells #[.int .u8 (F k 0), .int .i64 (F k 1), .int .i64 (F k 2)] 82) _ rfl) (by simp; omega)
            have bq3 := K3.get (alloc_keeps HQ.out _) (by simp; omega)
            have cx3 := cell_at bx3
            have cq3 := cell_at bq3
            have KW3 : Keep [b] wr w3 := ((Keep.refl _ wr).alloc _).trans K3
            have HBX3 := Lib.hid bx3; have HBQ3 := Lib.hid bq3; have HS3 := Lib.hid S3; have HW3 := Lib.hid KW3
            have H93 := Lib.hid (H9.out.keepT KW3 (fun a ha => by simpa using (HF.out a ha).1))
            clear cq fq d0 d1 d2 bx3 bq3 S3 K3 KW3
            go_wp2_with fail
            refine (ref09_set_any (F k 1) (F k 2) (by omega) w3 H93.out).mono ?_
            rintro e w4 ⟨b1, e1, b2, e2, m', rfl, R4, K4, F4⟩
            have bq4 := K4.get HBQ3.out (by simp)
            have cq4 := cell_at bq4
            have fq4 := frozen_at bq4
            have lq4 := lt_of_block bq4
            have HBQ4 := Lib.hid bq4; have HR4 := Lib.hid R4; have HK4 := Lib.hid K4; have HF4 := Lib.hid F4
            clear bq4 R4 K4 F4 cq3 cx3
            go_wp2_with fail
            go_meet
            case rel =>
              refine ⟨rfl, RootsAt.next hbq HHB.out hwq ((setF_len S K (F k 1) (F k 2)).trans HS.out) HS3.out HW3.out ⟨_, HBQ3.out⟩ HR4.out HK4.out HF4.out HF.out HKW.out (w5 := _) ?_ ?_, _, rfl⟩
              · ((repeat (first | (with_reducible exact Keep.refl _ _) | (with_reducible refine Keep.drew ?_) | (with_reducible refine Keep.drewN ?_ _) | (with_reducible refine Keep.alloc ?_ _) | ((with_reducible refine Keep.setCell ?_ ?_ _); rotate_left; focus (first | (simp; done) | (simp; omega) | (left; dsimp only; omega))))); done)
              · have h := HBQ4.out
                exact (by simp [World.alloc, World.setCell, World.drew, World.drewN, Array.getElem?_push, Array.getElem?_modify, h])
      case rest =>
        obtain ⟨hxy, hP2, z, hx⟩ := hcut
        subst hx; subst hxy
        clear cq fq d0 d1 d2 lq lb hdeep
        obtain ⟨S, K, a1', c1', a2', c2', hS, hT, hQ, hR9, hfr, hKw⟩ := hP2
        have hdeep := hT.deep
        have e0 : wc.cell? ⟨w2.heap.size, 0, none⟩ = some (.slice a1' m c1') := by rw [cell_at hQ]; rfl
        have e1 : wc.cell? ⟨w2.heap.size, 1, none⟩ = some (.slice a2' K.length c2') := by rw [cell_at hQ]; rfl
        have HS := Lib.hid hS; have HT := Lib.hid hT; have HQ := Lib.hid hQ; have H9 := Lib.hid hR9; have HF := Lib.hid hfr; have HKW := Lib.hid hKw
        clear hS hT hQ hR9 hfr hKw
        go_wp2_with fail
        go_region_held3 (fun w' => w'.cell? ⟨w2.heap.size, 0, none⟩ = some (.slice a1' m c1') ∧ w'.cell? ⟨w2.heap.size, 1, none⟩ = some (.slice a2' K.length c2'))
          (first
            | (refine ⟨Keep.cell (S := []) (w := wc) ?_ e0 (by simp), Keep.cell (S := []) (w := wc) ?_ e1 (by simp)⟩; all_goals (((repeat (first | (with_reducible exact Keep.refl _ _) | (with_reducible refine Keep.drew ?_) | (with_reducible refine Keep.drewN ?_ _) | (with_reducible refine Keep.alloc ?_ _) | ((with_reducible refine Keep.setCell ?_ ?_ _); rotate_left; focus (first | (simp; done) | (simp; omega) | (left; dsimp only; omega))))); done)))
            | (refine ⟨Keep.cell (S := []) (w := wc) ?_ e0 (by simp), Keep.cell (S := []) (w := wc) ?_ e1 (by simp)⟩; all_goals (((repeat (first | (with_reducible exact HKY.out) | (with_reducible refine Keep.drew ?_) | (with_reducible refine Keep.drewN ?_ _) | (with_reducible refine Keep.alloc ?_ _) | ((with_reducible refine Keep.setCell ?_ ?_ _); rotate_left; focus (first | (simp; done) | (simp; omega) | (left; dsimp only; omega))))); done)))
            | (refine ⟨Keep.cell (S := []) (w := wc) ?_ e0 (by simp), Keep.cell (S := []) (w := wc) ?_ e1 (by simp)⟩; all_goals (((repeat (first | (with_reducible exact HKX.out) | (with_reducible refine Keep.drew ?_) | (with_reducible refine Keep.drewN ?_ _) | (with_reducible refine Keep.alloc ?_ _) | ((with_reducible refine Keep.setCell ?_ ?_ _); rotate_left; focus (first | (simp; done) | (simp; omega) | (left; dsimp only; omega))))); done))))
          ((first
            | (go_at_call 49; refine (roots_all (S := S) (K := K) (w := wc.drew) (HT.out.keep (T := []) (by repeat (first | (with_reducible exact Keep.refl _ _) | (with_reducible refine Keep.drew ?_) | (with_reducible refine Keep.drewN ?_ _) | (with_reducible refine Keep.alloc ?_ _) | (with_reducible refine Keep.setCell ?_ (by first | (simp; done) | (simp; omega) | (left; dsimp only; omega)) _))) (by simp))).mono ?_; rintro e wx ⟨vx, L, rfl, hL, RX, KX⟩; subst hL; have HRX := Lib.hid RX; have HKX := Lib.hid KX.off_drew; clear RX KX)
            | (go_at_call 49; refine (roots_all (S := S) (K := K) (w := wy) (HT.out.keep (T := []) HKY.out (by simp))).mono ?_; rintro e wx ⟨vx, L, rfl, hL, RX, KX⟩; subst hL; have HRX := Lib.hid RX; have HKX := Lib.hid (HKY.out.trans KX); have HRY2 := Lib.hid (HRY.out.keep KX (by simp)); clear RX KX)
            | (go_at_call 50; refine (ref09_all (S := S) (K := K) (by omega) (by omega) wc.drew (H9.out.keep (by repeat (first | (with_reducible exact Keep.refl _ _) | (with_reducible refine Keep.drew ?_) | (with_reducible refine Keep.drewN ?_ _) | (with_reducible refine Keep.alloc ?_ _) | (with_reducible refine Keep.setCell ?_ (by first | (simp; done) | (simp; omega) | (left; dsimp only; omega)) _))))).mono ?_; rintro e wy ⟨vy, L, rfl, hL, RY, KY⟩; subst hL; have HRY := Lib.hid RY; have HKY := Lib.hid KY.off_drew; clear RY KY)
            | (go_at_call 50; refine (ref09_all (S := S) (K := K) (by omega) (by omega) wx (H9.out.keep HKX.out)).mono ?_; rintro e wy ⟨vy, L, rfl, hL, RY, KY⟩; subst hL; have HRY := Lib.hid RY; have HKY := Lib.hid (HKX.out.trans KY); have HRX2 := Lib.hid (HRX.out.keep KY (by simp)); clear RY KY)))
        have RX := HRX2.out
        have RY := HRY.out
        have hlen : ((S ++ K).filter (· != 0)).length ≤ 24 := Nat.le_trans (List.length_filter_le _ _) (by simp [HS.out]; omega)
        generalize (S ++ K).filter (· != 0) = L at RX RY hlen
        obtain ⟨p1, q1, rfl, hq1, hq1'⟩ := RX.shape
        obtain ⟨p2, q2, rfl, hq2, hq2'⟩ := RY.shape
        have T5 := HT.out.keep HKY.out (by simp)
        have b5 := HKY.out.get HQ.out (by simp)
        have e50 : wy.cell? ⟨w2.heap.size, 0, none⟩ = some (.slice a1' m c1') := by rw [cell_at b5]; rfl
        have e51 : wy.cell? ⟨w2.heap.size, 1, none⟩ = some (.slice a2' K.length c2') := by rw [cell_at b5]; rfl
        have HRX5 := Lib.hid RX; have HRY5 := Lib.hid RY; have HT5 := Lib.hid T5; have HB5 := Lib.hid b5
        clear HRX2 HRY HRX RX RY T5 b5 e0 e1
        go_wp2_with fail
        go_quiet (first | (go_at_call 44; exact Calls.quiet_of_same (roots_depth (HT5.out.keep (T := []) (by repeat (first | (with_reducible exact Keep.refl _ _) | (with_reducible refine Keep.drew ?_) | (with_reducible refine Keep.drewN ?_ _) | (with_reducible refine Keep.alloc ?_ _) | (with_reducible refine Keep.setCell ?_ (by first | (simp; done) | (simp; omega) | (left; dsimp only; omega)) _))) (by simp)))) | (go_at_call 51; exact Calls.quiet_of_same (roots_slots_eq (HT5.out.keep (T := []) (by repeat (first | (with_reducible exact Keep.refl _ _) | (with_reducible refine Keep.drew ?_) | (with_reducible refine Keep.drewN ?_ _) | (with_reducible refine Keep.alloc ?_ _) | (with_reducible refine Keep.setCell ?_ (by first | (simp; done) | (simp; omega) | (left; dsimp only; omega)) _))) (by simp)) HS.out)))
        go_wp2_with fail
        go_loopw [14] (fun i wr' => ∃ k2 : Nat, k2 ≤ L.length ∧ i = .int .i64 k2 ∧ Keep [] wy wr') (fun i _ => L.length - (intOf i).toNat)
        case atStart => exact ⟨0, by omega, rfl, (by repeat (first | (with_reducible exact Keep.refl _ _) | (with_reducible refine Keep.drew ?_) | (with_reducible refine Keep.drewN ?_ _) | (with_reducible refine Keep.alloc ?_ _) | (with_reducible refine Keep.setCell ?_ (by first | (simp; done) | (simp; omega) | (left; dsimp only; omega)) _)))⟩
        case round =>
          obtain ⟨k2, hk2, rfl, HKL⟩ := hrel
          have HKL' := Lib.hid HKL; clear HKL
          by_cases hk2n : k2 < L.length
          · obtain ⟨g1, o1, rfl, hg1, hc1⟩ := HRX5.out.some (by simp; omega)
            obtain ⟨g2, o2, rfl, hg2, hc2⟩ := HRY5.out.some (by simp; omega)
            have cx := HKL'.out.cell (hc1 k2 (.int .i64 L[k2]) (by simp [hk2n])) (by simp)
            have cy := HKL'.out.cell (hc2 k2 (.int .i64 L[k2]) (by simp [hk2n])) (by simp)
            have nk1 : (k2 : Int) < (L.length : Int) := by omega
            have nk2 : (0 : Int) ≤ (k2 : Int) := by omega
            generalize L[k2] = lk at cx cy
            clear hc1 hc2
            go_wp2_with fail
            go_quiet (fail)
            go_wp2_with fail
            go_roundw
            case rel => exact ⟨k2 + 1, by omega, by go_num, (by repeat (first | (with_reducible exact HKL'.out) | (with_reducible refine Keep.drew ?_) | (with_reducible refine Keep.drewN ?_ _) | (with_reducible refine Keep.alloc ?_ _) | (with_reducible refine Keep.setCell ?_ (by first | (simp; done) | (simp; omega) | (left; dsimp only; omega)) _)))⟩
            case measure => simp [intOf]; omega
          · have nk1 : ¬ (k2 : Int) < (L.length : Int) := by omega
            have T6 := HT5.out.keep HKL'.out (by simp)
            have HT6 := Lib.hid T6; clear T6
            go_wp2_with fail
            refine (roots_stack HT6.out).mono ?_
            rintro e w7 ⟨v7, rfl, R7, K7⟩
            obtain ⟨p7, q7, rfl, hq7, hq7'⟩ := R7.shape
            have K57 := HKL'.out.trans K7
            have b7 := K57.get HB5.out (by simp)
            have e70 : w7.cell? ⟨w2.heap.size, 0, none⟩ = some (.slice a1' m c1') := by rw [cell_at b7]; rfl
            have e71 : w7.cell? ⟨w2.heap.size, 1, none⟩ = some (.slice a2' K.length c2') := by rw [cell_at b7]; rfl
            have HB7 := Lib.hid b7; have HR7 := Lib.hid R7; have HK57 := Lib.hid K57
            clear b7 R7 K7 K57 e50 e51
            go_wp2_with fail
            go_loopw [16] (fun i wr' => ∃ k3 : Nat, k3 ≤ K.length ∧ i = .int .i64 k3 ∧ Keep [] w7 wr') (fun i _ => K.length - (intOf i).toNat)
            case atStart => exact ⟨0, by omega, rfl, (by repeat (first | (with_reducible exact Keep.refl _ _) | (with_reducible refine Keep.drew ?_) | (with_reducible refine Keep.drewN ?_ _) | (with_reducible refine Keep.alloc ?_ _) | (with_reducible refine Keep.setCell ?_ (by first | (simp; done) | (simp; omega) | (left; dsimp only; omega)) _)))⟩
            case round =>
              obtain ⟨k3, hk3, rfl, HKM⟩ := hrel
              have HKM' := Lib.hid HKM; clear HKM
              have b8 := HKM'.out.get HB7.out (by simp)
              have e80 : wr.cell? ⟨w2.heap.size, 0, none⟩ = some (.slice a1' m c1') := by rw [cell_at b8]; rfl
              have e81 : wr.cell? ⟨w2.heap.size, 1, none⟩ = some (.slice a2' K.length c2') := by rw [cell_at b8]; rfl
              have HB8 := Lib.hid b8
              clear b8 e70 e71
              by_cases hk3n : k3 < K.length
              · obtain ⟨g1, o1, rfl, hg1, hc1⟩ := HR7.out.some (by simp; omega)
                obtain ⟨g2, o2, rfl, hg2, hc2⟩ := (show Rd wc (.slice a2' K.length c2') K.length (K.map (Value.int .i64)) from H9.out.2.2.2).some (by simp; omega)
                have cx := HKM'.out.cell (hc1 k3 (.int .i64 K[k3]) (by simp [hk3n])) (by simp)
                have cy := HKM'.out.cell (HK57.out.cell (HKY.out.cell (hc2 k3 (.int .i64 K[k3]) (by simp [hk3n])) (by simp)) (by simp)) (by simp)
                have nk1 : (k3 : Int) < (K.length : Int) := by omega
                have nk2 : (0 : Int) ≤ (k3 : Int) := by omega
                generalize K[k3] = lk at cx cy
                clear hc1 hc2
                go_wp2_with fail
                go_quiet (fail)
                go_wp2_with fail
                go_roundw
                case rel => exact ⟨k3 + 1, by omega, by go_num, (by repeat (first | (with_reducible exact HKM'.out) | (with_reducible refine Keep.drew ?_) | (with_reducible refine Keep.drewN ?_ _) | (with_reducible refine Keep.alloc ?_ _) | (with_reducible refine Keep.setCell ?_ (by first | (simp; done) | (simp; omega) | (left; dsimp only; omega)) _)))⟩
                case measure => simp [intOf]; omega
              · have nk1 : ¬ (k3 : Int) < (K.length : Int) := by omega
                have HK8 := Lib.hid ((HKY.out.trans HK57.out).trans HKM'.out)
                have HT8 := Lib.hid (HT.out.keep HK8.out (by simp))
                go_wp2_with fail
                go_loopw [17] (fun i wx => ∃ q : Int, -1 ≤ q ∧ q ≤ (m : Int) + 1 ∧ i = .int .i64 q ∧ wx = wr) (fun i _ => (m + 1 - intOf i).toNat)
                case atStart => exact ⟨-1, by omega, by omega, rfl, rfl⟩
                case round =>
                  obtain ⟨q, hq1, hq2, rfl, hww⟩ := hrel
                  subst hww
                  by_cases hqm : q ≤ m
                  · by_cases hq0 : q < 0
                    · have hq3 : q = -1 := by omega
                      subst hq3
                      go_wp2_with fail
                      refine (roots_get_bad HT8.out (-1) (.inl (by omega))).mono ?_
                      rintro e w9 ⟨rfl, rfl⟩
                      go_wp2_with fail
                      go_roundw
                      case rel => exact ⟨0, by omega, by omega, by go_num, by first | trivial | rfl⟩
                      case measure => simp [intOf]; omega
                    · obtain ⟨i9, rfl⟩ : ∃ i9 : Nat, q = i9 := ⟨q.toNat, by omega⟩
                      have nq0 : (0 : Int) ≤ (i9 : Int) := by omega
                      by_cases hqe : i9 = m
                      · subst hqe
                        go_wp2_with fail
                        refine (roots_get_bad HT8.out i9 (.inr (by rw [HS.out]; omega))).mono ?_
                        rintro e w9 ⟨rfl, rfl⟩
                        go_wp2_with fail
                        go_roundw
                        case rel => exact ⟨(i9 : Int) + 1, by omega, by omega, by go_num, by first | trivial | rfl⟩
                        case measure => simp [intOf] <;> omega
                      · have nq1 : (i9 : Int) < (m : Int) := by omega
                        have nq2 : ((i9 : Int) == (m : Int)) = false := by rw [beq_eq_false_iff_ne]; omega
                        have hiS : i9 < S.length := by rw [HS.out]; omega
                        obtain ⟨g9, o9, rfl, hg9, hc9⟩ := (show Rd wc (.slice a1' m c1') m (S.map (Value.int .i64)) from H9.out.2.2.1).some (by simp; omega)
                        have cx := HK8.out.cell (hc9 i9 (.int .i64 S[i9]) (by simp [hiS])) (by simp)
                        clear hc9
                        go_wp2_with fail
                        refine (roots_get HT8.out i9 i9 rfl hiS).mono ?_
                        rintro e w9 ⟨rfl, rfl⟩
                        generalize S[i9] = s9 at cx
                        go_wp2_with fail
                        go_roundw
                        case rel => exact ⟨(i9 : Int) + 1, by omega, by omega, by go_num, by first | trivial | rfl⟩
                        case measure => simp [intOf]; omega
                  · have hqm2 : q = (m : Int) + 1 := by omega
                    subst hqm2
                    have nq : ¬ (m : Int) + 1 ≤ (m : Int) := by omega
                    go_wp2_with fail
                    go_roundg (n - (k + 1))
                    case measure => omega
                    case rel => exact ⟨k + 1, by omega, by go_num, S, K, _, c1', _, c2', HS.out, HT8.out, HB8.out, H9.out.keep HK8.out, HF.out, HKW.out.trans HK8.out⟩
    · have hkn2 : k = n := by omega
      have nx : ¬ (k : Int) < (n : Int) := by omega
      obtain ⟨S, K, a1', c1', a2', c2', hS, hT, hQ, hR9, hfr, hKw⟩ := HP.out
      go_wp2_with (go_at_call 38; refine (roots_wakes _).mono ?_; rintro e w' ⟨rfl, hk⟩)
      exact hR.out _ _ ⟨rfl, (hKw.trans hk).below_self⟩

set_option maxRecDepth 100000 in
theorem lawRootsPlays_walk {H : Type} {enc : TypeId × Value → H} {base : Nat} (W : World) {v0 v1 : Value} {d0 d1 : DataW H} {p0 p1 : List MemPlace}
    (ok0 : Value.okWide Try.prog W .any base 3 v0) (h0 : DataW.Trod enc Try.prog W 0 (fun _ => true) true 3 v0 d0 p0)
    (ok1 : Value.okWide Try.prog W .any base 77 v1) (h1 : DataW.Trod enc Try.prog W 0 (fun _ => true) true 77 v1 d1 p1) :
    Calls Try.prog 10 #[v0, v1] W fun e w' => e = .returned (.bool true) ∧ Below W.heap.size W w' := by
  obtain ⟨a0, rfl, rfl, rfl, w0⟩ := open_int Try.underlying3 ok0 h0
  obtain ⟨ao, len, cap, rfl⟩ := okWide_slice Try.underlying77 ok1
  obtain ⟨n, F, hA⟩ := open_recs (ks := [.u8, .i64, .i64]) Try.underlying77 Try.underlying82 (by kernel_rfl) (by kernel_rfl) (by kernel_rfl) h1 rfl
  have hn : len = n := by obtain ⟨_, ⟨_, _, hv, _⟩, _⟩ := hA; cases hv; rfl
  subst hn
  exact roots_plays_law a0 ao len cap F W hA
end Go.Proofs.Ytgdbccficcgbdaa
