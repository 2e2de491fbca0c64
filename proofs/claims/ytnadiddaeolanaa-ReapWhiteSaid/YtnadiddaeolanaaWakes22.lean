/- demesnelaw22.wakes. -/
import Derived.Test.YtnadiddaeolanaaReap
namespace Go.Proofs.Ytnadiddaeolanaa
open Go.RowKit
set_option linter.unusedVariables false
set_option linter.unusedSimpArgs false

def hC : Hd := ⟨3, 0, false, false, 0, 0, 1⟩
def hD : Hd := ⟨3, 1, false, false, 0, 0, 1⟩
def reap0 : List Int := [0, 0, 0, 0, 0, 0, 1, 4, 262147, 0, 262151] ++ List.replicate 61 0
theorem reap_words (v1 v2 : Value) : wordsS [0, 4] [⟨hC, v1, []⟩, ⟨hD, v2, []⟩] 0 0 = some reap0 := by kernel_rfl
def hs2 : List Int := (headsOf ⟨1, 2, 2⟩ (fun k => enS (([0, 4] : List Int).getD k 0)) 2).map (·.1)
def reapF : List Int := waitW ⟨1, 2, 2⟩ (fun _ => true) (reapS 1 hs2 reap0).1 2
theorem reap_one : (reapS 1 hs2 reap0).2 = 1 := by kernel_rfl
theorem reap_a : rdz reapF 8 = 0 := by kernel_rfl
theorem reap_b : rdz reapF 10 = 262151 := by kernel_rfl
theorem reap_m : rdz reapF 0 = 2 := by kernel_rfl
theorem reap_ha : takeH 0 = ⟨0, 0, false, false, 0, 0, 0⟩ ∧ isHd 0 = true := ⟨by kernel_rfl, by kernel_rfl⟩
theorem reap_hb : takeH 262151 = ⟨3, 1, false, false, 0, 0, 1⟩ ∧ isHd 262151 = true := ⟨by kernel_rfl, by kernel_rfl⟩

set_option maxRecDepth 100000 in
set_option maxHeartbeats 8000000 in
theorem law22_wakes (w : World) : Calls Try.prog 70 #[] w fun e w' => e = .returned (.bool true) ∧ Keep [] w w' := by
  refine calls_abs fun R hR => ?_
  have mixed : Try.prog.follows .mixedOrders = true := by kernel_rfl
  have hb0 : ∀ k, 0 ≤ ([0, 4] : List Int).getD k 0 := fun k => by rcases k with _ | _ | k <;> simp
  go_enter Try.func70, Try.ntmps70
  go_wp2_with fail
  obtain ⟨z, hz⟩ : ∃ z, z = w.heap.size := ⟨_, rfl⟩
  simp only [← hz]
  generalize hw1 : World.alloc _ _ = w1
  have b2 : w1.heap[z + 1 + 1]? = some (.cells #[.int .u8 0, .int .u8 4] 5 (0, 0)) := by rw [← hw1]; exact alloc_keeps (alloc_new _ _ _ (by simp [hz])) _
  have b3 : w1.heap[z + 1 + 1 + 1]? = some (.cells #[.int .u8 3, .int .u8 0, .bool false, .bool false, .int .u8 0, .int .u8 0, .int .u8 1, .slice none 0 0, .int .u8 3, .int .u8 1, .bool false, .bool false, .int .u8 0, .int .u8 0, .int .u8 1, .slice none 0 0] 153 (0, 0)) := by rw [← hw1]; exact alloc_new _ _ _ (by simp [hz])
  have K1 : Keep [] w w1 := by rw [← hw1]; exact (by repeat (first | (with_reducible exact Keep.refl _ _) | (with_reducible refine Keep.drew ?_) | (with_reducible refine Keep.drewN ?_ _) | (with_reducible refine Keep.alloc ?_ _) | (with_reducible refine Keep.setCell ?_ (by first | (simp; done) | (simp; omega) | (left; dsimp only; omega)) _)))
  have hcs : ∀ x ∈ ([⟨hC, .slice none 0 0, []⟩, ⟨hD, .slice none 0 0, []⟩] : List Cl), x.ok w1 := by
    intro x hx
    simp only [List.mem_cons, List.not_mem_nil, or_false] at hx
    rcases hx with rfl | rfl
    · exact ⟨by unfold Hd.u8 hC; simp, by simp, Rd.nil _⟩
    · exact ⟨by unfold Hd.u8 hD; simp, by simp, Rd.nil _⟩
  have hrb := rd_of_row (n := 2) b2 (by simp only [maxLen]; omega) (by intro u hu; simp only [List.mem_cons, List.not_mem_nil, or_false] at hu; rcases hu with rfl | rfl <;> rfl)
  have hrc := rd_of_row (n := 2) b3 (by simp only [maxLen]; omega) (by intro u hu; simp only [List.mem_cons, List.not_mem_nil, or_false] at hu; rcases hu with rfl | rfl | rfl | rfl | rfl | rfl | rfl | rfl | rfl | rfl | rfl | rfl | rfl | rfl | rfl | rfl <;> rfl)
  have hp : HpIn w1 (.slice (some ⟨z + 1 + 1, 0, none⟩) 2 2) (.slice (some ⟨z + 1 + 1 + 1, 0, none⟩) 2 2) [0, 4] [⟨hC, .slice none 0 0, []⟩, ⟨hD, .slice none 0 0, []⟩] 0 0 :=
    ⟨hrb, by simp, hrc, hcs, by omega, by omega, by simp⟩
  have hwd := law21_words _ _ _ _ _ _ w1 hp
  have hwk := reap_words (.slice none 0 0) (.slice none 0 0)
  rw [hwk] at hwd
  have hheap := (heapW_words [0, 4] hb0 _ (fun x hx => (hcs x hx).1) 0 0 reap0 hwk).1
  have hHW := Lib.hid hheap
  unfold WordsR heapV Lay.val at hwd
  dsimp only [List.length_cons, List.length_nil] at hwd
  have HWD := Lib.hid hwd; have HK1 := Lib.hid K1
  clear hwd hwk hheap hp hrb hrc hcs b2 b3 K1 hw1 hz
  refine HWD.out.mono ?_
  rintro e w2 ⟨g0, rfl, hg0, hgb, K2⟩
  have hr0 := rd_of_u64 hg0 (by decide)
  have hmade := fun (w' : World) (K : Keep [] w2 w') => law21_made 2 (by omega) reap0 rfl _ w' (hr0.keep K (fun _ _ => by simp))
  have hlen0 : reap0.length = 72 := rfl
  rw [hlen0] at hmade
  have hfit : (Lay.mk 1 2 2).fits := ⟨by decide, by decide, by decide⟩
  have hRP := fun (w' : World) (b g : Nat) (h : ∃ t la, Arn w' b g reap0 t la) => reap_reap h (Lay.mk 1 2 2) hfit 1 (by omega) (stays_reap 2 (by omega) [0, 4] hb0 1) hHW.out
  have e1 := reap_one
  dsimp only at hRP
  unfold hs2 at e1
  rw [e1, show waitW ⟨1, 2, 2⟩ (fun _ => true) (reapS 1 ((headsOf ⟨1, 2, 2⟩ (fun k => enS (([0, 4] : List Int).getD k 0)) 2).map (·.1)) reap0).1 2 = reapF from rfl, show wrap64 ((1 : Nat) : Int) = 1 from by unfold wrap64; omega] at hRP
  have hst := fun w => layout_start (Lay.mk 1 2 2) hfit 0 w
  rw [show (Lay.mk 1 2 2).start 0 = 8 from by decide] at hst
  unfold Lay.val at hmade hRP hst
  dsimp only at hmade hRP hst
  push_cast at hmade hRP hst
  have hra := fun (w' : World) (b g : Nat) (t la : Int) (h : Arn w' b g reapF t la) => arena_read_any h 8
  have hrb := fun (w' : World) (b g : Nat) (t la : Int) (h : Arn w' b g reapF t la) => arena_read_any h 10
  have hrm := fun (w' : World) (b g : Nat) (t la : Int) (h : Arn w' b g reapF t la) => arena_read_any h 0
  simp only [reap_a] at hra
  simp only [reap_b] at hrb
  simp only [reap_m] at hrm
  have hta := fun w => word_take 0 (by omega) w
  have htb := fun w => word_take 262151 (by omega) w
  rw [reap_ha.1, reap_ha.2, if_pos rfl] at hta
  rw [reap_hb.1, reap_hb.2, if_pos rfl] at htb
  unfold Hd.val at hta htb
  dsimp only at hta htb
  have HM := Lib.hid hmade; have HRP := Lib.hid hRP; have HST := Lib.hid hst; have HRA := Lib.hid hra; have HRB := Lib.hid hrb; have HRM := Lib.hid hrm; have HTA := Lib.hid hta; have HTB := Lib.hid htb; have HK2 := Lib.hid (HK1.out.trans K2)
  clear hmade hRP hst hra hrb hrm hta htb e1 hlen0 hr0 hg0 hgb K2
  go_wp2_with fail
  generalize hw3 : World.alloc _ _ = w3
  have K3 : Keep [] w2 w3 := by rw [← hw3]; exact (by repeat (first | (with_reducible exact Keep.refl _ _) | (with_reducible refine Keep.drew ?_) | (with_reducible refine Keep.drewN ?_ _) | (with_reducible refine Keep.alloc ?_ _) | (with_reducible refine Keep.setCell ?_ (by first | (simp; done) | (simp; omega) | (left; dsimp only; omega)) _)))
  refine (HM.out w3 K3).mono ?_
  rintro e w4 ⟨b, g, rfl, hA4, K4, hb4, hg4⟩
  have HA4 := Lib.hid hA4; have HK4 := Lib.hid ((HK2.out.trans K3).trans K4)
  have HBG : Hid (w.heap.size ≤ b ∧ w.heap.size ≤ g) := by have := (HK2.out.trans K3).size; exact ⟨by omega, by omega⟩
  clear hw3 K3 hA4 K4 hb4 hg4 HM
  go_wp2_with fail
  obtain ⟨z7, hz7⟩ : ∃ y, y = w4.heap.size := ⟨_, rfl⟩
  simp only [← hz7]
  generalize hw5 : World.alloc _ _ = w5
  have b7 : w5.heap[z7]? = some (.cells #[.int .i64 1, .int .i64 2, .int .i64 2] 53 (0, 0)) := by rw [← hw5]; exact alloc_new _ _ _ hz7
  have K5 : Keep [] w4 w5 := by rw [← hw5]; exact (by repeat (first | (with_reducible exact Keep.refl _ _) | (with_reducible refine Keep.drew ?_) | (with_reducible refine Keep.drewN ?_ _) | (with_reducible refine Keep.alloc ?_ _) | (with_reducible refine Keep.setCell ?_ (by first | (simp; done) | (simp; omega) | (left; dsimp only; omega)) _)))
  have lbg : b < z7 ∧ g < z7 := by obtain ⟨t, la, h⟩ := HA4.out; have h1 := lt_of_block h.head; have h2 := lt_of_block h.row; omega
  have hA5 : ∃ t la, Arn w5 b g reap0 t la := by obtain ⟨t, la, h⟩ := HA4.out; exact ⟨t, la, h.keep K5 (by simp) (by simp)⟩
  have HA5 := Lib.hid hA5; have HB7 := Lib.hid b7; have HK5 := Lib.hid (HK4.out.trans K5)
  clear hw5 K5 hA5 b7 hz7 HA4 HK4
  refine (HRP.out w5 b g HA5.out).mono ?_
  rintro e w6 ⟨rfl, ⟨t6, la6, A6⟩, K6⟩
  have hb6 := K6.get HB7.out (by simp; omega)
  have c7 := cell_at hb6; have l7 := lt_of_block hb6
  have HA6 := Lib.hid A6; have HB6 := Lib.hid hb6; have HK6 := Lib.hid (HK5.out.fresh K6 (by have := HBG.out; simp; omega))
  clear A6 K6 hb6
  go_wp2_with fail
  refine (HST.out w6).mono ?_
  rintro e w7 ⟨rfl, K7⟩
  have A7 := HA6.out.keep K7 (by simp) (by simp); have hb7 := K7.get HB6.out (by simp); have HK7 := Lib.hid (HK6.out.trans K7)
  clear K7 c7 l7
  go_wp2_with fail
  refine (HRA.out w7 b g _ _ A7).mono ?_
  rintro e w8 ⟨rfl, A8, K8⟩
  have hb8 := K8.get hb7 (by simp; omega); have HK8 := Lib.hid (HK7.out.fresh K8 (by have := HBG.out; simp; omega))
  clear A7 K8 hb7
  go_wp2_with fail
  refine (HTA.out w8).mono ?_
  rintro e w9 ⟨rfl, K9⟩
  have A9 := A8.keep K9 (by simp) (by simp); have hb9 := K9.get hb8 (by simp); have HK9 := Lib.hid (HK8.out.trans K9)
  have c9 := cell_at hb9; have l9 := lt_of_block hb9
  have HA9 := Lib.hid A9; have HB9 := Lib.hid hb9
  clear A8 K9 hb8 A9 hb9
  go_wp2_with fail
  obtain ⟨z9, hz9⟩ : ∃ y, y = w9.heap.size := ⟨_, rfl⟩
  simp only [← hz9]
  generalize hw10 : World.alloc _ _ = w10
  have bx : w10.heap[z9]? = some (.cells #[.int .u8 0, .int .u8 0, .bool false, .bool false, .int .u8 0, .int .u8 0, .int .u8 0] 100 (0, 0)) := by rw [← hw10]; exact alloc_new _ _ _ hz9
  have K10 : Keep [] w9 w10 := by rw [← hw10]; exact (by repeat (first | (with_reducible exact Keep.refl _ _) | (with_reducible refine Keep.drew ?_) | (with_reducible refine Keep.drewN ?_ _) | (with_reducible refine Keep.alloc ?_ _) | (with_reducible refine Keep.setCell ?_ (by first | (simp; done) | (simp; omega) | (left; dsimp only; omega)) _)))
  have lb9 : b < z9 ∧ g < z9 := by have h1 := lt_of_block HA9.out.head; have h2 := lt_of_block HA9.out.row; omega
  have HA10 := Lib.hid (HA9.out.keep K10 (by simp) (by simp)); have HK10 := Lib.hid (HK9.out.trans K10); have HB10 := Lib.hid (K10.get HB9.out (by simp)); have HX10 := Lib.hid bx
  clear hw10 K10 bx hz9 c9 l9
  refine (HST.out w10).mono ?_
  rintro e w11 ⟨rfl, K11⟩
  have HA11 := Lib.hid (HA10.out.keep K11 (by simp) (by simp)); have HK11 := Lib.hid (HK10.out.trans K11); have HX11 := Lib.hid (K11.get HX10.out (by simp))
  clear K11
  go_wp2_with fail
  refine (HRB.out w11 b g _ _ HA11.out).mono ?_
  rintro e w12 ⟨rfl, A12, K12⟩
  have HA12 := Lib.hid A12; have HK12 := Lib.hid (HK11.out.fresh K12 (by have := HBG.out; simp; omega)); have HX12 := Lib.hid (K12.get HX11.out (by simp; omega))
  clear A12 K12
  go_wp2_with fail
  refine (HTB.out w12).mono ?_
  rintro e w13 ⟨rfl, K13⟩
  have HA13 := Lib.hid (HA12.out.keep K13 (by simp) (by simp)); have HK13 := Lib.hid (HK12.out.trans K13); have HX13 := Lib.hid (K13.get HX12.out (by simp))
  clear K13
  have cx := cell_at HX13.out; have lx := lt_of_block HX13.out
  go_wp2_with fail
  generalize hw14 : World.alloc _ _ = w14
  have K14 : Keep [] w13 w14 := by rw [← hw14]; exact (by repeat (first | (with_reducible exact Keep.refl _ _) | (with_reducible refine Keep.drew ?_) | (with_reducible refine Keep.drewN ?_ _) | (with_reducible refine Keep.alloc ?_ _) | (with_reducible refine Keep.setCell ?_ (by first | (simp; done) | (simp; omega) | (left; dsimp only; omega)) _)))
  have HA14 := Lib.hid (HA13.out.keep K14 (by simp) (by simp)); have HK14 := Lib.hid (HK13.out.trans K14)
  clear hw14 K14 cx lx
  refine (HRM.out w14 b g _ _ HA14.out).mono ?_
  rintro e w15 ⟨rfl, A15, K15⟩
  have HK15 := Lib.hid (HK14.out.fresh K15 (by have := HBG.out; simp; omega))
  clear A15 K15
  go_wp2_with fail
  exact hR.out _ _ ⟨rfl, HK15.out⟩

set_option maxRecDepth 100000 in
set_option maxHeartbeats 4000000 in
theorem reap_nil_law (c : Int) (w : World) : Calls Try.prog 11 #[.int .u8 c] w fun e w' => e = .returned (.bool true) ∧ Keep [] w w' := by
  refine calls_abs fun R hR => ?_
  have hln := fun w => layout_new 100 1 1 2 (by omega) (by omega) (by omega) (by omega) (by omega) (by omega) w
  have hrp := fun w => reap_nil (Lay.mk 1 1 2) c w
  unfold Lay.val at hln hrp
  dsimp only at hln hrp
  push_cast at hln hrp
  have HLN := Lib.hid hln; have HRP := Lib.hid hrp
  clear hln hrp
  go_enter Try.func11, Try.ntmps11
  go_wp2_with fail
  refine (HLN.out w).mono ?_
  rintro e w1 ⟨rfl, K1⟩
  go_wp2_with fail
  generalize hw2 : World.alloc _ _ = w2
  have K2 : Keep [] w w2 := by rw [← hw2]; ((repeat (first | (with_reducible exact K1) | (with_reducible refine Keep.drew ?_) | (with_reducible refine Keep.drewN ?_ _) | (with_reducible refine Keep.alloc ?_ _) | ((with_reducible refine Keep.setCell ?_ ?_ _); rotate_left; focus (first | (simp; done) | (simp; omega) | (left; dsimp only; omega))))); done)
  refine (HRP.out w2).mono ?_
  rintro e w3 ⟨rfl, K3⟩
  have HK3 := Lib.hid (K2.trans K3)
  clear hw2 K1 K2 K3
  go_wp2_with fail
  refine (law22_wakes w3).mono ?_
  rintro e w4 ⟨rfl, K4⟩
  go_wp2_with fail
  exact hR.out _ _ ⟨rfl, HK3.out.trans K4⟩
end Go.Proofs.Ytnadiddaeolanaa
