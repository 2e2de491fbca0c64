/- demesnelaw14.wakes is true. Written by wip/gen_wakes14.py. -/
import Derived.Test.YtnadiddaeolanaaStep14
namespace Go.Proofs.Ytnadiddaeolanaa
open Go.RowKit
set_option linter.unusedVariables false
set_option linter.unusedSimpArgs false
theorem w14_claim_1_3 (b g : Nat) (w : World) (t : Int) (E : List Int) (h : Ga w b g 2 3 E t) :
    Calls Try.prog 36 #[arnV b, layV 2, .int .i64 1] w fun e w' => e = .returned (.tuple #[.int .i64 0, .bool true]) ∧ (∃ t' E', Ga w' b g 2 2 E' t') ∧ Keep [b, g] w w' := by
  refine (ga_claim h 1).mono ?_
  rintro e w' ⟨rfl, ⟨t', hA, -⟩, hK⟩
  rw [show findN 3 1 = some 0 from by decide]
  rw [show claimV 3 1 = 2 from by decide] at hA
  exact ⟨rfl, ⟨t', E, hA⟩, hK⟩
theorem w14_claim_2_2 (b g : Nat) (w : World) (t : Int) (E : List Int) (h : Ga w b g 2 2 E t) :
    Calls Try.prog 36 #[arnV b, layV 2, .int .i64 2] w fun e w' => e = .returned (.tuple #[.int .i64 0, .bool false]) ∧ (∃ t' E', Ga w' b g 2 2 E' t') ∧ Keep [b, g] w w' := by
  refine (ga_claim h 2).mono ?_
  rintro e w' ⟨rfl, ⟨t', hA, -⟩, hK⟩
  rw [show findN 2 2 = none from by decide]
  rw [show claimV 2 2 = 2 from by decide] at hA
  exact ⟨rfl, ⟨t', E, hA⟩, hK⟩
theorem w14_claim_1_2 (b g : Nat) (w : World) (t : Int) (E : List Int) (h : Ga w b g 2 2 E t) :
    Calls Try.prog 36 #[arnV b, layV 2, .int .i64 1] w fun e w' => e = .returned (.tuple #[.int .i64 1, .bool true]) ∧ (∃ t' E', Ga w' b g 2 0 E' t') ∧ Keep [b, g] w w' := by
  refine (ga_claim h 1).mono ?_
  rintro e w' ⟨rfl, ⟨t', hA, -⟩, hK⟩
  rw [show findN 2 1 = some 1 from by decide]
  rw [show claimV 2 1 = 0 from by decide] at hA
  exact ⟨rfl, ⟨t', E, hA⟩, hK⟩
theorem w14_claim_1_0 (b g : Nat) (w : World) (t : Int) (E : List Int) (h : Ga w b g 2 0 E t) :
    Calls Try.prog 36 #[arnV b, layV 2, .int .i64 1] w fun e w' => e = .returned (.tuple #[.int .i64 0, .bool false]) ∧ (∃ t' E', Ga w' b g 2 0 E' t') ∧ Keep [b, g] w w' := by
  refine (ga_claim h 1).mono ?_
  rintro e w' ⟨rfl, ⟨t', hA, -⟩, hK⟩
  rw [show findN 0 1 = none from by decide]
  rw [show claimV 0 1 = 0 from by decide] at hA
  exact ⟨rfl, ⟨t', E, hA⟩, hK⟩
theorem w14_claim_1_1 (b g : Nat) (w : World) (t : Int) (E : List Int) (h : Ga w b g 2 1 E t) :
    Calls Try.prog 36 #[arnV b, layV 2, .int .i64 1] w fun e w' => e = .returned (.tuple #[.int .i64 0, .bool true]) ∧ (∃ t' E', Ga w' b g 2 0 E' t') ∧ Keep [b, g] w w' := by
  refine (ga_claim h 1).mono ?_
  rintro e w' ⟨rfl, ⟨t', hA, -⟩, hK⟩
  rw [show findN 1 1 = some 0 from by decide]
  rw [show claimV 1 1 = 0 from by decide] at hA
  exact ⟨rfl, ⟨t', E, hA⟩, hK⟩
theorem w14_back (b g : Nat) (w : World) (t : Int) (E : List Int) (h : Ga w b g 2 0 E t) :
    Calls Try.prog 38 #[arnV b, layV 2, .int .i64 0, .int .i64 1] w fun e w' => e = .returned (.tuple #[]) ∧ (∃ t' E', Ga w' b g 2 1 E' t') ∧ Keep [b, g] w w' := by
  refine (ga_back (by decide) h 0 1).mono ?_
  rintro e w' ⟨rfl, ⟨t', hA, -⟩, hK⟩
  rw [show backM 2 0 0 1 = 1 from by decide] at hA
  exact ⟨rfl, ⟨t', _, hA⟩, hK⟩
theorem w14_begin (b g : Nat) (w : World) (t la : Int) (h : Arn w b g (List.replicate (5 + 33 * 2) 0) t la) :
    Calls Try.prog 34 #[arnV b, layV 2] w fun e w' => e = .returned (.tuple #[]) ∧ (∃ t' E', Ga w' b g 2 3 E' t') ∧ Keep [b, g] w w' := by
  refine (ga_begin (n := 2) (by decide) h).mono ?_
  rintro e w' ⟨rfl, ⟨t', hA⟩, hK⟩
  rw [show allN 2 = 3 from by decide] at hA
  exact ⟨rfl, ⟨t', _, hA⟩, hK⟩
set_option maxRecDepth 100000 in
set_option maxHeartbeats 4000000 in
theorem law14_wakes (w : World) : Calls Try.prog 32 #[] w fun e w' => e = .returned (.bool true) ∧ Keep [] w w' := by
  refine calls_abs fun R hR => ?_
  have hbe := w14_begin; have hba := w14_back
  have hc1_0 := w14_claim_1_0
  have hc1_1 := w14_claim_1_1
  have hc1_2 := w14_claim_1_2
  have hc1_3 := w14_claim_1_3
  have hc2_2 := w14_claim_2_2
  have hmade := law14_made 2 (by decide)
  simp only [arnV, layV, Int.cast_ofNat_Int] at hbe hba hmade hc1_0 hc1_1 hc1_2 hc1_3 hc2_2
  have HBE := Lib.hid hbe; have HBA := Lib.hid hba; have HC1_0 := Lib.hid hc1_0; have HC1_1 := Lib.hid hc1_1; have HC1_2 := Lib.hid hc1_2; have HC1_3 := Lib.hid hc1_3; have HC2_2 := Lib.hid hc2_2
  clear hbe hba hc1_0 hc1_1 hc1_2 hc1_3 hc2_2
  have HM := Lib.hid hmade
  clear hmade
  go_enter Try.func32, Try.ntmps32
  go_wp2_with fail
  refine (HM.out w).mono ?_
  rintro e w1 ⟨b, g, rfl, A1, K1, hb, hg⟩
  have HA1 := Lib.hid A1; have HK1 := Lib.hid K1; have HBG := Lib.hid (And.intro hb hg)
  clear A1 K1 hb hg
  go_wp2_with fail
  obtain ⟨z, hz⟩ : ∃ z, z = w1.heap.size := ⟨_, rfl⟩
  simp only [← hz]
  generalize hw2 : World.alloc _ _ = w2
  have b2 : w2.heap[z]? = some (.cells #[.int .i64 1, .int .i64 1, .int .i64 2] 53 (0, 0)) := by rw [← hw2]; exact alloc_new _ _ _ hz
  have K2 : Keep [] w1 w2 := by rw [← hw2]; exact (by repeat (first | (with_reducible exact Keep.refl _ _) | (with_reducible refine Keep.drew ?_) | (with_reducible refine Keep.drewN ?_ _) | (with_reducible refine Keep.alloc ?_ _) | (with_reducible refine Keep.setCell ?_ (by first | (simp; done) | (simp; omega) | (left; dsimp only; omega)) _)))
  have c2 := cell_at b2; have l2 := lt_of_block b2
  have hzb : z ≠ b ∧ z ≠ g := by have := lt_of_block HA1.out.head; have := lt_of_block HA1.out.row; omega
  have HB2 := Lib.hid b2; have HA2 := Lib.hid (HA1.out.keep K2 (by simp) (by simp)); have HK2 := Lib.hid (HK1.out.trans K2)
  clear b2 K2 hw2 hz
  refine (HBE.out b g w2 _ _ HA2.out).mono ?_
  rintro e w3 ⟨rfl, ⟨t3, E3, A3⟩, K3⟩
  have b3 := K3.get HB2.out (by simp; omega); have c3 := cell_at b3; have l3 := lt_of_block b3
  have HB3 := Lib.hid b3; have HA3 := Lib.hid A3; have HK3 := Lib.hid (HK2.out.fresh K3 (by have := HBG.out; simp; omega))
  clear b3 A3 K3 c2 l2
  go_wp2_with fail
  refine (HC1_3.out b g w3 _ _ HA3.out).mono ?_
  rintro e w4 ⟨rfl, ⟨t4, E4, A4⟩, K4⟩
  have b4 := K4.get HB3.out (by simp; omega); have c4 := cell_at b4; have l4 := lt_of_block b4
  have HB4 := Lib.hid b4; have HA4 := Lib.hid A4; have HK4 := Lib.hid (HK3.out.fresh K4 (by have := HBG.out; simp; omega))
  clear b4 A4 K4 c3 l3
  go_wp2_with fail
  refine (HC2_2.out b g w4 _ _ HA4.out).mono ?_
  rintro e w5 ⟨rfl, ⟨t5, E5, A5⟩, K5⟩
  have b5 := K5.get HB4.out (by simp; omega); have c5 := cell_at b5; have l5 := lt_of_block b5
  have HB5 := Lib.hid b5; have HA5 := Lib.hid A5; have HK5 := Lib.hid (HK4.out.fresh K5 (by have := HBG.out; simp; omega))
  clear b5 A5 K5 c4 l4
  go_wp2_with fail
  refine (HC1_2.out b g w5 _ _ HA5.out).mono ?_
  rintro e w6 ⟨rfl, ⟨t6, E6, A6⟩, K6⟩
  have b6 := K6.get HB5.out (by simp; omega); have c6 := cell_at b6; have l6 := lt_of_block b6
  have HB6 := Lib.hid b6; have HA6 := Lib.hid A6; have HK6 := Lib.hid (HK5.out.fresh K6 (by have := HBG.out; simp; omega))
  clear b6 A6 K6 c5 l5
  go_wp2_with fail
  refine (HC1_0.out b g w6 _ _ HA6.out).mono ?_
  rintro e w7 ⟨rfl, ⟨t7, E7, A7⟩, K7⟩
  have b7 := K7.get HB6.out (by simp; omega); have c7 := cell_at b7; have l7 := lt_of_block b7
  have HB7 := Lib.hid b7; have HA7 := Lib.hid A7; have HK7 := Lib.hid (HK6.out.fresh K7 (by have := HBG.out; simp; omega))
  clear b7 A7 K7 c6 l6
  go_wp2_with fail
  refine (HBA.out b g w7 _ _ HA7.out).mono ?_
  rintro e w8 ⟨rfl, ⟨t8, E8, A8⟩, K8⟩
  have b8 := K8.get HB7.out (by simp; omega); have c8 := cell_at b8; have l8 := lt_of_block b8
  have HB8 := Lib.hid b8; have HA8 := Lib.hid A8; have HK8 := Lib.hid (HK7.out.fresh K8 (by have := HBG.out; simp; omega))
  clear b8 A8 K8 c7 l7
  go_wp2_with fail
  refine (HC1_1.out b g w8 _ _ HA8.out).mono ?_
  rintro e w9 ⟨rfl, ⟨t9, E9, A9⟩, K9⟩
  have b9 := K9.get HB8.out (by simp; omega); have c9 := cell_at b9; have l9 := lt_of_block b9
  have HB9 := Lib.hid b9; have HA9 := Lib.hid A9; have HK9 := Lib.hid (HK8.out.fresh K9 (by have := HBG.out; simp; omega))
  clear b9 A9 K9 c8 l8
  go_wp2_with fail
  exact hR.out _ _ ⟨rfl, by ((repeat (first | (with_reducible exact HK9.out) | (with_reducible refine Keep.drew ?_) | (with_reducible refine Keep.drewN ?_ _) | (with_reducible refine Keep.alloc ?_ _) | ((with_reducible refine Keep.setCell ?_ ?_ _); rotate_left; focus (first | (simp; done) | (simp; omega) | (left; dsimp only; omega))))); done)⟩
end Go.Proofs.Ytnadiddaeolanaa
