/- The known heap of stage 16: wakes. -/
import Derived.Test.YtnadiddaeolanaaThings
namespace Go.Proofs.Ytnadiddaeolanaa
open Go.RowKit
set_option linter.unusedVariables false
set_option linter.unusedSimpArgs false

theorem rd_block {w : World} {b : Nat} {cs : Array Value} {t : TypeId} {fr : Nat × Nat} (hb : w.heap[b]? = some (.cells cs t fr)) (hu : ∀ u ∈ cs.toList, u.oneCell' = true) (n : Nat) (hn : n ≤ maxLen) : Rd w (.slice (some ⟨b, 0, none⟩) n n) n cs.toList := by
  refine ⟨_, _, rfl, Nat.le_refl _, hn, by simp, hu, fun a ha i v hv => ?_⟩
  cases ha
  rw [show (⟨b, 0, none⟩ : Addr).add i = ⟨b, i, none⟩ from by rw [Addr.add_lit, Nat.zero_add], cell_at hb]
  simpa using hv

/-- Publishing by a clock. -/
def pubRun (c : Int) : Nat → List Int × List Int → Option (List Int)
  | 0, _ => none
  | n + 1, s => if s.2.isEmpty then some s.1 else pubRun c n (pubStep c s)
theorem PubTo.eq {c : Int} {s : List Int × List Int} {W : List Int} (h : PubTo c s W) : ∀ (n : Nat) (V : List Int), pubRun c n s = some V → W = V := by
  induction h with
  | done W =>
    intro n V hV
    cases n with
    | zero => cases hV
    | succ n => simpa [pubRun] using hV
  | step s W hs k ih =>
    intro n V hV
    cases n with
    | zero => cases hV
    | succ n =>
      unfold pubRun at hV
      rw [if_neg (by cases h : s.2 with | nil => exact absurd h hs | cons a l => simp)] at hV
      exact ih n V hV

def kin : List Th := [⟨⟨2, 0, false, false, 0, 2, 2⟩, 2, 3, 0⟩, ⟨⟨2, 0, false, false, 0, 2, 2⟩, 1, 0, 0⟩, ⟨⟨3, 0, false, false, 0, 0, 0⟩, 0, 0, 0⟩]
theorem kin_ok : ∀ t ∈ kin, t.u8 := by
  intro t ht
  simp only [kin, List.mem_cons, List.not_mem_nil, or_false] at ht
  rcases ht with rfl | rfl | rfl <;> (unfold Th.u8 Hd.u8; decide)
theorem kin_words : wordsOf kin = [0, 528386, 5, 9, 0, 528386, 1, 0, 0, 3, 0, 0, 0] := by decide
theorem kin_pub : pubRun 1 5 (turnWs [0, 528386, 5, 9, 0, 528386, 1, 0, 0, 3, 0, 0, 0] 1 1, turnQ [0, 528386, 5, 9, 0, 528386, 1, 0, 0, 3, 0, 0, 0] [] 1) = some [0, 528391, 5, 9, 0, 528391, 1, 0, 0, 3, 0, 0, 0] := by decide +kernel

theorem words_of_all {W : List Int} (h : ∀ x ∈ W, 0 ≤ x ∧ x < 18446744073709551616) : Words W := fun j => by
  cases hi : inr W.length j with
  | false => rw [rdz_out hi]; decide
  | true =>
    obtain ⟨i, rfl, hlt⟩ := inr_true hi
    rw [rdz_nat hlt]
    exact h _ (List.getElem_mem hlt)
def kinA : List Int := [0, 528386, 5, 9, 0, 528386, 1, 0, 0, 3, 0, 0, 0]
def kinB : List Int := [0, 528391, 5, 9, 0, 528391, 1, 0, 0, 3, 0, 0, 0]

set_option maxRecDepth 100000 in
set_option maxHeartbeats 4000000 in
theorem law16_wakes (w : World) :
    Calls Try.prog 17 #[] w fun e w' => e = .returned (.bool true) ∧ Keep [] w w' := by
  refine calls_abs fun R hR => ?_
  go_enter Try.func17, Try.ntmps17
  go_wp2_with fail
  generalize hw1 : World.alloc (World.alloc w _) _ = w1
  have b1 : w1.heap[w.heap.size + 1]? = some (.cells #[.int .u8 2, .int .u8 0, .bool false, .bool false, .int .u8 0, .int .u8 2, .int .u8 2, .int .u8 2, .int .u8 3, .int .u8 0, .int .u8 2, .int .u8 0, .bool false, .bool false, .int .u8 0, .int .u8 2, .int .u8 2, .int .u8 1, .int .u8 0, .int .u8 0, .int .u8 3, .int .u8 0, .bool false, .bool false, .int .u8 0, .int .u8 0, .int .u8 0, .int .u8 0, .int .u8 0, .int .u8 0] 125 (0, 0)) := by rw [← hw1]; exact alloc_new _ _ _ (by simp)
  have K1 : Keep [] w w1 := by rw [← hw1]; exact (by repeat (first | (with_reducible exact Keep.refl _ _) | (with_reducible refine Keep.drew ?_) | (with_reducible refine Keep.drewN ?_ _) | (with_reducible refine Keep.alloc ?_ _) | (with_reducible refine Keep.setCell ?_ (by first | (simp; done) | (simp; omega) | (left; dsimp only; omega)) _)))
  have hs1 : w1.heap.size = w.heap.size + 2 := by rw [← hw1]; simp
  clear hw1
  have hths : Ths w1 (.slice (some ⟨w.heap.size + 1, 0, none⟩) 3 3) kin := ⟨rd_block b1 (by simp [Value.oneCell']) 3 (by simp [maxLen]), kin_ok⟩
  refine (law16_words hths (by simp [kin])).mono ?_
  rintro e w2 ⟨v2, rfl, K2, hown⟩
  have hk : okAll kin = true := by decide
  have hown := hown hk
  rw [hk]
  rw [kin_words] at hown
  have hrd := Rd.of_owns hown (by simp [u64s, Value.oneCell'])
  change Rd w2 v2 13 (u64s kinA) at hrd
  have HK2 := Lib.hid (K1.trans K2)
  have HRD := Lib.hid hrd
  clear K1 K2 hown hk hths b1 hs1 hrd
  go_wp2_with fail
  refine (law16_made HRD.out rfl (by omega) (by omega)).mono ?_
  rintro e w3 ⟨b, g, t, l, rfl, A3, K3, hb, hg⟩
  have HA3 := Lib.hid A3
  have HK3 := Lib.hid (HK2.out.trans K3)
  have hbl : b < w3.heap.size := lt_of_block A3.head
  have HB : Hid (w.heap.size ≤ b ∧ w.heap.size ≤ g) := by have := HK2.out.size; exact ⟨by omega, by omega⟩
  clear A3 K3 hb hg
  go_wp2_with fail
  generalize hw4 : World.alloc w3 _ = w4
  have b4 : w4.heap[w3.heap.size]? = some (.cells #[.slice none 0 0] 22 (0, 0)) := by rw [← hw4]; exact alloc_new _ _ _ rfl
  have K4 : Keep [] w3 w4 := by rw [← hw4]; exact (by repeat (first | (with_reducible exact Keep.refl _ _) | (with_reducible refine Keep.drew ?_) | (with_reducible refine Keep.drewN ?_ _) | (with_reducible refine Keep.alloc ?_ _) | (with_reducible refine Keep.setCell ?_ (by first | (simp; done) | (simp; omega) | (left; dsimp only; omega)) _)))
  have hs4 : w4.heap.size = w3.heap.size + 1 := by rw [← hw4]; simp
  clear hw4
  have hgl : g < w3.heap.size := lt_of_block HA3.out.row
  have hne : Hid (b ≠ w3.heap.size ∧ g ≠ w3.heap.size) := ⟨by omega, by omega⟩
  have hP : Pub w4 b g w3.heap.size (w3.heap.size + 1) (.slice none 0 0) kinA [] :=
    ⟨⟨t, l, HA3.out.keep K4 (by simp) (by simp)⟩, words_of_all (by decide), b4, Offs.nil _ _ _, by omega, by omega⟩
  have hkl := lt_of_block b4
  refine (publish_publish hP 1 (by omega) 1 (by omega)).mono ?_
  rintro e w5 ⟨v5, W5, rfl, P5, hto, hl5, PK5⟩
  obtain rfl := hto.eq 5 kinB kin_pub
  obtain ⟨⟨t5, l5, A5⟩, hW5, hk5, ho5, _, _⟩ := P5
  have hv5 : ∃ ao cap, v5 = .slice ao 0 cap := by obtain ⟨ao, cap, h, _⟩ := ho5.shape; exact ⟨ao, cap, h⟩
  obtain ⟨ao5, cap5, rfl⟩ := hv5
  have HA5 := Lib.hid A5
  have HK5 : Hid (Keep [] w w5) := (HK3.out.trans K4).fresh PK5.1 (by have := HB.out; have := HK3.out.size; simp [Value.ownBlock]; omega)
  have HP5 := Lib.hid hk5
  clear A5 hW5 hk5 ho5 hto PK5 hP K4 b4 HA3 HK3 hl5
  generalize hz : w3.heap.size = z at *
  clear hz
  go_wp2_with fail
  refine (law16_place 2 (by omega) w5).mono ?_
  rintro e w6 ⟨rfl, K6⟩
  have HA6 := Lib.hid (HA5.out.keep K6 (by simp) (by simp)); have HK6 := Lib.hid (HK5.out.trans K6); have HP6 := Lib.hid (K6.get HP5.out (by simp))
  clear K6 HA5 HP5
  go_wp2_with fail
  refine (arena_read HA6.out 5 5 rfl (by simp [kinB])).mono ?_
  rintro e w7 ⟨rfl, A7, K7⟩
  have HA7 := Lib.hid A7; have HK7 := Lib.hid (HK6.out.fresh K7 (by have := HB.out; simp; omega)); have HP7 := Lib.hid (K7.get HP6.out (by have := hne.out; simp; omega))
  clear A7 K7
  go_wp2_with fail
  refine (word_take 528391 (by decide) _).mono ?_
  rintro e w8 ⟨rfl, K8⟩
  rw [show (takeH 528391).val = .agg #[.int .u8 3, .int .u8 1, .bool false, .bool false, .int .u8 0, .int .u8 2, .int .u8 2] from by kernel_rfl, show (if isHd 528391 = true then (0 : Int) else 3) = 0 from by decide]
  have HA8 := Lib.hid (HA7.out.keep K8 (by simp) (by simp)); have HK8 := Lib.hid (HK7.out.trans K8); have HP8 := Lib.hid (K8.get HP7.out (by simp))
  clear K8
  go_wp2_with fail
  generalize hw9 : World.alloc w8 _ = w9
  have b9 : w9.heap[w8.heap.size]? = some (.cells #[.int .u8 3, .int .u8 1, .bool false, .bool false, .int .u8 0, .int .u8 2, .int .u8 2] 100 (0, 0)) := by rw [← hw9]; exact alloc_new _ _ _ rfl
  have K9 : Keep [] w8 w9 := by rw [← hw9]; exact (by repeat (first | (with_reducible exact Keep.refl _ _) | (with_reducible refine Keep.drew ?_) | (with_reducible refine Keep.drewN ?_ _) | (with_reducible refine Keep.alloc ?_ _) | (with_reducible refine Keep.setCell ?_ (by first | (simp; done) | (simp; omega) | (left; dsimp only; omega)) _)))
  clear hw9
  have hB9 := HB.out
  have hne9 : b ≠ w8.heap.size ∧ g ≠ w8.heap.size := ⟨by have := lt_of_block HA8.out.head; omega, by have := lt_of_block HA8.out.row; omega⟩
  have HA9 := Lib.hid (HA8.out.keep K9 (by simp) (by simp)); have HK9 := Lib.hid (HK8.out.trans K9); have HP9 := Lib.hid (K9.get HP8.out (by simp))
  clear K9
  refine (law16_place 3 (by omega) w9).mono ?_
  rintro e w10 ⟨rfl, K10⟩
  have HA10 := Lib.hid (HA9.out.keep K10 (by simp) (by simp)); have HK10 := Lib.hid (HK9.out.trans K10); have HP10 := Lib.hid (K10.get HP9.out (by simp)); have b10 := K10.get b9 (by simp)
  clear K10 b9
  go_wp2_with fail
  refine (arena_read HA10.out 9 9 rfl (by simp [kinB])).mono ?_
  rintro e w11 ⟨rfl, A11, K11⟩
  have HA11 := Lib.hid A11; have HK11 := Lib.hid (HK10.out.fresh K11 (by simp; omega)); have HP11 := Lib.hid (K11.get HP10.out (by have := hne.out; simp; omega)); have b11 := K11.get b10 (by simp; omega)
  clear A11 K11 b10
  go_wp2_with fail
  refine (word_take 3 (by decide) _).mono ?_
  rintro e w12 ⟨rfl, K12⟩
  rw [show (takeH 3).val = .agg #[.int .u8 3, .int .u8 0, .bool false, .bool false, .int .u8 0, .int .u8 0, .int .u8 0] from by kernel_rfl, show (if isHd 3 = true then (0 : Int) else 3) = 0 from by decide]
  have hk12 := HK11.out.trans K12
  have b12 := K12.get b11 (by simp)
  have p12 := K12.get HP11.out (by simp)
  have c12 := cell_at b12
  have d12 := cell_at p12
  have l12 := lt_of_block b12
  have m12 := lt_of_block p12
  have HK12 := Lib.hid hk12
  clear hk12 K12 b11 b12 p12 hne9 hB9
  generalize hz2 : w8.heap.size = z2 at *
  clear hz2
  go_wp2_with fail
  exact hR.out _ _ ⟨rfl, by ((repeat (first | (with_reducible exact HK12.out) | (with_reducible refine Keep.drew ?_) | (with_reducible refine Keep.drewN ?_ _) | (with_reducible refine Keep.alloc ?_ _) | ((with_reducible refine Keep.setCell ?_ ?_ _); rotate_left; focus (first | (simp; done) | (simp; omega) | (left; dsimp only; omega))))); done)⟩
end Go.Proofs.Ytnadiddaeolanaa
