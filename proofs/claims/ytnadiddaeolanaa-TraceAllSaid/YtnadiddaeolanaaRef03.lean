/- Layers 3 and 6 of the document's answer: contracts. -/
import Derived.Test.YtnadiddaeolanaaPass
import Derived.Test.YtnadiddaeolanaaBits
namespace Go.Proofs.Ytnadiddaeolanaa
open Go.RowKit
set_option linter.unusedVariables false
set_option linter.unusedSimpArgs false

def intsV (xs : List Int) : List Value := xs.map (Value.int .i64)
theorem intsV_get (xs : List Int) (i : Nat) : (intsV xs)[i]? = xs[i]?.map (Value.int .i64) := by simp [intsV]
theorem intsV_len (xs : List Int) : (intsV xs).length = xs.length := by simp [intsV]
/-- Where cells of a class begin. -/
def startsC (c : Int) : List Int := (List.range (cellsC c)).map fun i : Nat => (i : Int) * wordsC c
theorem startsC_len (c : Int) : (startsC c).length = cellsC c := by simp [startsC]

set_option maxRecDepth 100000 in
theorem ref03_words (c : Int) (w : World) :
    Calls Try.prog 106 #[.int .i64 c] w fun x w' => x = .returned (.int .i64 (wordsC c)) ∧ w' = w := by
  refine calls_abs fun R hR => ?_
  have hw : wordsC c = if c = 0 then 2 else if c = 1 then 3 else if c = 2 then 5 else if c = 3 then 9 else 0 := rfl
  rw [hw] at hR
  clear hw
  by_cases h0 : c = 0
  · subst h0
    go_enter Try.func106, Try.ntmps106
    go_wp2_with fail
    exact hR.out _ _ ⟨rfl, rfl⟩
  have q0 : (c == 0) = false := by simp [h0]
  rw [if_neg h0] at hR
  by_cases h1 : c = 1
  · subst h1
    go_enter Try.func106, Try.ntmps106
    go_wp2_with fail
    exact hR.out _ _ ⟨rfl, rfl⟩
  have q1 : (c == 1) = false := by simp [h1]
  rw [if_neg h1] at hR
  by_cases h2 : c = 2
  · subst h2
    go_enter Try.func106, Try.ntmps106
    go_wp2_with fail
    exact hR.out _ _ ⟨rfl, rfl⟩
  have q2 : (c == 2) = false := by simp [h2]
  rw [if_neg h2] at hR
  by_cases h3 : c = 3
  · subst h3
    go_enter Try.func106, Try.ntmps106
    go_wp2_with fail
    exact hR.out _ _ ⟨rfl, rfl⟩
  have q3 : (c == 3) = false := by simp [h3]
  rw [if_neg h3] at hR
  go_enter Try.func106, Try.ntmps106
  go_wp2_with fail
  exact hR.out _ _ ⟨rfl, rfl⟩

theorem class_fits (c : Int) : (wordsC c = 0 ∧ cellsC c = 0) ∨ (1 ≤ wordsC c ∧ ∀ q : Nat, (q < cellsC c ↔ (q : Int) * wordsC c + wordsC c ≤ 32)) := by
  unfold wordsC cellsC
  repeat' split
  all_goals first | (left; exact ⟨rfl, rfl⟩) | (right; refine ⟨by omega, fun q => by omega⟩)

set_option maxRecDepth 100000 in
set_option maxHeartbeats 4000000 in
theorem ref03_starts (c : Int) (w : World) :
    Calls Try.prog 107 #[.int .i64 c] w fun x w' => ∃ v, x = .returned v ∧ w'.ownsRow w.heap.size 3 1 v (cellsC c) (intsV (startsC c)) ∧ Keep [] w w' := by
  refine calls_abs fun R hR => ?_
  have hcl := class_fits c
  have hcb := cellsC_le c
  have hwb := wordsC_bd c
  have hrw := fun w => ref03_words c w
  have hst : startsC c = (List.range (cellsC c)).map fun i : Nat => (i : Int) * wordsC c := rfl
  rw [hst] at hR
  generalize wordsC c = n at *
  generalize cellsC c = C at *
  have HRW := Lib.hid hrw
  clear hrw hst
  rcases hcl with ⟨rfl, rfl⟩ | ⟨hn, hq⟩
  · go_enter Try.func107, Try.ntmps107
    go_wp2_with fail
    refine (HRW.out w).mono ?_
    rintro e w1 ⟨rfl, rfl⟩
    go_wp2_with fail
    go_loopg [3, 5] 0 (fun j s i wr => wr = w1 ∧ s = .slice none 0 0 ∧ i = .int .i64 0)
    case atStart => exact ⟨rfl, rfl, rfl⟩
    case round =>
      obtain ⟨rfl, rfl, rfl⟩ := hrel
      go_wp2_with fail
      exact hR.out _ _ ⟨_, rfl, by simpa [intsV] using World.ownsRow_nil wr wr.heap.size 3 1, Keep.refl _ _⟩
  · have HQ := Lib.hid hq
    clear hq
    have g1 : decide (n > 0) = true := by simp; omega
    have g2 : decide (0 < n) = true := by simp; omega
    have g3 : (0 : Int) < n := by omega
    go_enter Try.func107, Try.ntmps107
    go_wp2_with fail
    refine (HRW.out w).mono ?_
    rintro e w1 ⟨rfl, hw1⟩
    subst hw1
    go_wp2_with fail
    go_loopg [3, 5] C (fun j s i wr => ∃ (q : Nat) (ao : Option Addr) (cap : Nat), q + j = C ∧ i = .int .i64 ((q : Int) * n) ∧ s = .slice ao q cap ∧ wr.ownsRow w1.heap.size 3 1 (.slice ao q cap) q (intsV ((List.range q).map fun i : Nat => (i : Int) * n)) ∧ Keep [] w1 wr)
    case atStart => exact ⟨0, none, 0, by omega, by simp, rfl, by simpa [intsV] using World.ownsRow_nil w1 w1.heap.size 3 1, Keep.refl _ _⟩
    case round =>
      obtain ⟨q, ao, cap, hqj, rfl, rfl, how, hk⟩ := hrel
      have hmm : 0 ≤ (q : Int) * n ∧ (q : Int) * n ≤ 16 * 9 := by
        constructor
        · exact Int.mul_nonneg (by omega) (by omega)
        · exact Int.le_trans (Int.mul_le_mul_of_nonneg_right (by omega : (q : Int) ≤ 16) hwb.1) (by omega)
      have hsz := hk.size
      by_cases hqC : q < C
      · have hle := (HQ.out q).1 hqC
        have hnext : (((q + 1 : Nat) : Int)) * n = (q : Int) * n + n := by rw [Int.natCast_add, Int.add_mul]; simp
        have HOW := Lib.hid how; have HK := Lib.hid hk; have HNX := Lib.hid hnext
        clear how hk hnext
        generalize hm : (q : Int) * n = m at *
        have HM := Lib.hid hm
        clear hm
        have w1' : IntKind.i64.wrap (m + n) = m + n := by rw [IntKind.wrap_i64]; omega
        have g4 : decide (m + n ≤ 32) = true := by simp; omega
        go_wp2_with (at_builtin; go_loud (refine wpList_append_rd _ rfl _ _ _ rfl elem_int w1.heap.size (.slice ao q cap) q _ rfl (((by repeat (first | (with_reducible exact Keep.refl _ _) | (with_reducible refine Keep.drew ?_) | (with_reducible refine Keep.drewN ?_ _) | (with_reducible refine Keep.alloc ?_ _) | (with_reducible refine Keep.setCell ?_ (by first | (simp; done) | (simp; omega) | (left; dsimp only; omega)) _))) : Keep [] wr _).owns HOW.out (fun _ _ => by simp)) _ 1 [.int .i64 m] rfl (Rd.lit _ _ _ rfl) (by simp) (by simp only [maxLen]; omega) (by omega) (by simp; omega) ?_); intro ao' cap' w3 ho hg; go_loud (have hK3 : Keep [] w1 w3 := Keep.grown (w := wr.alloc _) (by repeat (first | (with_reducible exact HK.out) | (with_reducible refine Keep.drew ?_) | (with_reducible refine Keep.drewN ?_ _) | (with_reducible refine Keep.alloc ?_ _) | (with_reducible refine Keep.setCell ?_ (by first | (simp; done) | (simp; omega) | (left; dsimp only; omega)) _))) hg (fun g hg => .inl (owns_block HOW.out g hg).1); have HW3 := Lib.hid ho; have HK3 := Lib.hid hK3; clear ho hK3 hg))
        go_roundg (C - (q + 1))
        case measure => omega
        case rel =>
          refine ⟨q + 1, ao', cap', by omega, by rw [HNX.out], rfl, ?_, HK3.out⟩
          have h := HW3.out
          rw [List.range_succ, List.map_append, List.map_cons, List.map_nil, HM.out]
          simpa [intsV] using h
      · obtain rfl : q = C := by omega
        have hle : ¬ (q : Int) * n + n ≤ 32 := fun h => by have := (HQ.out q).2 h; omega
        have HOW := Lib.hid how; have HK := Lib.hid hk
        clear how hk
        generalize (q : Int) * n = m at *
        have w1' : IntKind.i64.wrap (m + n) = m + n := by rw [IntKind.wrap_i64]; omega
        have g4 : decide (m + n ≤ 32) = false := by simp; omega
        go_wp2_with fail
        exact hR.out _ _ ⟨_, rfl, HOW.out, HK.out⟩

set_option maxRecDepth 100000 in
theorem ref06_entry (l : Lay) (hl : l.fits) (i : Int) (w : World) :
    Calls Try.prog 104 #[l.val, .int .i64 i] w fun e w' => e = .returned (.int .i64 (l.entry i)) ∧ Keep [] w w' := by
  refine calls_abs fun R hR => ?_
  obtain ⟨h1, h2, h3⟩ := hl
  obtain ⟨t, g, b⟩ := l
  dsimp only at h1 h2 h3
  unfold Lay.val
  unfold Lay.entry spot at hR
  dsimp only at *
  by_cases i0 : i < 0
  · have q0 : decide (i < 0) = true := by simp; omega
    rw [if_neg (by omega)] at hR
    go_enter Try.func104, Try.ntmps104
    go_wp2_with fail
    exact hR.out _ _ ⟨rfl, (by repeat (first | (with_reducible exact Keep.refl _ _) | (with_reducible refine Keep.drew ?_) | (with_reducible refine Keep.drewN ?_ _) | (with_reducible refine Keep.alloc ?_ _) | (with_reducible refine Keep.setCell ?_ (by first | (simp; done) | (simp; omega) | (left; dsimp only; omega)) _)))⟩
  have q0 : decide (i < 0) = false := by simp; omega
  by_cases i1 : (b : Int) ≤ i
  · have q1 : decide ((b : Int) ≤ i) = true := by simp; omega
    rw [if_neg (by omega)] at hR
    go_enter Try.func104, Try.ntmps104
    go_wp2_with fail
    exact hR.out _ _ ⟨rfl, (by repeat (first | (with_reducible exact Keep.refl _ _) | (with_reducible refine Keep.drew ?_) | (with_reducible refine Keep.drewN ?_ _) | (with_reducible refine Keep.alloc ?_ _) | (with_reducible refine Keep.setCell ?_ (by first | (simp; done) | (simp; omega) | (left; dsimp only; omega)) _)))⟩
  have q1 : decide ((b : Int) ≤ i) = false := by simp; omega
  rw [if_pos (by omega), Int.mul_one] at hR
  have w1 : IntKind.i64.wrap ((3 : Int) + t) = 3 + t := by rw [IntKind.wrap_i64]; omega
  have w2 : IntKind.i64.wrap ((3 : Int) + t + g) = 3 + t + g := by rw [IntKind.wrap_i64]; omega
  have w3 : IntKind.i64.wrap ((3 : Int) + t + g + i) = 3 + t + g + i := by rw [IntKind.wrap_i64]; omega
  go_enter Try.func104, Try.ntmps104
  go_wp2_with fail
  exact hR.out _ _ ⟨rfl, (by repeat (first | (with_reducible exact Keep.refl _ _) | (with_reducible refine Keep.drew ?_) | (with_reducible refine Keep.drewN ?_ _) | (with_reducible refine Keep.alloc ?_ _) | (with_reducible refine Keep.setCell ?_ (by first | (simp; done) | (simp; omega) | (left; dsimp only; omega)) _)))⟩

set_option maxRecDepth 100000 in
theorem ref06_global (l : Lay) (hl : l.fits) (i : Int) (w : World) :
    Calls Try.prog 109 #[l.val, .int .i64 i] w fun e w' => e = .returned (.int .i64 (l.global i)) ∧ Keep [] w w' := by
  refine calls_abs fun R hR => ?_
  obtain ⟨h1, h2, h3⟩ := hl
  obtain ⟨t, g, b⟩ := l
  dsimp only at h1 h2 h3
  unfold Lay.val
  unfold Lay.global spot at hR
  dsimp only at *
  by_cases i0 : i < 0
  · have q0 : decide (i < 0) = true := by simp; omega
    rw [if_neg (by omega)] at hR
    go_enter Try.func109, Try.ntmps109
    go_wp2_with fail
    exact hR.out _ _ ⟨rfl, (by repeat (first | (with_reducible exact Keep.refl _ _) | (with_reducible refine Keep.drew ?_) | (with_reducible refine Keep.drewN ?_ _) | (with_reducible refine Keep.alloc ?_ _) | (with_reducible refine Keep.setCell ?_ (by first | (simp; done) | (simp; omega) | (left; dsimp only; omega)) _)))⟩
  have q0 : decide (i < 0) = false := by simp; omega
  by_cases i1 : (g : Int) ≤ i
  · have q1 : decide ((g : Int) ≤ i) = true := by simp; omega
    rw [if_neg (by omega)] at hR
    go_enter Try.func109, Try.ntmps109
    go_wp2_with fail
    exact hR.out _ _ ⟨rfl, (by repeat (first | (with_reducible exact Keep.refl _ _) | (with_reducible refine Keep.drew ?_) | (with_reducible refine Keep.drewN ?_ _) | (with_reducible refine Keep.alloc ?_ _) | (with_reducible refine Keep.setCell ?_ (by first | (simp; done) | (simp; omega) | (left; dsimp only; omega)) _)))⟩
  have q1 : decide ((g : Int) ≤ i) = false := by simp; omega
  rw [if_pos (by omega), Int.mul_one] at hR
  have w1 : IntKind.i64.wrap ((3 : Int) + t) = 3 + t := by rw [IntKind.wrap_i64]; omega
  have w3 : IntKind.i64.wrap ((3 : Int) + t + i) = 3 + t + i := by rw [IntKind.wrap_i64]; omega
  go_enter Try.func109, Try.ntmps109
  go_wp2_with fail
  exact hR.out _ _ ⟨rfl, (by repeat (first | (with_reducible exact Keep.refl _ _) | (with_reducible refine Keep.drew ?_) | (with_reducible refine Keep.drewN ?_ _) | (with_reducible refine Keep.alloc ?_ _) | (with_reducible refine Keep.setCell ?_ (by first | (simp; done) | (simp; omega) | (left; dsimp only; omega)) _)))⟩

set_option maxRecDepth 100000 in
theorem ref06_start (l : Lay) (hl : l.fits) (i : Int) (w : World) :
    Calls Try.prog 108 #[l.val, .int .i64 i] w fun e w' => e = .returned (.int .i64 (l.start i)) ∧ Keep [] w w' := by
  refine calls_abs fun R hR => ?_
  obtain ⟨h1, h2, h3⟩ := hl
  obtain ⟨t, g, b⟩ := l
  dsimp only at h1 h2 h3
  unfold Lay.val
  unfold Lay.start spot at hR
  dsimp only at *
  by_cases i0 : i < 0
  · have q0 : decide (i < 0) = true := by simp; omega
    rw [if_neg (by omega)] at hR
    go_enter Try.func108, Try.ntmps108
    go_wp2_with fail
    exact hR.out _ _ ⟨rfl, (by repeat (first | (with_reducible exact Keep.refl _ _) | (with_reducible refine Keep.drew ?_) | (with_reducible refine Keep.drewN ?_ _) | (with_reducible refine Keep.alloc ?_ _) | (with_reducible refine Keep.setCell ?_ (by first | (simp; done) | (simp; omega) | (left; dsimp only; omega)) _)))⟩
  have q0 : decide (i < 0) = false := by simp; omega
  by_cases i1 : (b : Int) ≤ i
  · have q1 : decide ((b : Int) ≤ i) = true := by simp; omega
    rw [if_neg (by omega)] at hR
    go_enter Try.func108, Try.ntmps108
    go_wp2_with fail
    exact hR.out _ _ ⟨rfl, (by repeat (first | (with_reducible exact Keep.refl _ _) | (with_reducible refine Keep.drew ?_) | (with_reducible refine Keep.drewN ?_ _) | (with_reducible refine Keep.alloc ?_ _) | (with_reducible refine Keep.setCell ?_ (by first | (simp; done) | (simp; omega) | (left; dsimp only; omega)) _)))⟩
  have q1 : decide ((b : Int) ≤ i) = false := by simp; omega
  rw [if_pos (by omega)] at hR
  have w1 : IntKind.i64.wrap ((3 : Int) + t) = 3 + t := by rw [IntKind.wrap_i64]; omega
  have w2 : IntKind.i64.wrap ((3 : Int) + t + g) = 3 + t + g := by rw [IntKind.wrap_i64]; omega
  have w3 : IntKind.i64.wrap ((3 : Int) + t + g + b) = 3 + t + g + b := by rw [IntKind.wrap_i64]; omega
  have w4 : IntKind.i64.wrap (32 * i) = i * 32 := by rw [IntKind.wrap_i64]; omega
  have w5 : IntKind.i64.wrap ((3 : Int) + t + g + b + i * 32) = 3 + t + g + b + i * 32 := by rw [IntKind.wrap_i64]; omega
  go_enter Try.func108, Try.ntmps108
  go_wp2_with fail
  exact hR.out _ _ ⟨rfl, (by repeat (first | (with_reducible exact Keep.refl _ _) | (with_reducible refine Keep.drew ?_) | (with_reducible refine Keep.drewN ?_ _) | (with_reducible refine Keep.alloc ?_ _) | (with_reducible refine Keep.setCell ?_ (by first | (simp; done) | (simp; omega) | (left; dsimp only; omega)) _)))⟩

set_option maxRecDepth 100000 in
set_option maxHeartbeats 4000000 in
/-- Of one thread and two roots. -/
theorem ref06_new (n : Nat) (hn : 1 ≤ n ∧ n ≤ 6) (w : World) :
    Calls Try.prog 103 #[.int .i64 ((6 + 33 * n : Nat) : Int), .int .i64 1, .int .i64 2] w fun e w' => e = .returned (.tuple #[(Lay.mk 1 2 n).val, .int .i64 0]) ∧ Keep [] w w' := by
  refine calls_abs fun R hR => ?_
  unfold Lay.val at hR
  dsimp only at hR
  obtain ⟨N, hN⟩ : ∃ N : Int, N = ((6 + 33 * n : Nat) : Int) := ⟨_, rfl⟩
  rw [← hN]
  have HN := Lib.hid hN
  have g1 : decide (N < 1) = false := by simp; omega
  have g2 : decide (4096 < N) = false := by simp; omega
  have g1' : ¬ N < 1 := by omega
  have g2' : ¬ 4096 < N := by omega
  clear hN
  go_enter Try.func103, Try.ntmps103
  go_wp2_with fail
  obtain ⟨z, hz⟩ : ∃ z, z = w.heap.size := ⟨_, rfl⟩
  simp only [← hz]
  generalize hw1 : World.alloc _ _ = w1
  have b1 : w1.heap[z]? = some (.cells #[.int .i64 0, .int .i64 0, .int .i64 0] 88 (0, 0)) := by rw [← hw1]; exact alloc_new _ _ _ hz
  have K1 : Keep [] w w1 := by rw [← hw1]; exact (by repeat (first | (with_reducible exact Keep.refl _ _) | (with_reducible refine Keep.drew ?_) | (with_reducible refine Keep.drewN ?_ _) | (with_reducible refine Keep.alloc ?_ _) | (with_reducible refine Keep.setCell ?_ (by first | (simp; done) | (simp; omega) | (left; dsimp only; omega)) _)))
  have HB1 := Lib.hid b1; have HK1 := Lib.hid K1; have HZ := Lib.hid hz
  have c1 := cell_at b1; have f1 := frozen_at b1; have l1 := lt_of_block b1
  clear hw1 b1 K1 hz
  go_loopg [8] n (fun j i wr => ∃ q : Nat, q + j = n ∧ i = .int .i64 q ∧ wr = w1)
  case atStart => exact ⟨0, by omega, rfl, rfl⟩
  case round =>
    obtain ⟨q, hqj, rfl, rfl⟩ := hrel
    have w1' : IntKind.i64.wrap ((q : Int) + 1) = q + 1 := by rw [IntKind.wrap_i64]; omega
    have w2' : IntKind.i64.wrap (33 * ((q : Int) + 1)) = 33 * (q + 1) := by rw [IntKind.wrap_i64]; omega
    have w3' : IntKind.i64.wrap (6 + 33 * ((q : Int) + 1)) = 6 + 33 * (q + 1) := by rw [IntKind.wrap_i64]; omega
    have g3 : (q : Int) < 64 := by omega
    by_cases hqn : q < n
    · have g4 : decide (6 + 33 * ((q : Int) + 1) ≤ N) = true := by have := HN.out; simp; omega
      go_wp2_with fail
      go_roundg (n - (q + 1))
      case measure => omega
      case rel => exact ⟨q + 1, by omega, by go_num, rfl⟩
    · obtain rfl : q = n := by omega
      have g4 : decide (6 + 33 * ((q : Int) + 1) ≤ N) = false := by have := HN.out; simp; omega
      have g5 : ((q : Int) == 0) = false := by simp; omega
      go_wp2_with fail
      generalize hw2 : World.setCell _ _ _ = w2
      have b2 : w2.heap[z]? = some (.cells #[.int .i64 1, .int .i64 2, .int .i64 q] 88 (0, 0)) := by rw [← hw2]; exact put_at (put_at (put_at HB1.out 0 _) 1 _) 2 _
      have K2 : Keep [] w w2 := by have hz := HZ.out; rw [← hw2]; ((repeat (first | (with_reducible exact HK1.out) | (with_reducible refine Keep.drew ?_) | (with_reducible refine Keep.drewN ?_ _) | (with_reducible refine Keep.alloc ?_ _) | ((with_reducible refine Keep.setCell ?_ ?_ _); rotate_left; focus (first | (simp; done) | (simp; omega) | (left; dsimp only; omega))))); done)
      have c2 := cell_at b2
      clear c1 f1 l1 hw2
      refine bodyPost_ret (v := .tuple #[.agg #[.int .i64 1, .int .i64 2, .int .i64 q], .int .i64 0]) ?_ rfl ?_
      · simp [results, Try.results103, go_sem, c2]
      exact hR.out _ _ ⟨rfl, K2⟩
end Go.Proofs.Ytnadiddaeolanaa
