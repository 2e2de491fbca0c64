/- The contracts of demesneref04: maps as rows of bools. -/
import Derived.Test.YtnadiddaeolanaaBmp
import Derived.Deep.WholeRow
import Derived.Laws.Rows
import Derived.Laws.Tables
import Derived.OwnWalk
import Derived.Maps.RangeWalk
namespace Go.Proofs.Ytnadiddaeolanaa
open Go.RowKit
set_option linter.unusedVariables false
set_option linter.unusedSimpArgs false

def cellsA (B : List Bool) : Array Value := (B.map Value.bool).toArray
theorem cellsA_get (B : List Bool) (i : Nat) : (cellsA B)[i]? = B[i]?.map Value.bool := by simp [cellsA]
theorem cellsA_set (B : List Bool) (i : Nat) (v : Bool) : (cellsA B).setIfInBounds i (.bool v) = cellsA (B.set i v) := by simp [cellsA, List.map_set]
theorem cellsA_size (B : List Bool) : (cellsA B).size = B.length := by simp [cellsA]
theorem cellsA_one (B : List Bool) : (cellsA B).all (·.oneCell') = true := by simp [cellsA, Value.oneCell']
/-- An array of 64 bools at block g. -/
def ARow (w : World) (g : Nat) (B : List Bool) : Prop := w.heap[g]? = some (.cells (cellsA B) 174 (0, 0))
theorem ARow.cell {w : World} {g : Nat} {B : List Bool} (h : ARow w g B) (i : Nat) (hi : i < B.length) : w.cell? ⟨g, i, none⟩ = some (.bool B[i]) := by
  rw [cell_at h, cellsA_get, List.getElem?_eq_getElem hi]; rfl
theorem ARow.put {w : World} {g : Nat} {B : List Bool} (h : ARow w g B) (i : Nat) (v : Bool) : ARow (w.setCell ⟨g, i, none⟩ (.bool v)) g (B.set i v) := by
  unfold ARow; rw [put_at h, cellsA_set]
theorem ARow.keep {S : List Nat} {w w' : World} {g : Nat} {B : List Bool} (h : ARow w g B) (k : Keep S w w') (hg : g ∉ S) : ARow w' g B := k.get h hg
theorem size_arr : (Try.prog.info? 174).map (·.size) = some 64 := by kernel_rfl
theorem arr_size {B : List Bool} (h : B.length = 64) : (Try.prog.info? 174).map (·.size) = some (cellsA B).size := by rw [cellsA_size, h]; exact size_arr
theorem setRow_keep (w : World) (g : Nat) (cs : Array Value) : Keep [g] w (w.setRow g cs) :=
  ⟨rfl, rfl, rfl, by simp [World.setRow], fun k hk hn => by
    simp only [List.mem_singleton] at hn
    have : ¬ g = k := fun e => hn e.symm
    simp [World.setRow, Array.getElem?_modify, this]⟩
theorem setRow_row {w : World} {g : Nat} {B B' : List Bool} (h : ARow w g B) : ARow (w.setRow g (cellsA B')) g B' := by
  unfold ARow at h ⊢
  simp [World.setRow, Array.getElem?_modify, h]

/-- Bits, up to one. -/
def bitsN (m k : Nat) : List Bool := (List.range 64).map fun i => decide (i < k) && m.testBit i
theorem bitsN_len (m k : Nat) : (bitsN m k).length = 64 := by simp [bitsN]
theorem bitsN_get (m k i : Nat) (hi : i < 64) : (bitsN m k)[i]? = some (decide (i < k) && m.testBit i) := by simp [bitsN, hi]
theorem bitsN_succ (m k : Nat) (hk : k < 64) : bitsN m (k + 1) = (bitsN m k).set k (m.testBit k) := by
  apply List.ext_getElem?
  intro i
  rw [List.getElem?_set]
  by_cases hi : i < 64
  · rw [bitsN_get _ _ _ hi, bitsN_get _ _ _ hi]
    by_cases e : k = i
    · subst e; simp [bitsN_len, hk]
    · rw [if_neg e]
      by_cases h1 : i < k
      · simp [h1, show i < k + 1 from by omega]
      · simp [h1, show ¬ i < k + 1 from by omega]
  · rw [List.getElem?_eq_none (by rw [bitsN_len]; omega)]
    rw [if_neg (by omega), List.getElem?_eq_none (by rw [bitsN_len]; omega)]
theorem bitsN_zero (m : Nat) : bitsN m 0 = List.replicate 64 false := by
  apply List.ext_getElem?
  intro i
  by_cases hi : i < 64
  · rw [bitsN_get _ _ _ hi, List.getElem?_replicate, if_pos hi]; simp
  · rw [List.getElem?_eq_none (by rw [bitsN_len]; omega), List.getElem?_eq_none (by simp; omega)]

theorem div_step (m k : Nat) : ((m / 2 ^ k : Nat) : Int) / 2 = ((m / 2 ^ (k + 1) : Nat) : Int) := by
  rw [Nat.pow_succ, ← Nat.div_div_eq_div_mul]; omega
theorem div_bit (m k : Nat) : (((m / 2 ^ k : Nat) : Int) % 2 == 1) = m.testBit k := by
  rw [Nat.testBit_eq_decide_div_mod_eq, Bool.eq_iff_iff]
  simp only [beq_iff_eq, decide_eq_true_iff]
  omega

set_option maxRecDepth 100000 in
set_option maxHeartbeats 4000000 in
theorem ref04_bits (m : Nat) (hm : m < 18446744073709551616) (w : World) :
    Calls Try.prog 136 #[.int .u64 m] w fun e w' => e = .returned (.agg (cellsA (bitsN m 64))) ∧ Keep [] w w' := by
  refine calls_abs fun R hR => ?_
  go_enter Try.func136, Try.ntmps136
  go_wp2_with fail
  obtain ⟨z, hz⟩ : ∃ z, z = w.heap.size := ⟨_, rfl⟩
  simp only [← hz]
  generalize hw1 : World.alloc _ _ = w1
  have b1 : ARow w1 z (List.replicate 64 false) := by rw [← hw1, hz]; exact alloc_keeps (alloc_new _ _ _ rfl) _
  have b2 : ARow w1 (z + 1) (List.replicate 64 false) := by rw [← hw1, hz]; exact alloc_new _ _ _ (by simp)
  have K1 : Keep [] w w1 := by rw [← hw1]; exact (by repeat (first | (with_reducible exact Keep.refl _ _) | (with_reducible refine Keep.drew ?_) | (with_reducible refine Keep.drewN ?_ _) | (with_reducible refine Keep.alloc ?_ _) | (with_reducible refine Keep.setCell ?_ (by first | (simp; done) | (simp; omega) | (left; dsimp only; omega)) _)))
  have HB1 := Lib.hid b1; have HB2 := Lib.hid b2; have HK1 := Lib.hid K1; have HZ := Lib.hid hz
  clear hw1 hz b1 b2 K1
  go_loopg [0, 4] 64 (fun j q i wr => ∃ k : Nat, k + j = 64 ∧ i = .int .i64 k ∧ q = .int .u64 (m / 2 ^ k : Nat) ∧ ARow wr (z + 1) (bitsN m k) ∧ Keep [z + 1] w1 wr)
  case atStart => exact ⟨0, by omega, rfl, by simp, by rw [bitsN_zero]; exact HB2.out, Keep.refl _ _⟩
  case round =>
    obtain ⟨k, hk, rfl, rfl, hb, hkw⟩ := hrel
    have HB := Lib.hid hb; have HKW := Lib.hid hkw
    have hb1 := HB1.out.keep hkw (by simp)
    have HB1 := Lib.hid hb1
    clear hb hkw
    by_cases hk64 : k < 64
    · have k0 : (0 : Int) ≤ (k : Int) := by omega
      have k1 : (k : Int) < 64 := by omega
      have c := HB.out.cell k (by rw [bitsN_len]; exact hk64)
      have f := frozen_at HB.out
      have hd := div_step m k
      have hbt := div_bit m k
      have hsu := bitsN_succ m k hk64
      have HSU := Lib.hid hsu; have HDV := Lib.hid hd
      have hge : 0 ≤ ((m / 2 ^ k : Nat) : Int) := Int.natCast_nonneg _
      have hlt : ((m / 2 ^ k : Nat) : Int) < 18446744073709551616 := by have := Nat.div_le_self m (2 ^ k); generalize m / 2 ^ k = q at *; omega
      clear hsu hb1 hd
      generalize (bitsN m k)[k]'(by rw [bitsN_len]; exact hk64) = old at c
      generalize hq : ((m / 2 ^ k : Nat) : Int) = q at *
      have HQ := Lib.hid hq
      clear hq
      generalize m.testBit k = bt at *
      go_wp2_with fail
      go_roundg (64 - (k + 1))
      case measure => omega
      case rel =>
        refine ⟨k + 1, by omega, by go_num, by rw [HDV.out], ?_, HKW.out.setCell (.inr (by simp)) _⟩
        rw [HSU.out]
        exact HB.out.put k bt
    · obtain rfl : k = 64 := by omega
      go_wp2_with (first
        | (refine wpList_load_row rfl 174 _ rfl (z + 1) rfl _ _ _ _ HB.out Try.underlying174 rfl (arr_size (bitsN_len _ _)) ?_)
        | (refine wpList_store_row rfl 174 _ _ rfl z (cellsA (bitsN m 64)) rfl rfl _ _ HB1.out (arr_size (bitsN_len _ _)) (by rw [cellsA_size, cellsA_size, bitsN_len]; rfl) (cellsA_one _) ?_)
        | fail)
      try go_frame
      refine bodyPost_ret (v := .agg (cellsA (bitsN m 64))) ?_ rfl ?_
      · exact results_cell_row rfl _ _ z _ _ _ _ rfl (setRow_row (B' := bitsN m 64) HB1.out) Try.underlying174 rfl (arr_size (bitsN_len _ _))
      exact hR.out _ _ ⟨rfl, (HK1.out.fresh HKW.out (by have := HZ.out; simp; omega)).fresh (setRow_keep _ _ _) (by have := HZ.out; simp; omega)⟩

/-- The number that bits make, from one on. -/
def wordFrom (B : List Bool) (k : Nat) : Nat := (List.range (64 - k)).foldr (fun i n => n * 2 + if B.getD (k + i) false then 1 else 0) 0
theorem wordFrom_end (B : List Bool) : wordFrom B 64 = 0 := rfl
theorem wordFrom_step (B : List Bool) (k : Nat) (hk : k < 64) : wordFrom B k = wordFrom B (k + 1) * 2 + if B.getD k false then 1 else 0 := by
  unfold wordFrom
  rw [show 64 - k = (64 - (k + 1)) + 1 from by omega, List.range_succ_eq_map, List.foldr_cons, List.foldr_map]
  simp only [Nat.add_zero]
  congr 3
  funext i n
  rw [show k + (i + 1) = k + 1 + i from by omega]
theorem wordFrom_bit (B : List Bool) : ∀ (j k : Nat), k + j = 64 → ∀ i, (wordFrom B k).testBit i = (decide (i < j) && B.getD (k + i) false)
  | 0, k, h, i => by
    obtain rfl : k = 64 := by omega
    rw [wordFrom_end]; simp
  | j + 1, k, h, i => by
    have ih := wordFrom_bit B j (k + 1) (by omega)
    rw [wordFrom_step B k (by omega)]
    cases i with
    | zero =>
      rw [Nat.testBit_zero]
      cases hb : B.getD k false <;> simp [Nat.add_mod, hb]
    | succ i =>
      rw [Nat.testBit_succ, show (wordFrom B (k + 1) * 2 + if B.getD k false then 1 else 0) / 2 = wordFrom B (k + 1) from by split <;> omega, ih i, show k + 1 + i = k + (i + 1) from by omega]
      simp
theorem wordFrom_lt (B : List Bool) (j k : Nat) (h : k + j = 64) : wordFrom B k < 2 ^ j :=
  Nat.lt_pow_two_of_testBit _ fun i hi => by rw [wordFrom_bit B j k h]; simp; omega
/-- The number whose bits are these. -/
theorem word_eq {B : List Bool} {m : Nat} (hm : m < 18446744073709551616) (h : ∀ i, i < 64 → B.getD i false = m.testBit i) : wordFrom B 0 = m := by
  apply Nat.eq_of_testBit_eq
  intro i
  rw [wordFrom_bit B 64 0 rfl, Nat.zero_add]
  by_cases hi : i < 64
  · simp only [hi, decide_true, Bool.true_and]; exact h i hi
  · have : m.testBit i = false := Nat.testBit_lt_two_pow (Nat.lt_of_lt_of_le hm (by
      have : 2 ^ 64 ≤ 2 ^ i := Nat.pow_le_pow_right (by omega) (by omega)
      omega))
    simp [hi, this]

set_option maxRecDepth 100000 in
set_option maxHeartbeats 4000000 in
theorem ref04_word (B : List Bool) (hB : B.length = 64) (w : World) :
    Calls Try.prog 133 #[.agg (cellsA B)] w fun e w' => e = .returned (.int .u64 (wordFrom B 0 : Nat)) ∧ Keep [] w w' := by
  refine calls_abs fun R hR => ?_
  have HBL := Lib.hid hB
  clear hB
  go_enter Try.func133, Try.ntmps133
  go_wp2_with fail
  obtain ⟨z, hz⟩ : ∃ z, z = w.heap.size := ⟨_, rfl⟩
  simp only [← hz]
  generalize hw1 : World.alloc _ _ = w1
  have b1 : ARow w1 z B := by rw [← hw1, hz]; exact alloc_new _ _ _ rfl
  have K1 : Keep [] w w1 := by rw [← hw1]; exact (by repeat (first | (with_reducible exact Keep.refl _ _) | (with_reducible refine Keep.drew ?_) | (with_reducible refine Keep.drewN ?_ _) | (with_reducible refine Keep.alloc ?_ _) | (with_reducible refine Keep.setCell ?_ (by first | (simp; done) | (simp; omega) | (left; dsimp only; omega)) _)))
  have HB1 := Lib.hid b1; have HK1 := Lib.hid K1
  clear hw1 hz b1 K1
  go_loopg [3, 4] 64 (fun j x i wr => j ≤ 64 ∧ i = .int .i64 ((j : Int) - 1) ∧ x = .int .u64 (wordFrom B j : Nat) ∧ wr = w1)
  case atStart => exact ⟨by omega, rfl, by rw [wordFrom_end]; rfl, rfl⟩
  case round =>
    obtain ⟨hj, rfl, rfl, rfl⟩ := hrel
    cases gk with
    | zero =>
      have n0 : ¬ (0 : Int) ≤ ((0 : Nat) : Int) - 1 := by omega
      generalize wordFrom B 0 = x at *
      go_wp2_with fail
      exact hR.out _ _ ⟨by simp, HK1.out⟩
    | succ k =>
      have hk64 : k < 64 := by omega
      have e1 : ((k + 1 : Nat) : Int) - 1 = k := by omega
      have k0 : (0 : Int) ≤ (k : Int) := by omega
      have k1 : (k : Int) < 64 := by omega
      have c := HB1.out.cell k (by have := HBL.out; omega)
      have hst := wordFrom_step B k hk64
      have hlt := wordFrom_lt B (63 - k) (k + 1) (by omega)
      have hp : 2 ^ (63 - k) ≤ 2 ^ 63 := Nat.pow_le_pow_right (by omega) (by omega)
      have hgd : B.getD k false = B[k]'(by have := HBL.out; omega) := by simp [List.getD_eq_getElem?_getD, show k < B.length from by have := HBL.out; omega]
      rw [hgd] at hst
      rw [e1]
      have hlt2 : wordFrom B (k + 1) < 2 ^ 63 := Nat.lt_of_lt_of_le hlt hp
      have HST := Lib.hid hst
      clear hst hlt hp hgd e1
      generalize B[k]'(by have := HBL.out; omega) = bt at *
      generalize wordFrom B (k + 1) = x at *
      have w2 : IntKind.u64.wrap ((x : Int) * 2) = (x : Int) * 2 := wrap_u64_small (by omega) (by omega)
      have w3 : IntKind.u64.wrap ((x : Int) * 2 + 1) = (x : Int) * 2 + 1 := wrap_u64_small (by omega) (by omega)
      cases bt with
      | true =>
        go_wp2_with fail
        go_roundg k
        case measure => omega
        case rel => exact ⟨by omega, rfl, by rw [HST.out]; simp, by first | trivial | rfl⟩
      | false =>
        go_wp2_with fail
        go_roundg k
        case measure => omega
        case rel => exact ⟨by omega, rfl, by rw [HST.out]; simp, by first | trivial | rfl⟩

/-- Bits with a run's set. -/
def setBits (B : List Bool) (a k : Nat) (f : Bool) : List Bool := (List.range k).foldl (fun B i => B.set (a + i) f) B
theorem setBits_succ (B : List Bool) (a k : Nat) (f : Bool) : setBits B a (k + 1) f = (setBits B a k f).set (a + k) f := by simp [setBits, List.range_succ]
theorem setBits_len (B : List Bool) (a k : Nat) (f : Bool) : (setBits B a k f).length = B.length := by
  induction k with
  | zero => rfl
  | succ k ih => rw [setBits_succ, List.length_set, ih]
theorem setBits_get (B : List Bool) (a k : Nat) (f : Bool) (i : Nat) (hi : i < B.length) : (setBits B a k f).getD i false = if a ≤ i ∧ i < a + k then f else B.getD i false := by
  induction k with
  | zero => rw [if_neg (by omega)]; rfl
  | succ k ih =>
    rw [setBits_succ, List.getD_eq_getElem?_getD, List.getElem?_set]
    by_cases e : a + k = i
    · rw [if_pos e, if_pos (by rw [setBits_len]; omega), if_pos (by omega)]; rfl
    · rw [if_neg e, ← List.getD_eq_getElem?_getD, ih]
      by_cases h1 : a ≤ i ∧ i < a + k
      · rw [if_pos h1, if_pos (by omega)]
      · rw [if_neg h1, if_neg (by omega)]
theorem with_eq {m a r : Nat} (hm : m < 18446744073709551616) (h : a + r ≤ 64) (f : Bool) : wordFrom (setBits (bitsN m 64) a r f) 0 = withRun m a r f := by
  refine word_eq (withRun_lt hm h f) fun i hi => ?_
  rw [setBits_get _ _ _ _ _ (by rw [bitsN_len]; exact hi), withRun_bit hm h, List.getD_eq_getElem?_getD, bitsN_get _ _ _ hi]
  simp [hi]

set_option maxRecDepth 100000 in
set_option maxHeartbeats 4000000 in
theorem ref04_with (m : Nat) (hm : m < 18446744073709551616) (a r : Nat) (h : a + r ≤ 64) (f : Bool) (w : World) :
    Calls Try.prog 92 #[.int .u64 m, .int .i64 a, .int .i64 r, .bool f] w fun e w' => e = .returned (.int .u64 (withRun m a r f : Nat)) ∧ Keep [] w w' := by
  refine calls_abs fun R hR => ?_
  go_enter Try.func92, Try.ntmps92
  go_wp2_with fail
  refine (ref04_bits m hm w).mono ?_
  rintro e w1 ⟨rfl, K1⟩
  have HK1 := Lib.hid K1
  clear K1
  obtain ⟨z, hz⟩ : ∃ z, z = w1.heap.size := ⟨_, rfl⟩
  have HZ := Lib.hid hz
  go_wp2_with (first
    | (refine wpList_store_row rfl 174 _ _ rfl w1.heap.size (cellsA (bitsN m 64)) rfl rfl _ _ (alloc_new w1 _ _ rfl) (arr_size (bitsN_len _ _)) (by rw [cellsA_size, bitsN_len]; rfl) (cellsA_one _) ?_)
    | fail)
  try go_frame
  rw [← hz]
  generalize hw2 : World.setRow _ _ _ = w2
  have b2 : ARow w2 z (bitsN m 64) := by rw [← hw2, hz]; exact setRow_row (B := List.replicate 64 false) (alloc_new _ _ _ rfl)
  have K2 : Keep [] w w2 := by
    rw [← hw2]
    exact (show Keep [] w (World.alloc w1 _) from (by repeat (first | (with_reducible exact HK1.out) | (with_reducible refine Keep.drew ?_) | (with_reducible refine Keep.drewN ?_ _) | (with_reducible refine Keep.alloc ?_ _) | (with_reducible refine Keep.setCell ?_ (by first | (simp; done) | (simp; omega) | (left; dsimp only; omega)) _)))).fresh (setRow_keep _ _ _) (by have := HK1.out.size; simp; omega)
  have HB2 := Lib.hid b2; have HK2 := Lib.hid K2
  have hzw : w.heap.size ≤ z := by have := HK1.out.size; omega
  clear hw2 b2 K2 hz
  go_loopg [10] r (fun j iv wr => ∃ k : Nat, k + j = r ∧ iv = .int .i64 k ∧ ARow wr z (setBits (bitsN m 64) a k f) ∧ Keep [z] w2 wr)
  case atStart => exact ⟨0, by omega, rfl, HB2.out, Keep.refl _ _⟩
  case round =>
    obtain ⟨k, hk, rfl, hb, hkw⟩ := hrel
    have HB := Lib.hid hb; have HKW := Lib.hid hkw
    clear hb hkw
    by_cases hkr : k < r
    · have k1 : (k : Int) < (r : Int) := by omega
      have hw64 : IntKind.i64.wrap ((a : Int) + k) = (a : Int) + k := by rw [IntKind.wrap_i64]; omega
      have j0 : (0 : Int) ≤ (a : Int) + k := by omega
      have j1 : (a : Int) + k < 64 := by omega
      have c := HB.out.cell (a + k) (by rw [setBits_len, bitsN_len]; omega)
      have fr := frozen_at HB.out
      have hsu := setBits_succ (bitsN m 64) a k f
      have HSU := Lib.hid hsu
      have hlt : a + k < (setBits (bitsN m 64) a k f).length := by rw [setBits_len, bitsN_len]; omega
      clear hsu
      generalize (setBits (bitsN m 64) a k f)[a + k]'hlt = old at c
      clear hlt
      go_wp2_with fail
      go_roundg (r - (k + 1))
      case measure => omega
      case rel => exact ⟨k + 1, by omega, by go_num, by rw [HSU.out]; exact HB.out.put (a + k) f, HKW.out.setCell (.inr (by simp)) _⟩
    · obtain rfl : k = r := by omega
      have hl : (setBits (bitsN m 64) a k f).length = 64 := by rw [setBits_len, bitsN_len]
      have he := with_eq hm h f
      have HE := Lib.hid he
      clear he
      generalize setBits (bitsN m 64) a k f = B at *
      go_wp2_with (first
        | (refine wpList_load_row rfl 174 _ rfl z rfl _ _ _ _ HB.out Try.underlying174 rfl (arr_size hl) ?_)
        | fail)
      try go_frame
      refine (ref04_word B hl _).mono ?_
      rintro e w3 ⟨rfl, K3⟩
      rw [HE.out]
      go_wp2_with fail
      exact hR.out _ _ ⟨rfl, (HK2.out.fresh HKW.out (by simp; omega)).trans K3⟩

theorem runIs_not {m a r k : Nat} {f : Bool} (hk : k < r) (h : m.testBit (a + k) ≠ f) : runIs m a r f = false := by
  cases hr : runIs m a r f with
  | false => rfl
  | true => exact absurd (runIs_bits.1 hr (a + k) (by omega) (by omega)) h
theorem runIs_all {m a r : Nat} {f : Bool} (h : ∀ k, k < r → m.testBit (a + k) = f) : runIs m a r f = true :=
  runIs_bits.2 fun i h1 h2 => by have := h (i - a) (by omega); rwa [show a + (i - a) = i from by omega] at this

set_option maxRecDepth 100000 in
set_option maxHeartbeats 4000000 in
theorem ref04_is (m : Nat) (hm : m < 18446744073709551616) (a r : Int) (f : Bool) (w : World) :
    Calls Try.prog 96 #[.int .u64 m, .int .i64 a, .int .i64 r, .bool f] w fun e w' => e = .returned (.bool (isRun m a r f)) ∧ Keep [] w w' := by
  refine calls_abs fun R hR => ?_
  have hno : goodRun a r = false → isRun m a r f = false := fun h => by simp [isRun, h]
  have HNO := Lib.hid hno
  clear hno
  by_cases r1 : r < 1
  · have hi := HNO.out (by simp [goodRun]; omega)
    go_enter Try.func96, Try.ntmps96
    go_wp2_with fail
    exact hR.out _ _ ⟨(by first | (rw [hi]; done) | (rw [hi]; rfl) | simp [hi]), (by repeat (first | (with_reducible exact Keep.refl _ _) | (with_reducible refine Keep.drew ?_) | (with_reducible refine Keep.drewN ?_ _) | (with_reducible refine Keep.alloc ?_ _) | (with_reducible refine Keep.setCell ?_ (by first | (simp; done) | (simp; omega) | (left; dsimp only; omega)) _)))⟩
  by_cases r2 : 3 < r
  · have hi := HNO.out (by simp [goodRun]; omega)
    go_enter Try.func96, Try.ntmps96
    go_wp2_with fail
    exact hR.out _ _ ⟨(by first | (rw [hi]; done) | (rw [hi]; rfl) | simp [hi]), (by repeat (first | (with_reducible exact Keep.refl _ _) | (with_reducible refine Keep.drew ?_) | (with_reducible refine Keep.drewN ?_ _) | (with_reducible refine Keep.alloc ?_ _) | (with_reducible refine Keep.setCell ?_ (by first | (simp; done) | (simp; omega) | (left; dsimp only; omega)) _)))⟩
  by_cases a1 : a < 0
  · have hi := HNO.out (by simp [goodRun]; omega)
    go_enter Try.func96, Try.ntmps96
    go_wp2_with fail
    exact hR.out _ _ ⟨(by first | (rw [hi]; done) | (rw [hi]; rfl) | simp [hi]), (by repeat (first | (with_reducible exact Keep.refl _ _) | (with_reducible refine Keep.drew ?_) | (with_reducible refine Keep.drewN ?_ _) | (with_reducible refine Keep.alloc ?_ _) | (with_reducible refine Keep.setCell ?_ (by first | (simp; done) | (simp; omega) | (left; dsimp only; omega)) _)))⟩
  by_cases a2 : 63 < a
  · have hi := HNO.out (by simp [goodRun]; omega)
    go_enter Try.func96, Try.ntmps96
    go_wp2_with fail
    exact hR.out _ _ ⟨(by first | (rw [hi]; done) | (rw [hi]; rfl) | simp [hi]), (by repeat (first | (with_reducible exact Keep.refl _ _) | (with_reducible refine Keep.drew ?_) | (with_reducible refine Keep.drewN ?_ _) | (with_reducible refine Keep.alloc ?_ _) | (with_reducible refine Keep.setCell ?_ (by first | (simp; done) | (simp; omega) | (left; dsimp only; omega)) _)))⟩
  obtain ⟨n, rfl⟩ : ∃ n : Nat, r = n := ⟨r.toNat, by omega⟩
  obtain ⟨b, rfl⟩ : ∃ b : Nat, a = b := ⟨a.toNat, by omega⟩
  have wr : IntKind.i64.wrap ((b : Int) + n) = b + n := by rw [IntKind.wrap_i64]; omega
  by_cases a3 : 64 < (b : Int) + n
  · have hi := HNO.out (by simp [goodRun]; omega)
    go_enter Try.func96, Try.ntmps96
    go_wp2_with fail
    exact hR.out _ _ ⟨(by first | (rw [hi]; done) | (rw [hi]; rfl) | simp [hi]), (by repeat (first | (with_reducible exact Keep.refl _ _) | (with_reducible refine Keep.drew ?_) | (with_reducible refine Keep.drewN ?_ _) | (with_reducible refine Keep.alloc ?_ _) | (with_reducible refine Keep.setCell ?_ (by first | (simp; done) | (simp; omega) | (left; dsimp only; omega)) _)))⟩
  have hi : isRun m b n f = runIs m b n f := by
    have : goodRun b n = true := by simp [goodRun]; omega
    simp [isRun, this]
  have HI := Lib.hid hi
  clear hi HNO
  go_enter Try.func96, Try.ntmps96
  go_wp2_with fail
  refine (ref04_bits m hm w).mono ?_
  rintro e w1 ⟨rfl, K1⟩
  have HK1 := Lib.hid K1
  clear K1
  obtain ⟨z, hz⟩ : ∃ z, z = w1.heap.size := ⟨_, rfl⟩
  go_wp2_with (first
    | (refine wpList_store_row rfl 174 _ _ rfl w1.heap.size (cellsA (bitsN m 64)) rfl rfl _ _ (alloc_new w1 _ _ rfl) (arr_size (bitsN_len _ _)) (by rw [cellsA_size, bitsN_len]; rfl) (cellsA_one _) ?_)
    | fail)
  try go_frame
  rw [← hz]
  generalize hw2 : World.setRow _ _ _ = w2
  have b2 : ARow w2 z (bitsN m 64) := by rw [← hw2, hz]; exact setRow_row (B := List.replicate 64 false) (alloc_new _ _ _ rfl)
  have K2 : Keep [] w w2 := by
    rw [← hw2]
    exact (show Keep [] w (World.alloc w1 _) from (by repeat (first | (with_reducible exact HK1.out) | (with_reducible refine Keep.drew ?_) | (with_reducible refine Keep.drewN ?_ _) | (with_reducible refine Keep.alloc ?_ _) | (with_reducible refine Keep.setCell ?_ (by first | (simp; done) | (simp; omega) | (left; dsimp only; omega)) _)))).fresh (setRow_keep _ _ _) (by have := HK1.out.size; simp; omega)
  have HB2 := Lib.hid b2; have HK2 := Lib.hid K2
  clear hw2 b2 K2 hz
  go_loopg [10] n (fun j iv wr => ∃ k : Nat, k + j = n ∧ iv = .int .i64 k ∧ (∀ i, i < k → m.testBit (b + i) = f) ∧ wr = w2)
  case atStart => exact ⟨0, by omega, rfl, fun i hi => by omega, rfl⟩
  case round =>
    obtain ⟨k, hk, rfl, hall, rfl⟩ := hrel
    have HALL := Lib.hid hall
    clear hall
    by_cases hkn : k < n
    · have k1 : (k : Int) < (n : Int) := by omega
      have hw64 : IntKind.i64.wrap ((b : Int) + k) = (b : Int) + k := by rw [IntKind.wrap_i64]; omega
      have j0 : (0 : Int) ≤ (b : Int) + k := by omega
      have j1 : (b : Int) + k < 64 := by omega
      have hlt : b + k < (bitsN m 64).length := by rw [bitsN_len]; omega
      have c := HB2.out.cell (b + k) hlt
      have hbt : (bitsN m 64)[b + k]'hlt = m.testBit (b + k) := by
        have := bitsN_get m 64 (b + k) (by omega)
        rw [List.getElem?_eq_getElem hlt] at this
        have h2 := Option.some.inj this
        rw [h2]; simp; omega
      rw [hbt] at c
      clear hbt
      by_cases hq : m.testBit (b + k) = f
      · have hne : (m.testBit (b + k) != f) = false := by simp [hq]
        have HQ := Lib.hid hq
        rw [hq] at c hne
        clear hq
        go_wp2_with fail
        go_roundg (n - (k + 1))
        case measure => omega
        case rel => exact ⟨k + 1, by omega, by go_num, fun i hi => by
          by_cases e : i = k
          · subst e; exact HQ.out
          · exact HALL.out i (by omega), by first | trivial | rfl⟩
      · have hr := runIs_not (f := f) hkn hq
        have HR2 := Lib.hid hr
        have hbf : m.testBit (b + k) = !f := by cases f <;> simpa using hq
        rw [hbf] at c
        clear hr hq hbf
        cases f <;> (
          simp only [Bool.not_false, Bool.not_true] at c
          go_wp2_with fail
          exact hR.out _ _ ⟨(by first | (rw [HI.out, HR2.out]; done) | (rw [HI.out, HR2.out]; rfl) | simp [HI.out, HR2.out]), HK2.out⟩)
    · obtain rfl : k = n := by omega
      have hr := runIs_all HALL.out
      have HR2 := Lib.hid hr
      clear hr
      go_wp2_with fail
      exact hR.out _ _ ⟨(by first | (rw [HI.out, HR2.out]; done) | (rw [HI.out, HR2.out]; rfl) | simp [HI.out, HR2.out]), HK2.out⟩

def findI (m : Nat) (r : Int) : Int := match findN m r with
  | some a => a
  | none => -1
set_option maxRecDepth 100000 in
theorem ref04_find (m : Nat) (hm : m < 18446744073709551616) (r : Int) (w : World) :
    Calls Try.prog 91 #[.int .u64 m, .int .i64 r] w fun e w' => e = .returned (.int .i64 (findI m r)) ∧ Keep [] w w' := by
  refine calls_abs fun R hR => ?_
  go_enter Try.func91, Try.ntmps91
  go_wp2_with fail
  go_loopg [5] 64 (fun j i wr => ∃ k : Nat, k + j = 64 ∧ i = .int .i64 k ∧ (∀ a : Nat, a < k → isRun m a r true = false) ∧ Keep [] w wr)
  case atStart => exact ⟨0, by omega, rfl, fun a ha => by omega, Keep.refl _ _⟩
  case round =>
    obtain ⟨k, hk, rfl, hno, hkw⟩ := hrel
    have HNO := Lib.hid hno; have HKW := Lib.hid hkw
    clear hno hkw
    by_cases hk64 : k < 64
    · have k1 : (k : Int) < 64 := by omega
      go_wp2_with fail
      refine (ref04_is m hm k r true wr).mono ?_
      rintro e w2 ⟨rfl, K2⟩
      have HK2 := Lib.hid (HKW.out.trans K2)
      clear K2
      cases hi : isRun m k r true with
      | true =>
        have hf : findI m r = k := by unfold findI; rw [findN_step hk64 HNO.out hi]
        have HF := Lib.hid hf
        clear hf hi
        go_wp2_with fail
        exact hR.out _ _ ⟨(by first | (rw [HF.out]; done) | (rw [HF.out]; rfl) | simp [HF.out]), HK2.out⟩
      | false =>
        have HI := Lib.hid hi
        clear hi
        go_wp2_with fail
        go_roundg (64 - (k + 1))
        case measure => omega
        case rel => exact ⟨k + 1, by omega, by go_num, fun a ha => by
          by_cases e : a = k
          · subst e; exact HI.out
          · exact HNO.out a (by omega), HK2.out⟩
    · obtain rfl : k = 64 := by omega
      have hf : findI m r = -1 := by unfold findI; rw [findN_none HNO.out]
      have HF := Lib.hid hf
      clear hf
      go_wp2_with fail
      exact hR.out _ _ ⟨(by first | (rw [HF.out]; done) | (rw [HF.out]; rfl) | simp [HF.out]), HKW.out⟩

theorem allN_bit (n i : Nat) : (allN n).testBit i = decide (i < n) := by unfold allN; rw [Nat.testBit_two_pow_sub_one]
set_option maxRecDepth 100000 in
set_option maxHeartbeats 4000000 in
theorem ref04_all (n : Nat) (hn : n ≤ 64) (w : World) :
    Calls Try.prog 87 #[.int .i64 n] w fun e w' => e = .returned (.int .u64 (allN n : Nat)) ∧ Keep [] w w' := by
  refine calls_abs fun R hR => ?_
  go_enter Try.func87, Try.ntmps87
  go_wp2_with fail
  obtain ⟨z, hz⟩ : ∃ z, z = w.heap.size := ⟨_, rfl⟩
  simp only [← hz]
  generalize hw1 : World.alloc _ _ = w1
  have b1 : ARow w1 z (List.replicate 64 false) := by rw [← hw1, hz]; exact alloc_new _ _ _ rfl
  have K1 : Keep [] w w1 := by rw [← hw1]; exact (by repeat (first | (with_reducible exact Keep.refl _ _) | (with_reducible refine Keep.drew ?_) | (with_reducible refine Keep.drewN ?_ _) | (with_reducible refine Keep.alloc ?_ _) | (with_reducible refine Keep.setCell ?_ (by first | (simp; done) | (simp; omega) | (left; dsimp only; omega)) _)))
  have HB1 := Lib.hid b1; have HK1 := Lib.hid K1; have HZ := Lib.hid hz
  clear hw1 hz b1 K1
  go_loopg [4] 64 (fun j iv wr => ∃ k : Nat, k + j = 64 ∧ iv = .int .i64 k ∧ ARow wr z (bitsN (allN n) k) ∧ Keep [z] w1 wr)
  case atStart => exact ⟨0, by omega, rfl, by rw [bitsN_zero]; exact HB1.out, Keep.refl _ _⟩
  case round =>
    obtain ⟨k, hk, rfl, hb, hkw⟩ := hrel
    have HB := Lib.hid hb; have HKW := Lib.hid hkw
    clear hb hkw
    by_cases hk64 : k < 64
    · have k0 : (0 : Int) ≤ (k : Int) := by omega
      have k1 : (k : Int) < 64 := by omega
      have hlt : k < (bitsN (allN n) k).length := by rw [bitsN_len]; exact hk64
      have c := HB.out.cell k hlt
      have f := frozen_at HB.out
      have hsu := bitsN_succ (allN n) k hk64
      rw [allN_bit] at hsu
      have HSU := Lib.hid hsu
      clear hsu
      generalize (bitsN (allN n) k)[k]'hlt = old at c
      clear hlt
      by_cases hkn : k < n
      · have j1 : (k : Int) < (n : Int) := by omega
        go_wp2_with fail
        go_roundg (64 - (k + 1))
        case measure => omega
        case rel => exact ⟨k + 1, by omega, by go_num, by rw [HSU.out, decide_eq_true hkn]; exact HB.out.put k true, HKW.out.setCell (.inr (by simp)) _⟩
      · have j1 : (n : Int) ≤ (k : Int) := by omega
        go_wp2_with fail
        go_roundg (64 - (k + 1))
        case measure => omega
        case rel => exact ⟨k + 1, by omega, by go_num, by rw [HSU.out, decide_eq_false hkn]; exact HB.out.put k false, HKW.out.setCell (.inr (by simp)) _⟩
    · obtain rfl : k = 64 := by omega
      have he : wordFrom (bitsN (allN n) 64) 0 = allN n := word_eq (allN_lt hn) fun i hi => by
        rw [List.getD_eq_getElem?_getD, bitsN_get _ _ _ hi]; simp [hi]
      have hl := bitsN_len (allN n) 64
      have HE := Lib.hid he
      clear he
      generalize bitsN (allN n) 64 = B at *
      go_wp2_with (first
        | (refine wpList_load_row rfl 174 _ rfl z rfl _ _ _ _ HB.out Try.underlying174 rfl (arr_size hl) ?_)
        | fail)
      try go_frame
      refine (ref04_word B hl _).mono ?_
      rintro e w3 ⟨rfl, K3⟩
      rw [HE.out]
      go_wp2_with fail
      exact hR.out _ _ ⟨rfl, (HK1.out.fresh HKW.out (by have := HZ.out; simp; omega)).trans K3⟩
end Go.Proofs.Ytnadiddaeolanaa
