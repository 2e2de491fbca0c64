/- The contracts of package bitmap. -/
import Derived.Test.YtnadiddaeolanaaWord2
import Derived.Deep.LoopGhost
import Derived.WalkMore
namespace Go.Proofs.Ytnadiddaeolanaa
open Go.RowKit
set_option linter.unusedVariables false
set_option linter.unusedSimpArgs false

/-- A run's mask. -/
def maskN (at_ run : Nat) : Nat := (2 ^ run - 1) * 2 ^ at_
def goodRun (at_ run : Int) : Bool := decide (1 ≤ run ∧ run ≤ 3 ∧ 0 ≤ at_ ∧ at_ + run ≤ 64)
/-- Are all of a run's blocks free (or none)? -/
def runIs (m : Nat) (at_ run : Nat) (free : Bool) : Bool := (List.range run).all fun i => m.testBit (at_ + i) == free
def isRun (m : Nat) (at_ run : Int) (free : Bool) : Bool := goodRun at_ run && runIs m at_.toNat run.toNat free

theorem maskN_bit (a r i : Nat) : (maskN a r).testBit i = (decide (a ≤ i) && decide (i < a + r)) := by
  unfold maskN
  rw [Nat.testBit_mul_two_pow, Nat.testBit_two_pow_sub_one]
  by_cases h : a ≤ i
  · simp only [h, decide_true, Bool.true_and]
    congr 1
    exact propext ⟨fun h => by omega, fun h => by omega⟩
  · simp [h]
theorem maskN_lt {a r : Nat} (h : a + r ≤ 64) : maskN a r < 18446744073709551616 := by
  have : maskN a r < 2 ^ 64 := Nat.lt_pow_two_of_testBit _ fun i hi => by
    rw [maskN_bit]; simp; omega
  exact this
theorem runIs_bits {m a r : Nat} {f : Bool} : runIs m a r f = true ↔ ∀ i, a ≤ i → i < a + r → m.testBit i = f := by
  unfold runIs
  rw [List.all_eq_true]
  constructor
  · intro h i h1 h2
    have := h (i - a) (List.mem_range.2 (by omega))
    rw [show a + (i - a) = i from by omega] at this
    simpa using this
  · intro h i hi
    have hi := List.mem_range.1 hi
    simp [h (a + i) (by omega) (by omega)]
theorem mask_all (m a r : Nat) : (m &&& maskN a r = maskN a r) ↔ runIs m a r true = true := by
  rw [runIs_bits]
  constructor
  · intro h i h1 h2
    have := congrArg (fun x => x.testBit i) h
    simp only [Nat.testBit_and, maskN_bit] at this
    simpa [h1, h2] using this
  · intro h
    apply Nat.eq_of_testBit_eq
    intro i
    rw [Nat.testBit_and, maskN_bit]
    by_cases h1 : a ≤ i
    · by_cases h2 : i < a + r
      · simp [h i h1 h2, h1, h2]
      · simp [h2]
    · simp [h1]
theorem mask_none (m a r : Nat) : (m &&& maskN a r = 0) ↔ runIs m a r false = true := by
  rw [runIs_bits]
  constructor
  · intro h i h1 h2
    have := congrArg (fun x => x.testBit i) h
    simp only [Nat.testBit_and, maskN_bit, Nat.zero_testBit] at this
    simpa [h1, h2] using this
  · intro h
    apply Nat.eq_of_testBit_eq
    intro i
    rw [Nat.testBit_and, maskN_bit, Nat.zero_testBit]
    by_cases h1 : a ≤ i
    · by_cases h2 : i < a + r
      · simp [h i h1 h2]
      · simp [h2]
    · simp [h1]
/-- A map with a run's blocks free, or taken. -/
def withRun (m a r : Nat) (f : Bool) : Nat := if f then m ||| maskN a r else m &&& (18446744073709551615 - maskN a r)
theorem full_bit (x i : Nat) (hx : x < 18446744073709551616) : (18446744073709551615 - x).testBit i = (decide (i < 64) && !x.testBit i) := by
  have := Nat.testBit_two_pow_sub_succ (x := x) (n := 64) hx i
  rw [show (2 ^ 64 - (x + 1)) = 18446744073709551615 - x from by omega] at this
  exact this
theorem withRun_bit {m a r : Nat} (hm : m < 18446744073709551616) (h : a + r ≤ 64) (f : Bool) (i : Nat) : (withRun m a r f).testBit i = if a ≤ i ∧ i < a + r then f else m.testBit i := by
  have hml := maskN_lt h
  unfold withRun
  cases f with
  | true =>
    rw [if_pos rfl, Nat.testBit_or, maskN_bit]
    by_cases h1 : a ≤ i <;> by_cases h2 : i < a + r <;> simp [h1, h2]
  | false =>
    rw [if_neg (by simp), Nat.testBit_and, full_bit _ _ hml, maskN_bit]
    by_cases h1 : a ≤ i
    · by_cases h2 : i < a + r
      · simp [h1, h2]
      · by_cases h3 : i < 64
        · simp [h1, h2, h3]
        · have : m.testBit i = false := Nat.testBit_lt_two_pow (Nat.lt_of_lt_of_le hm (by
            have : 2 ^ 64 ≤ 2 ^ i := Nat.pow_le_pow_right (by omega) (by omega)
            omega))
          simp [h1, h2, h3, this]
    · have h3 : i < 64 := by omega
      simp [h1, h3]
theorem withRun_lt {m a r : Nat} (hm : m < 18446744073709551616) (h : a + r ≤ 64) (f : Bool) : withRun m a r f < 18446744073709551616 := by
  have hml := maskN_lt h
  unfold withRun
  split
  · exact Nat.or_lt_two_pow (n := 64) hm hml
  · exact Nat.lt_of_le_of_lt Nat.and_le_left hm

/-- All blocks up to one are free. -/
def allN (n : Nat) : Nat := 2 ^ n - 1
theorem allN_lt {n : Nat} (h : n ≤ 64) : allN n < 18446744073709551616 := by
  have : 2 ^ n ≤ 2 ^ 64 := Nat.pow_le_pow_right (by omega) h
  unfold allN; omega
theorem all_div (n : Nat) (h : n ≤ 64) : (18446744073709551615 : Int) / 2 ^ (64 - n) = allN n := by
  have e : (18446744073709551615 : Int) = ((2 ^ 64 - 1 : Nat) : Int) := by decide
  have e2 : (2 : Int) ^ (64 - n) = ((2 ^ (64 - n) : Nat) : Int) := by simp
  rw [e, e2, ← Int.natCast_ediv]
  congr 1
  unfold allN
  have hp : 2 ^ 64 = 2 ^ n * 2 ^ (64 - n) := by rw [← Nat.pow_add]; congr 1; omega
  have hq := Nat.two_pow_pos (64 - n)
  have hn := Nat.two_pow_pos n
  rw [hp]
  generalize 2 ^ n = x at *
  generalize 2 ^ (64 - n) = y at *
  refine Nat.div_eq_of_lt_le ?_ ?_
  · rw [Nat.sub_mul, Nat.one_mul]; omega
  · rw [Nat.sub_add_cancel hn]
    have : 0 < x * y := Nat.mul_pos hn hq
    omega

set_option maxRecDepth 100000 in
theorem bitmap_all (n : Nat) (h : n ≤ 64) (w : World) :
    Calls Try.prog 86 #[.int .i64 n] w fun e w' => e = .returned (.int .u64 (allN n : Nat)) ∧ w' = w := by
  refine calls_abs fun R hR => ?_
  have hd := all_div n h
  have w1 : IntKind.i64.wrap (64 - (n : Int)) = ((64 - n : Nat) : Int) := by rw [IntKind.wrap_i64]; omega
  have w1' : (64 : Int) - n = ((64 - n : Nat) : Int) := by omega
  by_cases h1 : n < 64
  · have j1 : (n : Int) < 64 := by omega
    go_enter Try.func86, Try.ntmps86
    go_wp2_with fail
    all_goals first | exact hR.out _ _ ⟨rfl, rfl⟩ | (obtain rfl : n = 0 := by omega
                                                     exact hR.out _ _ ⟨rfl, rfl⟩)
  · obtain rfl : n = 64 := by omega
    go_enter Try.func86, Try.ntmps86
    go_wp2_with fail
    all_goals exact hR.out _ _ ⟨rfl, rfl⟩

set_option maxRecDepth 100000 in
theorem bitmap_mask (a r : Int) (w : World) :
    Calls Try.prog 135 #[.int .i64 a, .int .i64 r] w fun e w' => e = .returned (.tuple #[.int .u64 (if goodRun a r then (maskN a.toNat r.toNat : Nat) else 0 : Int), .bool (goodRun a r)]) ∧ w' = w := by
  refine calls_abs fun R hR => ?_
  by_cases r1 : r < 1
  · have hg : goodRun a r = false := by simp [goodRun]; omega
    go_enter Try.func135, Try.ntmps135
    go_wp2_with fail
    exact hR.out _ _ ⟨by rw [hg]; rfl, rfl⟩
  by_cases r2 : 3 < r
  · have hg : goodRun a r = false := by simp [goodRun]; omega
    go_enter Try.func135, Try.ntmps135
    go_wp2_with fail
    exact hR.out _ _ ⟨by rw [hg]; rfl, rfl⟩
  by_cases a1 : a < 0
  · have hg : goodRun a r = false := by simp [goodRun]; omega
    go_enter Try.func135, Try.ntmps135
    go_wp2_with fail
    exact hR.out _ _ ⟨by rw [hg]; rfl, rfl⟩
  obtain ⟨k, rfl⟩ : ∃ k : Nat, r = k := ⟨r.toNat, by omega⟩
  have wk : IntKind.i64.wrap (64 - (k : Int)) = 64 - k := by rw [IntKind.wrap_i64]; omega
  by_cases a2 : 64 - (k : Int) < a
  · have hg : goodRun a k = false := by simp [goodRun]; omega
    go_enter Try.func135, Try.ntmps135
    go_wp2_with fail
    exact hR.out _ _ ⟨by rw [hg]; rfl, rfl⟩
  obtain ⟨b, rfl⟩ : ∃ b : Nat, a = b := ⟨a.toNat, by omega⟩
  have hg : goodRun b k = true := by simp [goodRun]; omega
  have hm : (allN k : Int) * 2 ^ b = (maskN b k : Nat) := by unfold maskN allN; simp
  have hml := maskN_lt (a := b) (r := k) (by omega)
  have hsh : IntKind.u64.wrap ((allN k : Int) * 2 ^ b) = (maskN b k : Nat) := by rw [hm]; exact wrap_u64_small (by omega) (by omega)
  have hmin : min b 64 = b := by omega
  have HG := Lib.hid hg; have HM := Lib.hid hm
  clear hg hm
  go_enter Try.func135, Try.ntmps135
  go_wp2_with fail
  refine (bitmap_all k (by omega) w).mono ?_
  rintro e w2 ⟨rfl, rfl⟩
  go_wp2_with fail
  exact hR.out _ _ ⟨by rw [HG.out]; simp [hsh], rfl⟩

set_option maxRecDepth 100000 in
theorem bitmap_free (m : Nat) (hm : m < 18446744073709551616) (a r : Int) (p q : Nat) (w : World) (hp : w.heap[p]? = some (.cells #[.int .i64 r] 3 (0, 0))) (hq : w.heap[q]? = some (.cells #[.int .u64 m] 27 (0, 0))) :
    Calls Try.prog 134 #[.int .i64 a, .pointer (some ⟨p, 0, none⟩), .pointer (some ⟨q, 0, none⟩)] w fun e w' => e = .returned (.bool (isRun m a r true)) ∧ w' = w := by
  refine calls_abs fun R hR => ?_
  have cp := cell_at hp; have cq := cell_at hq
  clear hp hq
  go_enter Try.func134, Try.ntmps134
  go_wp2_with fail
  refine (bitmap_mask a r w).mono ?_
  rintro e w2 ⟨rfl, rfl⟩
  cases hg : goodRun a r with
  | false =>
    have hi : isRun m a r true = false := by simp [isRun, hg]
    go_wp2_with fail
    exact hR.out _ _ ⟨(by first | (rw [hi]; done) | (rw [hi]; rfl) | simp [hi]), rfl⟩
  | true =>
    have hml := maskN_lt (a := a.toNat) (r := r.toNat) (by simp [goodRun] at hg; omega)
    have hand := u64_and_nat m (maskN a.toNat r.toNat) hm hml
    have hiff := mask_all m a.toNat r.toNat
    have hi : isRun m a r true = runIs m a.toNat r.toNat true := by simp [isRun, hg]
    rw [if_pos rfl]
    have HI := Lib.hid hi
    clear hi hg
    generalize maskN a.toNat r.toNat = k at *
    cases hr : runIs m a.toNat r.toNat true with
    | true =>
      have e1 : (((m &&& k : Nat) : Int) == (k : Int)) = true := by rw [hiff.2 hr]; simp
      clear hiff
      go_wp2_with fail
      exact hR.out _ _ ⟨(by first | (rw [HI.out, hr]; done) | (rw [HI.out, hr]; rfl) | simp [HI.out, hr]), rfl⟩
    | false =>
      have e0 : ¬ (m &&& k) = k := fun h => by rw [hiff.1 h] at hr; cases hr
      have e1 : (((m &&& k : Nat) : Int) == (k : Int)) = false := by simp; omega
      clear hiff e0
      go_wp2_with fail
      exact hR.out _ _ ⟨(by first | (rw [HI.out, hr]; done) | (rw [HI.out, hr]; rfl) | simp [HI.out, hr]), rfl⟩

/-- The least block at which a run is free. -/
def findN (m : Nat) (r : Int) : Option Nat := (List.range 64).find? fun a => isRun m a r true
def atOf : Option Nat → Int
  | some a => a
  | none => 0
theorem findN_step {m : Nat} {r : Int} {k : Nat} (hk : k < 64) (h : ∀ a : Nat, a < k → isRun m a r true = false) (h1 : isRun m k r true = true) : findN m r = some k := by
  unfold findN
  rw [List.find?_range_eq_some]
  exact ⟨h1, List.mem_range.2 hk, fun a ha => by simp [h a ha]⟩
theorem findN_none {m : Nat} {r : Int} (h : ∀ a : Nat, a < 64 → isRun m a r true = false) : findN m r = none := by
  unfold findN
  rw [List.find?_eq_none]
  intro a ha
  simp [h a (List.mem_range.1 ha)]

set_option maxRecDepth 100000 in
theorem bitmap_find (m : Nat) (hm : m < 18446744073709551616) (r : Int) (w : World) :
    Calls Try.prog 89 #[.int .u64 m, .int .i64 r] w fun e w' => e = .returned (.tuple #[.int .i64 (atOf (findN m r)), .bool (findN m r).isSome]) ∧ Keep [] w w' := by
  have hmf : ∀ (fn : Fn) (first cap : Array Value) (w : World), (Instr.makeFunc fn first cap).run Try.prog w = .ok (.func fn first cap) w := fun _ _ _ _ => rfl
  refine calls_abs fun R hR => ?_
  go_enter Try.func89, Try.ntmps89
  go_wp2_with fail
  go_step3
  go_wp2_with fail
  obtain ⟨z, hz⟩ : ∃ z, z = w.heap.size := ⟨_, rfl⟩
  simp only [← hz]
  go_wp2_with fail
  generalize hw1 : World.alloc _ _ = w1
  have b1 : w1.heap[z]? = some (.cells #[.int .u64 m] 27 (0, 0)) := by rw [← hw1, hz]; exact alloc_keeps (alloc_new _ _ _ rfl) _
  have b2 : w1.heap[z + 1]? = some (.cells #[.int .i64 r] 3 (0, 0)) := by rw [← hw1, hz]; exact alloc_new _ _ _ (by simp)
  have K1 : Keep [] w w1 := by rw [← hw1]; exact (by repeat (first | (with_reducible exact Keep.refl _ _) | (with_reducible refine Keep.drew ?_) | (with_reducible refine Keep.drewN ?_ _) | (with_reducible refine Keep.alloc ?_ _) | (with_reducible refine Keep.setCell ?_ (by first | (simp; done) | (simp; omega) | (left; dsimp only; omega)) _)))
  have HB1 := Lib.hid b1; have HB2 := Lib.hid b2; have HK1 := Lib.hid K1
  clear hw1 hz b1 b2 K1
  go_step3
  go_wp2_with fail
  go_loopg [7] 64 (fun j i wr => ∃ k : Nat, k + j = 64 ∧ i = .int .i64 k ∧ (∀ a : Nat, a < k → isRun m a r true = false) ∧ wr = w1)
  case atStart => exact ⟨0, by omega, rfl, fun a ha => by omega, rfl⟩
  case round =>
    obtain ⟨k, hk, rfl, hno, rfl⟩ := hrel
    have HNO := Lib.hid hno
    clear hno
    by_cases hk64 : k < 64
    · have k1 : (k : Int) < 64 := by omega
      go_wp2_with fail
      refine (bitmap_free m hm k r (z + 1) z wr HB2.out HB1.out).mono ?_
      rintro e w2 ⟨rfl, rfl⟩
      cases hi : isRun m k r true with
      | true =>
        have hf := findN_step hk64 HNO.out hi
        have HF := Lib.hid hf
        have k2 : ((k : Int) == 64) = false := by simp; omega
        clear hf hi
        go_wp2_with fail
        exact hR.out _ _ ⟨by rw [HF.out]; rfl, HK1.out⟩
      | false =>
        have HI := Lib.hid hi
        clear hi
        go_wp2_with fail
        go_roundg (64 - (k + 1))
        case measure => omega
        case rel => exact ⟨k + 1, by omega, by go_num, fun a ha => by
          by_cases e : a = k
          · subst e; exact HI.out
          · exact HNO.out a (by omega), rfl⟩
    · obtain rfl : k = 64 := by omega
      have hf := findN_none HNO.out
      have HF := Lib.hid hf
      clear hf
      go_wp2_with fail
      exact hR.out _ _ ⟨by rw [HF.out]; rfl, HK1.out⟩

set_option maxRecDepth 100000 in
theorem bitmap_take (m : Nat) (hm : m < 18446744073709551616) (a r : Int) (w : World) :
    Calls Try.prog 90 #[.int .u64 m, .int .i64 a, .int .i64 r] w fun e w' => e = .returned (.tuple #[.int .u64 (if isRun m a r true then withRun m a.toNat r.toNat false else m : Nat), .bool (isRun m a r true)]) ∧ w' = w := by
  refine calls_abs fun R hR => ?_
  go_enter Try.func90, Try.ntmps90
  go_wp2_with fail
  refine (bitmap_mask a r w).mono ?_
  rintro e w2 ⟨rfl, rfl⟩
  cases hg : goodRun a r with
  | false =>
    have hi : isRun m a r true = false := by simp [isRun, hg]
    go_wp2_with fail
    exact hR.out _ _ ⟨by rw [hi]; rfl, rfl⟩
  | true =>
    have hml := maskN_lt (a := a.toNat) (r := r.toNat) (by simp [goodRun] at hg; omega)
    have hand := u64_and_nat m (maskN a.toNat r.toNat) hm hml
    have hnot := u64_andNot_nat m (maskN a.toNat r.toNat) hm hml
    have hiff := mask_all m a.toNat r.toNat
    have hi : isRun m a r true = runIs m a.toNat r.toNat true := by simp [isRun, hg]
    have hwr : withRun m a.toNat r.toNat false = m &&& (18446744073709551615 - maskN a.toNat r.toNat) := rfl
    rw [if_pos rfl]
    have HI := Lib.hid hi; have HWR := Lib.hid hwr
    clear hi hg hwr
    generalize maskN a.toNat r.toNat = k at *
    cases hr : runIs m a.toNat r.toNat true with
    | true =>
      have e1 : (((m &&& k : Nat) : Int) != (k : Int)) = false := by rw [hiff.2 hr]; simp
      clear hiff
      go_wp2_with fail
      exact hR.out _ _ ⟨by rw [HI.out, hr, if_pos rfl, HWR.out, ← hnot]; rfl, rfl⟩
    | false =>
      have e0 : ¬ (m &&& k) = k := fun h => by rw [hiff.1 h] at hr; cases hr
      have e1 : (((m &&& k : Nat) : Int) != (k : Int)) = true := by simp; omega
      clear hiff e0
      go_wp2_with fail
      exact hR.out _ _ ⟨by rw [HI.out, hr]; rfl, rfl⟩

set_option maxRecDepth 100000 in
theorem bitmap_give (m : Nat) (hm : m < 18446744073709551616) (a r : Int) (w : World) :
    Calls Try.prog 94 #[.int .u64 m, .int .i64 a, .int .i64 r] w fun e w' => e = .returned (.tuple #[.int .u64 (if isRun m a r false then withRun m a.toNat r.toNat true else m : Nat), .bool (isRun m a r false)]) ∧ w' = w := by
  refine calls_abs fun R hR => ?_
  go_enter Try.func94, Try.ntmps94
  go_wp2_with fail
  refine (bitmap_mask a r w).mono ?_
  rintro e w2 ⟨rfl, rfl⟩
  cases hg : goodRun a r with
  | false =>
    have hi : isRun m a r false = false := by simp [isRun, hg]
    go_wp2_with fail
    exact hR.out _ _ ⟨by rw [hi]; rfl, rfl⟩
  | true =>
    have hml := maskN_lt (a := a.toNat) (r := r.toNat) (by simp [goodRun] at hg; omega)
    have hand := u64_and_nat m (maskN a.toNat r.toNat) hm hml
    have hor := u64_or_nat m (maskN a.toNat r.toNat) hm hml
    have hiff := mask_none m a.toNat r.toNat
    have hi : isRun m a r false = runIs m a.toNat r.toNat false := by simp [isRun, hg]
    have hwr : withRun m a.toNat r.toNat true = m ||| maskN a.toNat r.toNat := rfl
    rw [if_pos rfl]
    have HI := Lib.hid hi; have HWR := Lib.hid hwr
    clear hi hg hwr
    generalize maskN a.toNat r.toNat = k at *
    cases hr : runIs m a.toNat r.toNat false with
    | true =>
      have e1 : (((m &&& k : Nat) : Int) != 0) = false := by rw [hiff.2 hr]; simp
      clear hiff
      go_wp2_with fail
      exact hR.out _ _ ⟨by rw [HI.out, hr, if_pos rfl, HWR.out, ← hor]; rfl, rfl⟩
    | false =>
      have e0 : ¬ (m &&& k) = 0 := fun h => by rw [hiff.1 h] at hr; cases hr
      have e1 : (((m &&& k : Nat) : Int) != 0) = true := by simp; omega
      clear hiff e0
      go_wp2_with fail
      exact hR.out _ _ ⟨by rw [HI.out, hr]; rfl, rfl⟩
end Go.Proofs.Ytnadiddaeolanaa
