/- The contracts of package table, and of demesneref05. -/
import Derived.Test.YtnadiddaeolanaaWord2
import Derived.Shelf.RegionOpenPlain
namespace Go.Proofs.Ytnadiddaeolanaa
open Go.RowKit
set_option linter.unusedVariables false
set_option linter.unusedSimpArgs false

/-- An entry. -/
structure En where
  k : Int
  c : Int
  r : Int
  o : Int
def En.zero : En := ⟨0, 0, 0, 0⟩
def En.val (e : En) : Value := .agg #[.int .u8 e.k, .int .u8 e.c, .int .u8 e.r, .int .u8 e.o]
def En.u8 (e : En) : Prop := (0 ≤ e.k ∧ e.k ≤ 255) ∧ (0 ≤ e.c ∧ e.c ≤ 255) ∧ (0 ≤ e.r ∧ e.r ≤ 255) ∧ (0 ≤ e.o ∧ e.o ≤ 255)
def En.may (e : En) : Bool :=
  decide (e.k ≤ 5 ∧ e.c ≤ 3 ∧ e.o ≤ 63 ∧ e.r ≤ 3 ∧ (e.k = 1 ∨ e.c = 0) ∧ ((e.k = 2 ∨ e.k = 5) ↔ 0 < e.r) ∧ (e.k ≠ 0 ∧ e.k ≠ 3 ∨ e.o = 0))
def En.word (e : En) : Int := e.k + 8 * e.c + 32 * e.r + 128 * e.o
def enOf (w : Int) : En := ⟨w % 8, w / 8 % 4, w / 32 % 4, w / 128 % 64⟩
def isEn (w : Int) : Bool := (enOf w).may && (enOf w).word == w
def takeE (w : Int) : En := if isEn w then enOf w else En.zero
theorem enOf_u8 (w : Int) : (enOf w).u8 := by
  unfold En.u8 enOf
  refine ⟨⟨?_, ?_⟩, ⟨?_, ?_⟩, ⟨?_, ?_⟩, ⟨?_, ?_⟩⟩ <;> dsimp only <;> omega
theorem takeE_u8 (w : Int) : (takeE w).u8 := by
  unfold takeE
  split
  · exact enOf_u8 w
  · unfold En.u8 En.zero; decide
theorem takeE_may (w : Int) : (takeE w).may = true := by
  unfold takeE
  split
  · rename_i h
    simp [isEn] at h
    exact h.1
  · decide
def En.blocks (e : En) : Int := if e.k = 2 ∨ e.k = 5 then e.r else 1

set_option maxRecDepth 100000 in
theorem table_drop (is : Bool) (q j : Nat) (cs : Array Value) (t : TypeId) (hj : j < cs.size) (hu : ∃ x, cs[j]? = some (.int .u8 x)) (w : World) (h : w.heap[q]? = some (.cells cs t (0, 0))) :
    Calls Try.prog 144 #[.bool is, .pointer (some ⟨q, j, none⟩)] w fun e w' => e = .returned (.tuple #[]) ∧ w'.heap[q]? = some (.cells (if is then cs.setIfInBounds j (.int .u8 0) else cs) t (0, 0)) ∧ Keep [q] w w' := by
  refine calls_abs fun R hR => ?_
  have c := cell_at h j
  have f := frozen_at h
  obtain ⟨x, hx⟩ := hu
  rw [hx] at c
  have hl := lt_of_block h
  have HH := Lib.hid h
  clear h
  cases is with
  | true =>
    go_enter Try.func144, Try.ntmps144
    go_wp2_with fail
    refine bodyPost_end (v := .tuple #[]) ?_ rfl ?_
    · kernel_rfl
    exact hR.out _ _ ⟨rfl, by simpa using put_at HH.out j (.int .u8 0), (by repeat (first | (with_reducible exact Keep.refl _ _) | (with_reducible refine Keep.drew ?_) | (with_reducible refine Keep.drewN ?_ _) | (with_reducible refine Keep.alloc ?_ _) | (with_reducible refine Keep.setCell ?_ (by first | (simp; done) | (simp; omega) | (left; dsimp only; omega)) _)))⟩
  | false =>
    go_enter Try.func144, Try.ntmps144
    go_wp2_with fail
    refine bodyPost_end (v := .tuple #[]) ?_ rfl ?_
    · kernel_rfl
    exact hR.out _ _ ⟨rfl, by simpa using HH.out, (by repeat (first | (with_reducible exact Keep.refl _ _) | (with_reducible refine Keep.drew ?_) | (with_reducible refine Keep.drewN ?_ _) | (with_reducible refine Keep.alloc ?_ _) | (with_reducible refine Keep.setCell ?_ (by first | (simp; done) | (simp; omega) | (left; dsimp only; omega)) _)))⟩

def En.plain (e : En) : En := ⟨0, if e.k = 1 then 0 else e.c, if e.k = 2 ∨ e.k = 5 then 0 else e.r, if e.k = 2 ∨ e.k = 5 ∨ e.k = 1 ∨ e.k = 4 then 0 else e.o⟩

set_option maxRecDepth 100000 in
set_option maxHeartbeats 4000000 in
theorem table_plain (e : En) (w : World) :
    Calls Try.prog 142 #[e.val] w fun x w' => x = .returned e.plain.val ∧ Keep [] w w' := by
  refine calls_abs fun R hR => ?_
  obtain ⟨k, c, r, o⟩ := e
  have hF := Try.call144
  unfold En.val
  dsimp only
  by_cases k2 : k = 2
  · subst k2
    go_enter Try.func142, Try.ntmps142
    go_wp2_with fail
    obtain ⟨z, hz⟩ : ∃ z, z = w.heap.size := ⟨_, rfl⟩
    simp only [← hz]
    generalize hw1 : World.alloc _ _ = w1
    have hb1 : w1.heap[z]? = some (.cells #[.int .u8 2, .int .u8 c, .int .u8 r, .int .u8 o] 74 (0, 0)) := by rw [← hw1, hz]; exact alloc_keeps (alloc_new _ _ _ rfl) _
    have hb2 : w1.heap[z + 1]? = some (.cells #[.int .u8 0, .int .u8 0, .int .u8 0, .int .u8 0] 74 (0, 0)) := by rw [← hw1, hz]; exact alloc_new _ _ _ (by simp)
    have K1 : Keep [] w w1 := by rw [← hw1]; exact (by repeat (first | (with_reducible exact Keep.refl _ _) | (with_reducible refine Keep.drew ?_) | (with_reducible refine Keep.drewN ?_ _) | (with_reducible refine Keep.alloc ?_ _) | (with_reducible refine Keep.setCell ?_ (by first | (simp; done) | (simp; omega) | (left; dsimp only; omega)) _)))
    have HB1 := Lib.hid hb1; have HC1 := Lib.hid hb2; have HK1 := Lib.hid K1; have HZ := Lib.hid hz
    have c1 := cell_at hb1; have f1 := frozen_at hb1; have l1 := lt_of_block hb1; have f2 := frozen_at hb2; have c2 := cell_at hb2
    clear hw1 hz hb1 hb2 K1
    go_wp2_with fail
    refine (table_drop _ z 1 _ _ (by simp) ⟨_, rfl⟩ w1 HB1.out).mono ?_
    rintro x w2 ⟨rfl, hb, K2⟩
    simp at hb
    have HB2 := Lib.hid hb; have HC2 := Lib.hid (K2.get HC1.out (by simp)); have HK2 := Lib.hid (HK1.out.fresh K2 (by have := HZ.out; simp; omega))
    have c1 := cell_at hb; have f1 := frozen_at hb; have l1 := lt_of_block hb
    have c2 := cell_at HC2.out; have f2 := frozen_at HC2.out
    clear hb K2
    go_wp2_with fail
    refine (table_drop _ z 2 _ _ (by simp) ⟨_, rfl⟩ w2 HB2.out).mono ?_
    rintro x w3 ⟨rfl, hb, K3⟩
    simp at hb
    have HB3 := Lib.hid hb; have HC3 := Lib.hid (K3.get HC2.out (by simp)); have HK3 := Lib.hid (HK2.out.fresh K3 (by have := HZ.out; simp; omega))
    have c1 := cell_at hb; have f1 := frozen_at hb; have l1 := lt_of_block hb
    have c2 := cell_at HC3.out; have f2 := frozen_at HC3.out
    clear hb K3
    go_wp2_with fail
    refine (table_drop _ z 3 _ _ (by simp) ⟨_, rfl⟩ w3 HB3.out).mono ?_
    rintro x w4 ⟨rfl, hb, K4⟩
    simp at hb
    have HB4 := Lib.hid hb; have HC4 := Lib.hid (K4.get HC3.out (by simp)); have HK4 := Lib.hid (HK3.out.fresh K4 (by have := HZ.out; simp; omega))
    have c1 := cell_at hb; have f1 := frozen_at hb; have l1 := lt_of_block hb
    have c2 := cell_at HC4.out; have f2 := frozen_at HC4.out
    clear hb K4
    go_wp2_with fail
    refine bodyPost_ret (v := (En.mk 0 c 0 0).val) ?_ rfl ?_
    · simp [results, Try.results142, go_sem, c2, En.val]
    refine hR.out _ _ ⟨by simp [En.plain, *], ?_⟩
    have hz4 := HZ.out
    ((repeat (first | (with_reducible exact HK4.out) | (with_reducible refine Keep.drew ?_) | (with_reducible refine Keep.drewN ?_ _) | (with_reducible refine Keep.alloc ?_ _) | ((with_reducible refine Keep.setCell ?_ ?_ _); rotate_left; focus (first | (simp; done) | (simp; omega) | (left; dsimp only; omega))))); done)
  have j2 : (k == 2) = false := by simp [k2]
  by_cases k5 : k = 5
  · subst k5
    go_enter Try.func142, Try.ntmps142
    go_wp2_with fail
    obtain ⟨z, hz⟩ : ∃ z, z = w.heap.size := ⟨_, rfl⟩
    simp only [← hz]
    generalize hw1 : World.alloc _ _ = w1
    have hb1 : w1.heap[z]? = some (.cells #[.int .u8 5, .int .u8 c, .int .u8 r, .int .u8 o] 74 (0, 0)) := by rw [← hw1, hz]; exact alloc_keeps (alloc_new _ _ _ rfl) _
    have hb2 : w1.heap[z + 1]? = some (.cells #[.int .u8 0, .int .u8 0, .int .u8 0, .int .u8 0] 74 (0, 0)) := by rw [← hw1, hz]; exact alloc_new _ _ _ (by simp)
    have K1 : Keep [] w w1 := by rw [← hw1]; exact (by repeat (first | (with_reducible exact Keep.refl _ _) | (with_reducible refine Keep.drew ?_) | (with_reducible refine Keep.drewN ?_ _) | (with_reducible refine Keep.alloc ?_ _) | (with_reducible refine Keep.setCell ?_ (by first | (simp; done) | (simp; omega) | (left; dsimp only; omega)) _)))
    have HB1 := Lib.hid hb1; have HC1 := Lib.hid hb2; have HK1 := Lib.hid K1; have HZ := Lib.hid hz
    have c1 := cell_at hb1; have f1 := frozen_at hb1; have l1 := lt_of_block hb1; have f2 := frozen_at hb2; have c2 := cell_at hb2
    clear hw1 hz hb1 hb2 K1
    go_wp2_with fail
    refine (table_drop _ z 1 _ _ (by simp) ⟨_, rfl⟩ w1 HB1.out).mono ?_
    rintro x w2 ⟨rfl, hb, K2⟩
    simp at hb
    have HB2 := Lib.hid hb; have HC2 := Lib.hid (K2.get HC1.out (by simp)); have HK2 := Lib.hid (HK1.out.fresh K2 (by have := HZ.out; simp; omega))
    have c1 := cell_at hb; have f1 := frozen_at hb; have l1 := lt_of_block hb
    have c2 := cell_at HC2.out; have f2 := frozen_at HC2.out
    clear hb K2
    go_wp2_with fail
    refine (table_drop _ z 2 _ _ (by simp) ⟨_, rfl⟩ w2 HB2.out).mono ?_
    rintro x w3 ⟨rfl, hb, K3⟩
    simp at hb
    have HB3 := Lib.hid hb; have HC3 := Lib.hid (K3.get HC2.out (by simp)); have HK3 := Lib.hid (HK2.out.fresh K3 (by have := HZ.out; simp; omega))
    have c1 := cell_at hb; have f1 := frozen_at hb; have l1 := lt_of_block hb
    have c2 := cell_at HC3.out; have f2 := frozen_at HC3.out
    clear hb K3
    go_wp2_with fail
    refine (table_drop _ z 3 _ _ (by simp) ⟨_, rfl⟩ w3 HB3.out).mono ?_
    rintro x w4 ⟨rfl, hb, K4⟩
    simp at hb
    have HB4 := Lib.hid hb; have HC4 := Lib.hid (K4.get HC3.out (by simp)); have HK4 := Lib.hid (HK3.out.fresh K4 (by have := HZ.out; simp; omega))
    have c1 := cell_at hb; have f1 := frozen_at hb; have l1 := lt_of_block hb
    have c2 := cell_at HC4.out; have f2 := frozen_at HC4.out
    clear hb K4
    go_wp2_with fail
    refine bodyPost_ret (v := (En.mk 0 c 0 0).val) ?_ rfl ?_
    · simp [results, Try.results142, go_sem, c2, En.val]
    refine hR.out _ _ ⟨by simp [En.plain, *], ?_⟩
    have hz4 := HZ.out
    ((repeat (first | (with_reducible exact HK4.out) | (with_reducible refine Keep.drew ?_) | (with_reducible refine Keep.drewN ?_ _) | (with_reducible refine Keep.alloc ?_ _) | ((with_reducible refine Keep.setCell ?_ ?_ _); rotate_left; focus (first | (simp; done) | (simp; omega) | (left; dsimp only; omega))))); done)
  have j5 : (k == 5) = false := by simp [k5]
  by_cases k1 : k = 1
  · subst k1
    go_enter Try.func142, Try.ntmps142
    go_wp2_with fail
    obtain ⟨z, hz⟩ : ∃ z, z = w.heap.size := ⟨_, rfl⟩
    simp only [← hz]
    generalize hw1 : World.alloc _ _ = w1
    have hb1 : w1.heap[z]? = some (.cells #[.int .u8 1, .int .u8 c, .int .u8 r, .int .u8 o] 74 (0, 0)) := by rw [← hw1, hz]; exact alloc_keeps (alloc_new _ _ _ rfl) _
    have hb2 : w1.heap[z + 1]? = some (.cells #[.int .u8 0, .int .u8 0, .int .u8 0, .int .u8 0] 74 (0, 0)) := by rw [← hw1, hz]; exact alloc_new _ _ _ (by simp)
    have K1 : Keep [] w w1 := by rw [← hw1]; exact (by repeat (first | (with_reducible exact Keep.refl _ _) | (with_reducible refine Keep.drew ?_) | (with_reducible refine Keep.drewN ?_ _) | (with_reducible refine Keep.alloc ?_ _) | (with_reducible refine Keep.setCell ?_ (by first | (simp; done) | (simp; omega) | (left; dsimp only; omega)) _)))
    have HB1 := Lib.hid hb1; have HC1 := Lib.hid hb2; have HK1 := Lib.hid K1; have HZ := Lib.hid hz
    have c1 := cell_at hb1; have f1 := frozen_at hb1; have l1 := lt_of_block hb1; have f2 := frozen_at hb2; have c2 := cell_at hb2
    clear hw1 hz hb1 hb2 K1
    go_wp2_with fail
    refine (table_drop _ z 1 _ _ (by simp) ⟨_, rfl⟩ w1 HB1.out).mono ?_
    rintro x w2 ⟨rfl, hb, K2⟩
    simp at hb
    have HB2 := Lib.hid hb; have HC2 := Lib.hid (K2.get HC1.out (by simp)); have HK2 := Lib.hid (HK1.out.fresh K2 (by have := HZ.out; simp; omega))
    have c1 := cell_at hb; have f1 := frozen_at hb; have l1 := lt_of_block hb
    have c2 := cell_at HC2.out; have f2 := frozen_at HC2.out
    clear hb K2
    go_wp2_with fail
    refine (table_drop _ z 2 _ _ (by simp) ⟨_, rfl⟩ w2 HB2.out).mono ?_
    rintro x w3 ⟨rfl, hb, K3⟩
    simp at hb
    have HB3 := Lib.hid hb; have HC3 := Lib.hid (K3.get HC2.out (by simp)); have HK3 := Lib.hid (HK2.out.fresh K3 (by have := HZ.out; simp; omega))
    have c1 := cell_at hb; have f1 := frozen_at hb; have l1 := lt_of_block hb
    have c2 := cell_at HC3.out; have f2 := frozen_at HC3.out
    clear hb K3
    go_wp2_with fail
    refine (table_drop _ z 3 _ _ (by simp) ⟨_, rfl⟩ w3 HB3.out).mono ?_
    rintro x w4 ⟨rfl, hb, K4⟩
    simp at hb
    have HB4 := Lib.hid hb; have HC4 := Lib.hid (K4.get HC3.out (by simp)); have HK4 := Lib.hid (HK3.out.fresh K4 (by have := HZ.out; simp; omega))
    have c1 := cell_at hb; have f1 := frozen_at hb; have l1 := lt_of_block hb
    have c2 := cell_at HC4.out; have f2 := frozen_at HC4.out
    clear hb K4
    go_wp2_with fail
    refine bodyPost_ret (v := (En.mk 0 0 r 0).val) ?_ rfl ?_
    · simp [results, Try.results142, go_sem, c2, En.val]
    refine hR.out _ _ ⟨by simp [En.plain, *], ?_⟩
    have hz4 := HZ.out
    ((repeat (first | (with_reducible exact HK4.out) | (with_reducible refine Keep.drew ?_) | (with_reducible refine Keep.drewN ?_ _) | (with_reducible refine Keep.alloc ?_ _) | ((with_reducible refine Keep.setCell ?_ ?_ _); rotate_left; focus (first | (simp; done) | (simp; omega) | (left; dsimp only; omega))))); done)
  have j1 : (k == 1) = false := by simp [k1]
  by_cases k4 : k = 4
  · subst k4
    go_enter Try.func142, Try.ntmps142
    go_wp2_with fail
    obtain ⟨z, hz⟩ : ∃ z, z = w.heap.size := ⟨_, rfl⟩
    simp only [← hz]
    generalize hw1 : World.alloc _ _ = w1
    have hb1 : w1.heap[z]? = some (.cells #[.int .u8 4, .int .u8 c, .int .u8 r, .int .u8 o] 74 (0, 0)) := by rw [← hw1, hz]; exact alloc_keeps (alloc_new _ _ _ rfl) _
    have hb2 : w1.heap[z + 1]? = some (.cells #[.int .u8 0, .int .u8 0, .int .u8 0, .int .u8 0] 74 (0, 0)) := by rw [← hw1, hz]; exact alloc_new _ _ _ (by simp)
    have K1 : Keep [] w w1 := by rw [← hw1]; exact (by repeat (first | (with_reducible exact Keep.refl _ _) | (with_reducible refine Keep.drew ?_) | (with_reducible refine Keep.drewN ?_ _) | (with_reducible refine Keep.alloc ?_ _) | (with_reducible refine Keep.setCell ?_ (by first | (simp; done) | (simp; omega) | (left; dsimp only; omega)) _)))
    have HB1 := Lib.hid hb1; have HC1 := Lib.hid hb2; have HK1 := Lib.hid K1; have HZ := Lib.hid hz
    have c1 := cell_at hb1; have f1 := frozen_at hb1; have l1 := lt_of_block hb1; have f2 := frozen_at hb2; have c2 := cell_at hb2
    clear hw1 hz hb1 hb2 K1
    go_wp2_with fail
    refine (table_drop _ z 1 _ _ (by simp) ⟨_, rfl⟩ w1 HB1.out).mono ?_
    rintro x w2 ⟨rfl, hb, K2⟩
    simp at hb
    have HB2 := Lib.hid hb; have HC2 := Lib.hid (K2.get HC1.out (by simp)); have HK2 := Lib.hid (HK1.out.fresh K2 (by have := HZ.out; simp; omega))
    have c1 := cell_at hb; have f1 := frozen_at hb; have l1 := lt_of_block hb
    have c2 := cell_at HC2.out; have f2 := frozen_at HC2.out
    clear hb K2
    go_wp2_with fail
    refine (table_drop _ z 2 _ _ (by simp) ⟨_, rfl⟩ w2 HB2.out).mono ?_
    rintro x w3 ⟨rfl, hb, K3⟩
    simp at hb
    have HB3 := Lib.hid hb; have HC3 := Lib.hid (K3.get HC2.out (by simp)); have HK3 := Lib.hid (HK2.out.fresh K3 (by have := HZ.out; simp; omega))
    have c1 := cell_at hb; have f1 := frozen_at hb; have l1 := lt_of_block hb
    have c2 := cell_at HC3.out; have f2 := frozen_at HC3.out
    clear hb K3
    go_wp2_with fail
    refine (table_drop _ z 3 _ _ (by simp) ⟨_, rfl⟩ w3 HB3.out).mono ?_
    rintro x w4 ⟨rfl, hb, K4⟩
    simp at hb
    have HB4 := Lib.hid hb; have HC4 := Lib.hid (K4.get HC3.out (by simp)); have HK4 := Lib.hid (HK3.out.fresh K4 (by have := HZ.out; simp; omega))
    have c1 := cell_at hb; have f1 := frozen_at hb; have l1 := lt_of_block hb
    have c2 := cell_at HC4.out; have f2 := frozen_at HC4.out
    clear hb K4
    go_wp2_with fail
    refine bodyPost_ret (v := (En.mk 0 c r 0).val) ?_ rfl ?_
    · simp [results, Try.results142, go_sem, c2, En.val]
    refine hR.out _ _ ⟨by simp [En.plain, *], ?_⟩
    have hz4 := HZ.out
    ((repeat (first | (with_reducible exact HK4.out) | (with_reducible refine Keep.drew ?_) | (with_reducible refine Keep.drewN ?_ _) | (with_reducible refine Keep.alloc ?_ _) | ((with_reducible refine Keep.setCell ?_ ?_ _); rotate_left; focus (first | (simp; done) | (simp; omega) | (left; dsimp only; omega))))); done)
  have j4 : (k == 4) = false := by simp [k4]
  go_enter Try.func142, Try.ntmps142
  go_wp2_with fail
  obtain ⟨z, hz⟩ : ∃ z, z = w.heap.size := ⟨_, rfl⟩
  simp only [← hz]
  generalize hw1 : World.alloc _ _ = w1
  have hb1 : w1.heap[z]? = some (.cells #[.int .u8 k, .int .u8 c, .int .u8 r, .int .u8 o] 74 (0, 0)) := by rw [← hw1, hz]; exact alloc_keeps (alloc_new _ _ _ rfl) _
  have hb2 : w1.heap[z + 1]? = some (.cells #[.int .u8 0, .int .u8 0, .int .u8 0, .int .u8 0] 74 (0, 0)) := by rw [← hw1, hz]; exact alloc_new _ _ _ (by simp)
  have K1 : Keep [] w w1 := by rw [← hw1]; exact (by repeat (first | (with_reducible exact Keep.refl _ _) | (with_reducible refine Keep.drew ?_) | (with_reducible refine Keep.drewN ?_ _) | (with_reducible refine Keep.alloc ?_ _) | (with_reducible refine Keep.setCell ?_ (by first | (simp; done) | (simp; omega) | (left; dsimp only; omega)) _)))
  have HB1 := Lib.hid hb1; have HC1 := Lib.hid hb2; have HK1 := Lib.hid K1; have HZ := Lib.hid hz
  have c1 := cell_at hb1; have f1 := frozen_at hb1; have l1 := lt_of_block hb1; have f2 := frozen_at hb2; have c2 := cell_at hb2
  clear hw1 hz hb1 hb2 K1
  go_wp2_with fail
  refine (table_drop _ z 1 _ _ (by simp) ⟨_, rfl⟩ w1 HB1.out).mono ?_
  rintro x w2 ⟨rfl, hb, K2⟩
  simp at hb
  have HB2 := Lib.hid hb; have HC2 := Lib.hid (K2.get HC1.out (by simp)); have HK2 := Lib.hid (HK1.out.fresh K2 (by have := HZ.out; simp; omega))
  have c1 := cell_at hb; have f1 := frozen_at hb; have l1 := lt_of_block hb
  have c2 := cell_at HC2.out; have f2 := frozen_at HC2.out
  clear hb K2
  go_wp2_with fail
  refine (table_drop _ z 2 _ _ (by simp) ⟨_, rfl⟩ w2 HB2.out).mono ?_
  rintro x w3 ⟨rfl, hb, K3⟩
  simp at hb
  have HB3 := Lib.hid hb; have HC3 := Lib.hid (K3.get HC2.out (by simp)); have HK3 := Lib.hid (HK2.out.fresh K3 (by have := HZ.out; simp; omega))
  have c1 := cell_at hb; have f1 := frozen_at hb; have l1 := lt_of_block hb
  have c2 := cell_at HC3.out; have f2 := frozen_at HC3.out
  clear hb K3
  go_wp2_with fail
  refine (table_drop _ z 3 _ _ (by simp) ⟨_, rfl⟩ w3 HB3.out).mono ?_
  rintro x w4 ⟨rfl, hb, K4⟩
  simp at hb
  have HB4 := Lib.hid hb; have HC4 := Lib.hid (K4.get HC3.out (by simp)); have HK4 := Lib.hid (HK3.out.fresh K4 (by have := HZ.out; simp; omega))
  have c1 := cell_at hb; have f1 := frozen_at hb; have l1 := lt_of_block hb
  have c2 := cell_at HC4.out; have f2 := frozen_at HC4.out
  clear hb K4
  go_wp2_with fail
  refine bodyPost_ret (v := (En.mk 0 c r o).val) ?_ rfl ?_
  · simp [results, Try.results142, go_sem, c2, En.val]
  refine hR.out _ _ ⟨by simp [En.plain, *], ?_⟩
  have hz4 := HZ.out
  ((repeat (first | (with_reducible exact HK4.out) | (with_reducible refine Keep.drew ?_) | (with_reducible refine Keep.drewN ?_ _) | (with_reducible refine Keep.alloc ?_ _) | ((with_reducible refine Keep.setCell ?_ ?_ _); rotate_left; focus (first | (simp; done) | (simp; omega) | (left; dsimp only; omega))))); done)
end Go.Proofs.Ytnadiddaeolanaa
