/- The contracts of demesneref05. -/
import Derived.Test.YtnadiddaeolanaaTbl2
namespace Go.Proofs.Ytnadiddaeolanaa
open Go.RowKit
set_option linter.unusedVariables false
set_option linter.unusedSimpArgs false

set_option maxRecDepth 100000 in
set_option maxHeartbeats 4000000 in
theorem ref05_may (e : En) (hu : e.u8) (w : World) :
    Calls Try.prog 46 #[e.val] w fun x w' => x = .returned (.bool e.may) ∧ Keep [] w w' := by
  refine calls_abs fun R hR => ?_
  obtain ⟨k, c, r, o⟩ := e
  obtain ⟨⟨u1, u2⟩, ⟨u3, u4⟩, ⟨u5, u6⟩, ⟨u7, u8⟩⟩ := hu
  dsimp only at u1 u2 u3 u4 u5 u6 u7 u8
  have hmay : ∀ b : Bool, (b = true ↔ (k ≤ 5 ∧ c ≤ 3 ∧ o ≤ 63 ∧ r ≤ 3 ∧ (k = 1 ∨ c = 0) ∧ ((k = 2 ∨ k = 5) ↔ 0 < r) ∧ (k ≠ 0 ∧ k ≠ 3 ∨ o = 0))) → (En.mk k c r o).may = b := fun b hb => by
    rw [Bool.eq_iff_iff, hb]; unfold En.may; exact decide_eq_true_iff
  have hno : ¬ (k ≤ 5 ∧ c ≤ 3 ∧ o ≤ 63 ∧ r ≤ 3 ∧ (k = 1 ∨ c = 0) ∧ ((k = 2 ∨ k = 5) ↔ 0 < r) ∧ (k ≠ 0 ∧ k ≠ 3 ∨ o = 0)) → (En.mk k c r o).may = false := fun h => hmay false ⟨fun h => (by cases h), fun h' => absurd h' h⟩
  unfold En.val
  dsimp only
  have HMAY := Lib.hid hmay; have HNO := Lib.hid hno
  clear hmay hno
  by_cases k1 : 5 < k
  · have hm := HNO.out (by omega)
    go_enter Try.func46, Try.ntmps46
    go_wp2_with fail
    exact hR.out _ _ ⟨(by first | (rw [hm]; done) | (rw [hm]; rfl) | simp [hm]), (by repeat (first | (with_reducible exact Keep.refl _ _) | (with_reducible refine Keep.drew ?_) | (with_reducible refine Keep.drewN ?_ _) | (with_reducible refine Keep.alloc ?_ _) | (with_reducible refine Keep.setCell ?_ (by first | (simp; done) | (simp; omega) | (left; dsimp only; omega)) _)))⟩
  by_cases c1 : 3 < c
  · have hm := HNO.out (by omega)
    go_enter Try.func46, Try.ntmps46
    go_wp2_with fail
    exact hR.out _ _ ⟨(by first | (rw [hm]; done) | (rw [hm]; rfl) | simp [hm]), (by repeat (first | (with_reducible exact Keep.refl _ _) | (with_reducible refine Keep.drew ?_) | (with_reducible refine Keep.drewN ?_ _) | (with_reducible refine Keep.alloc ?_ _) | (with_reducible refine Keep.setCell ?_ (by first | (simp; done) | (simp; omega) | (left; dsimp only; omega)) _)))⟩
  by_cases o1 : 63 < o
  · have hm := HNO.out (by omega)
    go_enter Try.func46, Try.ntmps46
    go_wp2_with fail
    exact hR.out _ _ ⟨(by first | (rw [hm]; done) | (rw [hm]; rfl) | simp [hm]), (by repeat (first | (with_reducible exact Keep.refl _ _) | (with_reducible refine Keep.drew ?_) | (with_reducible refine Keep.drewN ?_ _) | (with_reducible refine Keep.alloc ?_ _) | (with_reducible refine Keep.setCell ?_ (by first | (simp; done) | (simp; omega) | (left; dsimp only; omega)) _)))⟩
  by_cases r1 : 3 < r
  · have hm := HNO.out (by omega)
    go_enter Try.func46, Try.ntmps46
    go_wp2_with fail
    exact hR.out _ _ ⟨(by first | (rw [hm]; done) | (rw [hm]; rfl) | simp [hm]), (by repeat (first | (with_reducible exact Keep.refl _ _) | (with_reducible refine Keep.drew ?_) | (with_reducible refine Keep.drewN ?_ _) | (with_reducible refine Keep.alloc ?_ _) | (with_reducible refine Keep.setCell ?_ (by first | (simp; done) | (simp; omega) | (left; dsimp only; omega)) _)))⟩
  have hk : k = 0 ∨ k = 1 ∨ k = 2 ∨ k = 3 ∨ k = 4 ∨ k = 5 := by omega
  by_cases c0 : 0 < c <;> by_cases r0 : 0 < r <;> by_cases o0 : o = 0 <;> (
    have jo : (o == 0) = decide (o = 0) := by rw [Bool.eq_iff_iff]; simp
    simp only [o0, decide_true, decide_false] at jo
    rcases hk with rfl | rfl | rfl | rfl | rfl | rfl <;> first
    | (have hm := HMAY.out true (by first | (simp; done) | (simp; omega))
       go_enter Try.func46, Try.ntmps46
       go_wp2_with fail
       exact hR.out _ _ ⟨(by first | (rw [hm]; done) | (rw [hm]; rfl) | simp [hm]), (by repeat (first | (with_reducible exact Keep.refl _ _) | (with_reducible refine Keep.drew ?_) | (with_reducible refine Keep.drewN ?_ _) | (with_reducible refine Keep.alloc ?_ _) | (with_reducible refine Keep.setCell ?_ (by first | (simp; done) | (simp; omega) | (left; dsimp only; omega)) _)))⟩)
    | (have hm := HNO.out (by omega)
       go_enter Try.func46, Try.ntmps46
       go_wp2_with fail
       exact hR.out _ _ ⟨(by first | (rw [hm]; done) | (rw [hm]; rfl) | simp [hm]), (by repeat (first | (with_reducible exact Keep.refl _ _) | (with_reducible refine Keep.drew ?_) | (with_reducible refine Keep.drewN ?_ _) | (with_reducible refine Keep.alloc ?_ _) | (with_reducible refine Keep.setCell ?_ (by first | (simp; done) | (simp; omega) | (left; dsimp only; omega)) _)))⟩))

set_option maxRecDepth 100000 in
theorem ref05_word (e : En) (hu : e.u8) (w : World) :
    Calls Try.prog 99 #[e.val] w fun x w' => x = .returned (.int .u64 e.word) ∧ Keep [] w w' := by
  refine calls_abs fun R hR => ?_
  obtain ⟨k, c, r, o⟩ := e
  obtain ⟨⟨u1, u2⟩, ⟨u3, u4⟩, ⟨u5, u6⟩, ⟨u7, u8⟩⟩ := hu
  dsimp only at u1 u2 u3 u4 u5 u6 u7 u8
  have e1 : IntKind.u64.wrap k = k := wrap_u64_small (by omega) (by omega)
  have e2 : IntKind.u64.wrap c = c := wrap_u64_small (by omega) (by omega)
  have e3 : IntKind.u64.wrap r = r := wrap_u64_small (by omega) (by omega)
  have e4 : IntKind.u64.wrap o = o := wrap_u64_small (by omega) (by omega)
  unfold En.val
  dsimp only
  go_enter Try.func99, Try.ntmps99
  go_wp2_with fail
  exact hR.out _ _ ⟨by simp [En.word], (by repeat (first | (with_reducible exact Keep.refl _ _) | (with_reducible refine Keep.drew ?_) | (with_reducible refine Keep.drewN ?_ _) | (with_reducible refine Keep.alloc ?_ _) | (with_reducible refine Keep.setCell ?_ (by first | (simp; done) | (simp; omega) | (left; dsimp only; omega)) _)))⟩
set_option maxRecDepth 100000 in
set_option maxHeartbeats 2000000 in
theorem ref05_take (x : Int) (hx : 0 ≤ x ∧ x < 18446744073709551616) (w : World) :
    Calls Try.prog 47 #[.int .u64 x] w fun e w' => e = .returned (.tuple #[(takeE x).val, .int .i64 (if isEn x then 0 else 3)]) ∧ Keep [] w w' := by
  refine calls_abs fun R hR => ?_
  have e0 : IntKind.u8.wrap (x % 8) = x % 8 := by rw [IntKind.wrap_u8]; omega
  have e1 : IntKind.u8.wrap (x / 8 % 4) = x / 8 % 4 := by rw [IntKind.wrap_u8]; omega
  have e2 : IntKind.u8.wrap (x / 32 % 4) = x / 32 % 4 := by rw [IntKind.wrap_u8]; omega
  have e3 : IntKind.u8.wrap (x / 128 % 64) = x / 128 % 64 := by rw [IntKind.wrap_u8]; omega
  have hmay := fun w => ref05_may (enOf x) (enOf_u8 x) w
  have hword := fun w => ref05_word (enOf x) (enOf_u8 x) w
  have hval : (enOf x).val = .agg #[.int .u8 (x % 8), .int .u8 (x / 8 % 4), .int .u8 (x / 32 % 4), .int .u8 (x / 128 % 64)] := rfl
  rw [hval] at hmay hword
  have HMAY := Lib.hid hmay; have HWORD := Lib.hid hword; have HVAL := Lib.hid hval
  clear hmay hword hval
  go_enter Try.func47, Try.ntmps47
  go_wp2_with fail
  obtain ⟨z, hz⟩ : ∃ z, z = w.heap.size := ⟨_, rfl⟩
  simp only [← hz]
  generalize hw1 : World.alloc _ _ = w1
  have b1 : w1.heap[z]? = some (.cells #[.int .u8 0, .int .u8 0, .int .u8 0, .int .u8 0] 61 (0, 0)) := by rw [← hw1, hz]; exact alloc_keeps (alloc_new _ _ _ rfl) _
  have b2 : w1.heap[z + 1]? = some (.cells #[.int .u8 (x % 8), .int .u8 (x / 8 % 4), .int .u8 (x / 32 % 4), .int .u8 (x / 128 % 64)] 61 (0, 0)) := by rw [← hw1, hz]; exact alloc_new _ _ _ (by simp)
  have K1 : Keep [] w w1 := by rw [← hw1]; exact (by repeat (first | (with_reducible exact Keep.refl _ _) | (with_reducible refine Keep.drew ?_) | (with_reducible refine Keep.drewN ?_ _) | (with_reducible refine Keep.alloc ?_ _) | (with_reducible refine Keep.setCell ?_ (by first | (simp; done) | (simp; omega) | (left; dsimp only; omega)) _)))
  clear hw1
  have HZ := Lib.hid hz
  clear hz
  refine (HMAY.out w1).mono ?_
  rintro e w2 ⟨rfl, K2⟩
  have b1 := K2.get b1 (by simp); have b2 := K2.get b2 (by simp)
  have HK2 := Lib.hid (K1.trans K2)
  have c1 := cell_at b1; have c2 := cell_at b2; have f1 := frozen_at b1; have l1 := lt_of_block b1; have l2 := lt_of_block b2
  have HB1 := Lib.hid b1; have HB2 := Lib.hid b2
  clear b1 b2 K1 K2
  cases hm : (enOf x).may with
  | false =>
    have hi : isEn x = false := by simp [isEn, hm]
    have ht : takeE x = En.zero := by simp [takeE, hi]
    rw [hi, ht] at hR
    clear hi ht hm
    go_wp2_with fail
    refine bodyPost_ret (v := .tuple #[En.zero.val, .int .i64 3]) ?_ rfl ?_
    · simp [results, Try.results47, go_sem, c1, En.zero, En.val]
    exact hR.out _ _ ⟨rfl, (by have hz := HZ.out; ((repeat (first | (with_reducible exact HK2.out) | (with_reducible refine Keep.drew ?_) | (with_reducible refine Keep.drewN ?_ _) | (with_reducible refine Keep.alloc ?_ _) | ((with_reducible refine Keep.setCell ?_ ?_ _); rotate_left; focus (first | (simp; done) | (simp; omega) | (left; dsimp only; omega))))); done))⟩
  | true =>
    go_wp2_with fail
    refine (HWORD.out w2).mono ?_
    rintro e w3 ⟨rfl, K3⟩
    have b1 := K3.get HB1.out (by simp); have b2 := K3.get HB2.out (by simp)
    have HK3 := Lib.hid (HK2.out.trans K3)
    have c1 := cell_at b1; have c2 := cell_at b2; have f1 := frozen_at b1; have l1 := lt_of_block b1; have l2 := lt_of_block b2
    clear b1 b2 K3
    by_cases hw : (enOf x).word = x
    · have hi : isEn x = true := by simp [isEn, hm, hw]
      have ht : takeE x = enOf x := by simp [takeE, hi]
      rw [hi, ht, HVAL.out] at hR
      rw [hw]
      clear hi ht hm hw
      go_wp2_with fail
      refine bodyPost_ret (v := .tuple #[.agg #[.int .u8 (x % 8), .int .u8 (x / 8 % 4), .int .u8 (x / 32 % 4), .int .u8 (x / 128 % 64)], .int .i64 0]) ?_ rfl ?_
      · simp [results, Try.results47, go_sem, c1]
      exact hR.out _ _ ⟨rfl, (by have hz := HZ.out; ((repeat (first | (with_reducible exact HK3.out) | (with_reducible refine Keep.drew ?_) | (with_reducible refine Keep.drewN ?_ _) | (with_reducible refine Keep.alloc ?_ _) | ((with_reducible refine Keep.setCell ?_ ?_ _); rotate_left; focus (first | (simp; done) | (simp; omega) | (left; dsimp only; omega))))); done))⟩
    · have hi : isEn x = false := by simp [isEn, hm, hw]
      have ht : takeE x = En.zero := by simp [takeE, hi]
      rw [hi, ht] at hR
      have hw1 : ((enOf x).word == x) = false := by simp [hw]
      have hw2 : ((enOf x).word != x) = true := by simp [hw]
      clear hi ht hm hw
      generalize (enOf x).word = y at *
      go_wp2_with fail
      refine bodyPost_ret (v := .tuple #[En.zero.val, .int .i64 3]) ?_ rfl ?_
      · simp [results, Try.results47, go_sem, c1, En.zero, En.val]
      exact hR.out _ _ ⟨rfl, (by have hz := HZ.out; ((repeat (first | (with_reducible exact HK3.out) | (with_reducible refine Keep.drew ?_) | (with_reducible refine Keep.drewN ?_ _) | (with_reducible refine Keep.alloc ?_ _) | ((with_reducible refine Keep.setCell ?_ ?_ _); rotate_left; focus (first | (simp; done) | (simp; omega) | (left; dsimp only; omega))))); done))⟩
end Go.Proofs.Ytnadiddaeolanaa
