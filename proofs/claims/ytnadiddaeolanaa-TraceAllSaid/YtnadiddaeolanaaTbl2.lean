/- The contracts of package table: may, Put, Take, Blocks. -/
import Derived.Test.YtnadiddaeolanaaTbl
import Derived.Test.YtnadiddaeolanaaWord3
namespace Go.Proofs.Ytnadiddaeolanaa
open Go.RowKit
set_option linter.unusedVariables false
set_option linter.unusedSimpArgs false

set_option maxRecDepth 100000 in
set_option maxHeartbeats 4000000 in
theorem table_may (e : En) (hu : e.u8) (w : World) :
    Calls Try.prog 137 #[e.val] w fun x w' => x = .returned (.bool e.may) ∧ Keep [] w w' := by
  refine calls_abs fun R hR => ?_
  have hpl := fun w => table_plain e w
  obtain ⟨k, c, r, o⟩ := e
  obtain ⟨⟨u1, u2⟩, ⟨u3, u4⟩, ⟨u5, u6⟩, ⟨u7, u8⟩⟩ := hu
  dsimp only at u1 u2 u3 u4 u5 u6 u7 u8
  have hmay : ∀ b : Bool, (b = true ↔ (k ≤ 5 ∧ c ≤ 3 ∧ o ≤ 63 ∧ r ≤ 3 ∧ (k = 1 ∨ c = 0) ∧ ((k = 2 ∨ k = 5) ↔ 0 < r) ∧ (k ≠ 0 ∧ k ≠ 3 ∨ o = 0))) → (En.mk k c r o).may = b := fun b hb => by
    rw [Bool.eq_iff_iff, hb]; unfold En.may; exact decide_eq_true_iff
  have hno : ¬ (k ≤ 5 ∧ c ≤ 3 ∧ o ≤ 63 ∧ r ≤ 3 ∧ (k = 1 ∨ c = 0) ∧ ((k = 2 ∨ k = 5) ↔ 0 < r) ∧ (k ≠ 0 ∧ k ≠ 3 ∨ o = 0)) → (En.mk k c r o).may = false := fun h => hmay false ⟨fun h => (by cases h), fun h' => absurd h' h⟩
  unfold En.val at hpl ⊢
  dsimp only at hpl ⊢
  have HPL := Lib.hid hpl; have HMAY := Lib.hid hmay; have HNO := Lib.hid hno
  clear hpl hmay hno
  by_cases k1 : 5 < k
  · have hm := HNO.out (by omega)
    go_enter Try.func137, Try.ntmps137
    go_wp2_with fail
    exact hR.out _ _ ⟨(by first | (rw [hm]; done) | (rw [hm]; rfl) | simp [hm]), (by repeat (first | (with_reducible exact Keep.refl _ _) | (with_reducible refine Keep.drew ?_) | (with_reducible refine Keep.drewN ?_ _) | (with_reducible refine Keep.alloc ?_ _) | (with_reducible refine Keep.setCell ?_ (by first | (simp; done) | (simp; omega) | (left; dsimp only; omega)) _)))⟩
  by_cases c1 : 4 ≤ c
  · have hm := HNO.out (by omega)
    go_enter Try.func137, Try.ntmps137
    go_wp2_with fail
    exact hR.out _ _ ⟨(by first | (rw [hm]; done) | (rw [hm]; rfl) | simp [hm]), (by repeat (first | (with_reducible exact Keep.refl _ _) | (with_reducible refine Keep.drew ?_) | (with_reducible refine Keep.drewN ?_ _) | (with_reducible refine Keep.alloc ?_ _) | (with_reducible refine Keep.setCell ?_ (by first | (simp; done) | (simp; omega) | (left; dsimp only; omega)) _)))⟩
  by_cases o1 : 64 ≤ o
  · have hm := HNO.out (by omega)
    go_enter Try.func137, Try.ntmps137
    go_wp2_with fail
    exact hR.out _ _ ⟨(by first | (rw [hm]; done) | (rw [hm]; rfl) | simp [hm]), (by repeat (first | (with_reducible exact Keep.refl _ _) | (with_reducible refine Keep.drew ?_) | (with_reducible refine Keep.drewN ?_ _) | (with_reducible refine Keep.alloc ?_ _) | (with_reducible refine Keep.setCell ?_ (by first | (simp; done) | (simp; omega) | (left; dsimp only; omega)) _)))⟩
  by_cases r1 : 3 < r
  · have hm := HNO.out (by omega)
    go_enter Try.func137, Try.ntmps137
    go_wp2_with fail
    exact hR.out _ _ ⟨(by first | (rw [hm]; done) | (rw [hm]; rfl) | simp [hm]), (by repeat (first | (with_reducible exact Keep.refl _ _) | (with_reducible refine Keep.drew ?_) | (with_reducible refine Keep.drewN ?_ _) | (with_reducible refine Keep.alloc ?_ _) | (with_reducible refine Keep.setCell ?_ (by first | (simp; done) | (simp; omega) | (left; dsimp only; omega)) _)))⟩
  have hk : k = 0 ∨ k = 1 ∨ k = 2 ∨ k = 3 ∨ k = 4 ∨ k = 5 := by omega
  rcases hk with rfl | rfl | rfl | rfl | rfl | rfl
  · have HP2 : Hid (∀ w : World, Calls Try.prog 142 #[.agg #[.int .u8 0, .int .u8 c, .int .u8 r, .int .u8 o]] w fun x w' => x = .returned (.agg #[.int .u8 0, .int .u8 c, .int .u8 r, .int .u8 o]) ∧ Keep [] w w') := HPL.out
    go_enter Try.func137, Try.ntmps137
    go_wp2_with fail
    refine (HP2.out _).mono ?_
    rintro x w2 ⟨rfl, K2⟩
    have HK2 := Lib.hid (show Keep [] w w2 from Keep.trans (b := World.alloc _ _) (by repeat (first | (with_reducible exact Keep.refl _ _) | (with_reducible refine Keep.drew ?_) | (with_reducible refine Keep.drewN ?_ _) | (with_reducible refine Keep.alloc ?_ _) | (with_reducible refine Keep.setCell ?_ (by first | (simp; done) | (simp; omega) | (left; dsimp only; omega)) _))) K2)
    clear K2
    by_cases ec : c = 0
    · subst ec
      by_cases er : r = 0
      · subst er
        by_cases eo : o = 0
        · subst eo
          go_wp2_with fail
          have hm := HMAY.out true (by first | (simp; done) | (simp; omega))
          exact hR.out _ _ ⟨(by first | (rw [hm]; done) | (rw [hm]; rfl) | simp [hm]), HK2.out⟩
        · have jo : (o == 0) = false := by simp [eo]
          have hm := HNO.out (by omega)
          go_wp2_with fail
          exact hR.out _ _ ⟨(by first | (rw [hm]; done) | (rw [hm]; rfl) | simp [hm]), HK2.out⟩
      · have jr : (r == 0) = false := by simp [er]
        have hm := HNO.out (by omega)
        go_wp2_with fail
        exact hR.out _ _ ⟨(by first | (rw [hm]; done) | (rw [hm]; rfl) | simp [hm]), HK2.out⟩
    · have jc : (c == 0) = false := by simp [ec]
      have hm := HNO.out (by omega)
      go_wp2_with fail
      exact hR.out _ _ ⟨(by first | (rw [hm]; done) | (rw [hm]; rfl) | simp [hm]), HK2.out⟩
  · have HP2 : Hid (∀ w : World, Calls Try.prog 142 #[.agg #[.int .u8 1, .int .u8 c, .int .u8 r, .int .u8 o]] w fun x w' => x = .returned (.agg #[.int .u8 0, .int .u8 0, .int .u8 r, .int .u8 0]) ∧ Keep [] w w') := HPL.out
    go_enter Try.func137, Try.ntmps137
    go_wp2_with fail
    refine (HP2.out _).mono ?_
    rintro x w2 ⟨rfl, K2⟩
    have HK2 := Lib.hid (show Keep [] w w2 from Keep.trans (b := World.alloc _ _) (by repeat (first | (with_reducible exact Keep.refl _ _) | (with_reducible refine Keep.drew ?_) | (with_reducible refine Keep.drewN ?_ _) | (with_reducible refine Keep.alloc ?_ _) | (with_reducible refine Keep.setCell ?_ (by first | (simp; done) | (simp; omega) | (left; dsimp only; omega)) _))) K2)
    clear K2
    by_cases er : r = 0
    · subst er
      go_wp2_with fail
      have hm := HMAY.out true (by first | (simp; done) | (simp; omega))
      exact hR.out _ _ ⟨(by first | (rw [hm]; done) | (rw [hm]; rfl) | simp [hm]), HK2.out⟩
    · have jr : (r == 0) = false := by simp [er]
      have hm := HNO.out (by omega)
      go_wp2_with fail
      exact hR.out _ _ ⟨(by first | (rw [hm]; done) | (rw [hm]; rfl) | simp [hm]), HK2.out⟩
  · have HP2 : Hid (∀ w : World, Calls Try.prog 142 #[.agg #[.int .u8 2, .int .u8 c, .int .u8 r, .int .u8 o]] w fun x w' => x = .returned (.agg #[.int .u8 0, .int .u8 c, .int .u8 0, .int .u8 0]) ∧ Keep [] w w') := HPL.out
    by_cases r0 : r = 0
    · subst r0
      have hm := HNO.out (by omega)
      go_enter Try.func137, Try.ntmps137
      go_wp2_with fail
      exact hR.out _ _ ⟨(by first | (rw [hm]; done) | (rw [hm]; rfl) | simp [hm]), (by repeat (first | (with_reducible exact Keep.refl _ _) | (with_reducible refine Keep.drew ?_) | (with_reducible refine Keep.drewN ?_ _) | (with_reducible refine Keep.alloc ?_ _) | (with_reducible refine Keep.setCell ?_ (by first | (simp; done) | (simp; omega) | (left; dsimp only; omega)) _)))⟩
    have r0' : (r == 0) = false := by simp [r0]
    go_enter Try.func137, Try.ntmps137
    go_wp2_with fail
    refine (HP2.out _).mono ?_
    rintro x w2 ⟨rfl, K2⟩
    have HK2 := Lib.hid (show Keep [] w w2 from Keep.trans (b := World.alloc _ _) (by repeat (first | (with_reducible exact Keep.refl _ _) | (with_reducible refine Keep.drew ?_) | (with_reducible refine Keep.drewN ?_ _) | (with_reducible refine Keep.alloc ?_ _) | (with_reducible refine Keep.setCell ?_ (by first | (simp; done) | (simp; omega) | (left; dsimp only; omega)) _))) K2)
    clear K2
    by_cases ec : c = 0
    · subst ec
      go_wp2_with fail
      have hm := HMAY.out true (by first | (simp; done) | (simp; omega))
      exact hR.out _ _ ⟨(by first | (rw [hm]; done) | (rw [hm]; rfl) | simp [hm]), HK2.out⟩
    · have jc : (c == 0) = false := by simp [ec]
      have hm := HNO.out (by omega)
      go_wp2_with fail
      exact hR.out _ _ ⟨(by first | (rw [hm]; done) | (rw [hm]; rfl) | simp [hm]), HK2.out⟩
  · have HP2 : Hid (∀ w : World, Calls Try.prog 142 #[.agg #[.int .u8 3, .int .u8 c, .int .u8 r, .int .u8 o]] w fun x w' => x = .returned (.agg #[.int .u8 0, .int .u8 c, .int .u8 r, .int .u8 o]) ∧ Keep [] w w') := HPL.out
    go_enter Try.func137, Try.ntmps137
    go_wp2_with fail
    refine (HP2.out _).mono ?_
    rintro x w2 ⟨rfl, K2⟩
    have HK2 := Lib.hid (show Keep [] w w2 from Keep.trans (b := World.alloc _ _) (by repeat (first | (with_reducible exact Keep.refl _ _) | (with_reducible refine Keep.drew ?_) | (with_reducible refine Keep.drewN ?_ _) | (with_reducible refine Keep.alloc ?_ _) | (with_reducible refine Keep.setCell ?_ (by first | (simp; done) | (simp; omega) | (left; dsimp only; omega)) _))) K2)
    clear K2
    by_cases ec : c = 0
    · subst ec
      by_cases er : r = 0
      · subst er
        by_cases eo : o = 0
        · subst eo
          go_wp2_with fail
          have hm := HMAY.out true (by first | (simp; done) | (simp; omega))
          exact hR.out _ _ ⟨(by first | (rw [hm]; done) | (rw [hm]; rfl) | simp [hm]), HK2.out⟩
        · have jo : (o == 0) = false := by simp [eo]
          have hm := HNO.out (by omega)
          go_wp2_with fail
          exact hR.out _ _ ⟨(by first | (rw [hm]; done) | (rw [hm]; rfl) | simp [hm]), HK2.out⟩
      · have jr : (r == 0) = false := by simp [er]
        have hm := HNO.out (by omega)
        go_wp2_with fail
        exact hR.out _ _ ⟨(by first | (rw [hm]; done) | (rw [hm]; rfl) | simp [hm]), HK2.out⟩
    · have jc : (c == 0) = false := by simp [ec]
      have hm := HNO.out (by omega)
      go_wp2_with fail
      exact hR.out _ _ ⟨(by first | (rw [hm]; done) | (rw [hm]; rfl) | simp [hm]), HK2.out⟩
  · have HP2 : Hid (∀ w : World, Calls Try.prog 142 #[.agg #[.int .u8 4, .int .u8 c, .int .u8 r, .int .u8 o]] w fun x w' => x = .returned (.agg #[.int .u8 0, .int .u8 c, .int .u8 r, .int .u8 0]) ∧ Keep [] w w') := HPL.out
    go_enter Try.func137, Try.ntmps137
    go_wp2_with fail
    refine (HP2.out _).mono ?_
    rintro x w2 ⟨rfl, K2⟩
    have HK2 := Lib.hid (show Keep [] w w2 from Keep.trans (b := World.alloc _ _) (by repeat (first | (with_reducible exact Keep.refl _ _) | (with_reducible refine Keep.drew ?_) | (with_reducible refine Keep.drewN ?_ _) | (with_reducible refine Keep.alloc ?_ _) | (with_reducible refine Keep.setCell ?_ (by first | (simp; done) | (simp; omega) | (left; dsimp only; omega)) _))) K2)
    clear K2
    by_cases ec : c = 0
    · subst ec
      by_cases er : r = 0
      · subst er
        go_wp2_with fail
        have hm := HMAY.out true (by first | (simp; done) | (simp; omega))
        exact hR.out _ _ ⟨(by first | (rw [hm]; done) | (rw [hm]; rfl) | simp [hm]), HK2.out⟩
      · have jr : (r == 0) = false := by simp [er]
        have hm := HNO.out (by omega)
        go_wp2_with fail
        exact hR.out _ _ ⟨(by first | (rw [hm]; done) | (rw [hm]; rfl) | simp [hm]), HK2.out⟩
    · have jc : (c == 0) = false := by simp [ec]
      have hm := HNO.out (by omega)
      go_wp2_with fail
      exact hR.out _ _ ⟨(by first | (rw [hm]; done) | (rw [hm]; rfl) | simp [hm]), HK2.out⟩
  · have HP2 : Hid (∀ w : World, Calls Try.prog 142 #[.agg #[.int .u8 5, .int .u8 c, .int .u8 r, .int .u8 o]] w fun x w' => x = .returned (.agg #[.int .u8 0, .int .u8 c, .int .u8 0, .int .u8 0]) ∧ Keep [] w w') := HPL.out
    by_cases r0 : r = 0
    · subst r0
      have hm := HNO.out (by omega)
      go_enter Try.func137, Try.ntmps137
      go_wp2_with fail
      exact hR.out _ _ ⟨(by first | (rw [hm]; done) | (rw [hm]; rfl) | simp [hm]), (by repeat (first | (with_reducible exact Keep.refl _ _) | (with_reducible refine Keep.drew ?_) | (with_reducible refine Keep.drewN ?_ _) | (with_reducible refine Keep.alloc ?_ _) | (with_reducible refine Keep.setCell ?_ (by first | (simp; done) | (simp; omega) | (left; dsimp only; omega)) _)))⟩
    have r0' : (r == 0) = false := by simp [r0]
    go_enter Try.func137, Try.ntmps137
    go_wp2_with fail
    refine (HP2.out _).mono ?_
    rintro x w2 ⟨rfl, K2⟩
    have HK2 := Lib.hid (show Keep [] w w2 from Keep.trans (b := World.alloc _ _) (by repeat (first | (with_reducible exact Keep.refl _ _) | (with_reducible refine Keep.drew ?_) | (with_reducible refine Keep.drewN ?_ _) | (with_reducible refine Keep.alloc ?_ _) | (with_reducible refine Keep.setCell ?_ (by first | (simp; done) | (simp; omega) | (left; dsimp only; omega)) _))) K2)
    clear K2
    by_cases ec : c = 0
    · subst ec
      go_wp2_with fail
      have hm := HMAY.out true (by first | (simp; done) | (simp; omega))
      exact hR.out _ _ ⟨(by first | (rw [hm]; done) | (rw [hm]; rfl) | simp [hm]), HK2.out⟩
    · have jc : (c == 0) = false := by simp [ec]
      have hm := HNO.out (by omega)
      go_wp2_with fail
      exact hR.out _ _ ⟨(by first | (rw [hm]; done) | (rw [hm]; rfl) | simp [hm]), HK2.out⟩

set_option maxRecDepth 100000 in
theorem table_blocks (e : En) (hu : e.u8) (w : World) :
    Calls Try.prog 97 #[e.val] w fun x w' => x = .returned (.int .i64 e.blocks) ∧ Keep [] w w' := by
  refine calls_abs fun R hR => ?_
  obtain ⟨k, c, r, o⟩ := e
  obtain ⟨-, -, ⟨u5, u6⟩, -⟩ := hu
  dsimp only at u5 u6
  have hw : IntKind.i64.wrap r = r := by rw [IntKind.wrap_i64]; omega
  unfold En.val
  dsimp only
  by_cases k2 : k = 2
  · subst k2
    go_enter Try.func97, Try.ntmps97
    go_wp2_with fail
    exact hR.out _ _ ⟨by simp [En.blocks], (by repeat (first | (with_reducible exact Keep.refl _ _) | (with_reducible refine Keep.drew ?_) | (with_reducible refine Keep.drewN ?_ _) | (with_reducible refine Keep.alloc ?_ _) | (with_reducible refine Keep.setCell ?_ (by first | (simp; done) | (simp; omega) | (left; dsimp only; omega)) _)))⟩
  have j2 : (k == 2) = false := by simp [k2]
  by_cases k5 : k = 5
  · subst k5
    go_enter Try.func97, Try.ntmps97
    go_wp2_with fail
    exact hR.out _ _ ⟨by simp [En.blocks], (by repeat (first | (with_reducible exact Keep.refl _ _) | (with_reducible refine Keep.drew ?_) | (with_reducible refine Keep.drewN ?_ _) | (with_reducible refine Keep.alloc ?_ _) | (with_reducible refine Keep.setCell ?_ (by first | (simp; done) | (simp; omega) | (left; dsimp only; omega)) _)))⟩
  have j5 : (k == 5) = false := by simp [k5]
  go_enter Try.func97, Try.ntmps97
  go_wp2_with fail
  exact hR.out _ _ ⟨by simp [En.blocks, k2, k5], (by repeat (first | (with_reducible exact Keep.refl _ _) | (with_reducible refine Keep.drew ?_) | (with_reducible refine Keep.drewN ?_ _) | (with_reducible refine Keep.alloc ?_ _) | (with_reducible refine Keep.setCell ?_ (by first | (simp; done) | (simp; omega) | (left; dsimp only; omega)) _)))⟩

theorem En.bounds {e : En} (h : e.may = true) : e.k ≤ 5 ∧ e.c ≤ 3 ∧ e.o ≤ 63 ∧ e.r ≤ 3 := by
  unfold En.may at h
  have := of_decide_eq_true h
  omega
set_option maxRecDepth 100000 in
set_option maxHeartbeats 2000000 in
theorem table_put (e : En) (hu : e.u8) (w : World) :
    Calls Try.prog 98 #[e.val] w fun x w' => x = .returned (.tuple #[.int .u64 (if e.may then e.word else 0), .int .i64 (if e.may then 0 else 2)]) ∧ Keep [] w w' := by
  refine calls_abs fun R hR => ?_
  have hmay := fun w => table_may e hu w
  cases hm : e.may with
  | false =>
    rw [hm] at hmay
    have HMAY := Lib.hid hmay
    obtain ⟨k, c, r, o⟩ := e
    unfold En.val at HMAY ⊢
    dsimp only at HMAY ⊢
    clear hmay
    rw [hm] at hR
    clear hm
    go_enter Try.func98, Try.ntmps98
    go_wp2_with fail
    refine (HMAY.out _).mono ?_
    rintro x w2 ⟨rfl, K2⟩
    have HK2 := Lib.hid (show Keep [] w w2 from Keep.trans (b := World.alloc _ _) (by repeat (first | (with_reducible exact Keep.refl _ _) | (with_reducible refine Keep.drew ?_) | (with_reducible refine Keep.drewN ?_ _) | (with_reducible refine Keep.alloc ?_ _) | (with_reducible refine Keep.setCell ?_ (by first | (simp; done) | (simp; omega) | (left; dsimp only; omega)) _))) K2)
    clear K2
    go_wp2_with fail
    exact hR.out _ _ ⟨rfl, HK2.out⟩
  | true =>
    rw [hm] at hmay hR
    have hb := En.bounds hm
    have HMAY := Lib.hid hmay
    obtain ⟨k, c, r, o⟩ := e
    obtain ⟨⟨u1, u2⟩, ⟨u3, u4⟩, ⟨u5, u6⟩, ⟨u7, u8⟩⟩ := hu
    dsimp only at u1 u2 u3 u4 u5 u6 u7 u8 hb
    unfold En.val at HMAY ⊢
    dsimp only at HMAY ⊢
    clear hmay hm
    have q1 := or_hi k c 3 u1 (by omega) u3 u4 (by omega)
    have q2 := or_hi (k + c * 8) r 5 (by omega) (by omega) u5 u6 (by omega)
    have q3 := or_hi (k + c * 8 + r * 32) o 7 (by omega) (by omega) u7 u8 (by omega)
    simp only [Int.reducePow] at q1 q2 q3
    rw [wrap_u64_small (by omega) (by omega)] at q1 q2 q3
    have e1 : IntKind.u64.wrap k = k := wrap_u64_small (by omega) (by omega)
    have e2 : IntKind.u64.wrap c = c := wrap_u64_small (by omega) (by omega)
    have e3 : IntKind.u64.wrap r = r := wrap_u64_small (by omega) (by omega)
    have e4 : IntKind.u64.wrap o = o := wrap_u64_small (by omega) (by omega)
    go_enter Try.func98, Try.ntmps98
    go_wp2_with fail
    refine (HMAY.out _).mono ?_
    rintro x w2 ⟨rfl, K2⟩
    have b2 := K2.get (alloc_new w (.cells #[.int .u8 k, .int .u8 c, .int .u8 r, .int .u8 o] 74 (0, 0)) w.heap.size rfl) (by simp)
    have c2 := cell_at b2
    have l2 := lt_of_block b2
    have HK2 := Lib.hid (show Keep [] w w2 from Keep.trans (b := World.alloc _ _) (by repeat (first | (with_reducible exact Keep.refl _ _) | (with_reducible refine Keep.drew ?_) | (with_reducible refine Keep.drewN ?_ _) | (with_reducible refine Keep.alloc ?_ _) | (with_reducible refine Keep.setCell ?_ (by first | (simp; done) | (simp; omega) | (left; dsimp only; omega)) _))) K2)
    clear K2 b2
    go_wp2_with fail
    exact hR.out _ _ ⟨by simp [En.word]; omega, HK2.out⟩

theorem and_mask (x : Int) (b : Nat) (hb : b ≤ 60) (h0 : 0 ≤ x) (h1 : x < 18446744073709551616) : bits BinOp.and .u64 x (2 ^ b - 1) = x % 2 ^ b :=
  bits_mask .u64 64 (by decide) (fun n h0 h1 => wrap_u64_small h0 h1) b (by omega) x h0 h1
set_option maxRecDepth 100000 in
set_option maxHeartbeats 2000000 in
theorem table_take (x : Int) (hx : 0 ≤ x ∧ x < 18446744073709551616) (w : World) :
    Calls Try.prog 102 #[.int .u64 x] w fun e w' => e = .returned (.tuple #[(takeE x).val, .int .i64 (if isEn x then 0 else 3)]) ∧ Keep [] w w' := by
  refine calls_abs fun R hR => ?_
  have mixed : Try.prog.follows .mixedOrders = true := by kernel_rfl
  have q0 := and_mask x 3 (by omega) hx.1 hx.2
  have q1 := and_mask (x / 8) 2 (by omega) (by omega) (by omega)
  have q2 := and_mask (x / 32) 2 (by omega) (by omega) (by omega)
  have q3 := and_mask (x / 128) 6 (by omega) (by omega) (by omega)
  simp only [Int.reducePow, Int.reduceSub] at q0 q1 q2 q3
  have e0 : IntKind.u8.wrap (x % 8) = x % 8 := by rw [IntKind.wrap_u8]; omega
  have e1 : IntKind.u8.wrap (x / 8 % 4) = x / 8 % 4 := by rw [IntKind.wrap_u8]; omega
  have e2 : IntKind.u8.wrap (x / 32 % 4) = x / 32 % 4 := by rw [IntKind.wrap_u8]; omega
  have e3 : IntKind.u8.wrap (x / 128 % 64) = x / 128 % 64 := by rw [IntKind.wrap_u8]; omega
  have hput := fun w => table_put (enOf x) (enOf_u8 x) w
  have hval : (enOf x).val = .agg #[.int .u8 (x % 8), .int .u8 (x / 8 % 4), .int .u8 (x / 32 % 4), .int .u8 (x / 128 % 64)] := rfl
  rw [hval] at hput
  have HPUT := Lib.hid hput; have HVAL := Lib.hid hval
  clear hput hval
  go_enter Try.func102, Try.ntmps102
  go_wp2_with fail
  obtain ⟨z, hz⟩ : ∃ z, z = w.heap.size := ⟨_, rfl⟩
  simp only [← hz]
  generalize hw1 : World.alloc _ _ = w1
  have b1 : w1.heap[z]? = some (.cells #[.int .u8 0, .int .u8 0, .int .u8 0, .int .u8 0] 74 (0, 0)) := by rw [← hw1, hz]; exact alloc_keeps (alloc_new _ _ _ rfl) _
  have b2 : w1.heap[z + 1]? = some (.cells #[.int .u8 (x % 8), .int .u8 (x / 8 % 4), .int .u8 (x / 32 % 4), .int .u8 (x / 128 % 64)] 74 (0, 0)) := by rw [← hw1, hz]; exact alloc_new _ _ _ (by simp)
  have K1 : Keep [] w w1 := by rw [← hw1]; exact (by repeat (first | (with_reducible exact Keep.refl _ _) | (with_reducible refine Keep.drew ?_) | (with_reducible refine Keep.drewN ?_ _) | (with_reducible refine Keep.alloc ?_ _) | (with_reducible refine Keep.setCell ?_ (by first | (simp; done) | (simp; omega) | (left; dsimp only; omega)) _)))
  clear hw1
  have HZ := Lib.hid hz
  clear hz
  refine (HPUT.out w1).mono ?_
  rintro e w2 ⟨rfl, K2⟩
  have b1 := K2.get b1 (by simp); have b2 := K2.get b2 (by simp)
  have HK2 := Lib.hid (K1.trans K2)
  have c1 := cell_at b1; have c2 := cell_at b2; have f1 := frozen_at b1; have l1 := lt_of_block b1; have l2 := lt_of_block b2
  clear b1 b2 K1 K2
  cases hm : (enOf x).may with
  | false =>
    have hi : isEn x = false := by simp [isEn, hm]
    have ht : takeE x = En.zero := by simp [takeE, hi]
    rw [hi, ht] at hR
    clear hi ht hm
    generalize (enOf x).word = y
    go_wp2_with fail
    refine bodyPost_ret (v := .tuple #[En.zero.val, .int .i64 3]) ?_ rfl ?_
    · simp [results, Try.results102, go_sem, c1, En.zero, En.val]
    exact hR.out _ _ ⟨rfl, (by have hz := HZ.out; ((repeat (first | (with_reducible exact HK2.out) | (with_reducible refine Keep.drew ?_) | (with_reducible refine Keep.drewN ?_ _) | (with_reducible refine Keep.alloc ?_ _) | ((with_reducible refine Keep.setCell ?_ ?_ _); rotate_left; focus (first | (simp; done) | (simp; omega) | (left; dsimp only; omega))))); done))⟩
  | true =>
    by_cases hw : (enOf x).word = x
    · have hi : isEn x = true := by simp [isEn, hm, hw]
      have ht : takeE x = enOf x := by simp [takeE, hi]
      rw [hi, ht, HVAL.out] at hR
      rw [hw]
      clear hi ht hm hw
      go_wp2_with fail
      refine bodyPost_ret (v := .tuple #[.agg #[.int .u8 (x % 8), .int .u8 (x / 8 % 4), .int .u8 (x / 32 % 4), .int .u8 (x / 128 % 64)], .int .i64 0]) ?_ rfl ?_
      · simp [results, Try.results102, go_sem, c1]
      exact hR.out _ _ ⟨rfl, (by have hz := HZ.out; ((repeat (first | (with_reducible exact HK2.out) | (with_reducible refine Keep.drew ?_) | (with_reducible refine Keep.drewN ?_ _) | (with_reducible refine Keep.alloc ?_ _) | ((with_reducible refine Keep.setCell ?_ ?_ _); rotate_left; focus (first | (simp; done) | (simp; omega) | (left; dsimp only; omega))))); done))⟩
    · have hi : isEn x = false := by simp [isEn, hm, hw]
      have ht : takeE x = En.zero := by simp [takeE, hi]
      rw [hi, ht] at hR
      have hw1 : ((enOf x).word == x) = false := by simp [hw]
      have hw2 : ((enOf x).word != x) = true := by simp [hw]
      clear hi ht hm hw
      rw [if_pos rfl, if_pos rfl]
      generalize (enOf x).word = y at *
      go_wp2_with fail
      refine bodyPost_ret (v := .tuple #[En.zero.val, .int .i64 3]) ?_ rfl ?_
      · simp [results, Try.results102, go_sem, c1, En.zero, En.val]
      exact hR.out _ _ ⟨rfl, (by have hz := HZ.out; ((repeat (first | (with_reducible exact HK2.out) | (with_reducible refine Keep.drew ?_) | (with_reducible refine Keep.drewN ?_ _) | (with_reducible refine Keep.alloc ?_ _) | ((with_reducible refine Keep.setCell ?_ ?_ _); rotate_left; focus (first | (simp; done) | (simp; omega) | (left; dsimp only; omega))))); done))⟩
end Go.Proofs.Ytnadiddaeolanaa
