/- Contracts of demesnelaw21.Made and Same. -/
import Derived.Test.YtnadiddaeolanaaWords21
import Derived.Shelf.RegionOpenPlain
import Derived.Test.YtnadiddaeolanaaLayNew
import Derived.Deep.RegionHeld3
namespace Go.Proofs.Ytnadiddaeolanaa
open Go.RowKit
set_option linter.unusedVariables false
set_option linter.unusedSimpArgs false

theorem fill_step (W : List Int) (i : Nat) (hi : i < W.length) : putz (W.take i ++ List.replicate (W.length - i) 0) (i : Int) (W.getD i 0) = W.take (i + 1) ++ List.replicate (W.length - (i + 1)) 0 := by
  have hl : (W.take i).length = i := by rw [List.length_take]; omega
  rw [putz_nat (by rw [List.length_append, hl, List.length_replicate]; omega)]
  rw [List.set_append_right _ _ (by omega), hl, Nat.sub_self]
  obtain ⟨k, hk⟩ : ∃ k, W.length - i = k + 1 := ⟨W.length - i - 1, by omega⟩
  rw [hk, List.replicate_succ, List.set_cons_zero, List.take_add_one, List.getD_eq_getElem?_getD, List.getElem?_eq_getElem hi, show W.length - (i + 1) = k from by omega]
  simp only [Option.toList_some, List.append_assoc, List.singleton_append, Option.getD_some]

set_option maxRecDepth 100000 in
set_option maxHeartbeats 8000000 in
theorem law21_made (n : Nat) (hn : 1 ≤ n ∧ n ≤ 6) (W : List Int) (hlen : W.length = 6 + 33 * n) (v : Value) (w : World) (hr : Rd w v W.length (u64s W)) :
    Calls Try.prog 52 #[v] w fun e w' => ∃ b g, e = .returned (.tuple #[.pointer (some ⟨b, 0, none⟩), (Lay.mk 1 2 n).val]) ∧ (∃ t la, Arn w' b g W t la) ∧ Keep [] w w' ∧ w.heap.size ≤ b ∧ w.heap.size ≤ g := by
  refine calls_abs fun R hR => ?_
  have mixed : Try.prog.follows .mixedOrders = true := by kernel_rfl
  obtain ⟨ao, cap, rfl, hc1, hc2⟩ := hr.shape
  have hln := fun w => layout_new (6 + 33 * n) 1 2 n (by omega) (by omega) (by omega) (by omega) (by omega) (by omega) w
  have han := fun w => arena_new ((6 + 33 * n : Nat) : Int) (6 + 33 * n) rfl (by omega) (by omega) w
  have hfs := fill_step W
  unfold Lay.val at hR hln
  dsimp only at hR hln
  have hN : W.length ≤ 204 ∧ 1 ≤ W.length := by omega
  rw [← hlen] at hln han
  simp only [Int.natCast_one, Int.ofNat_eq_natCast] at hln
  obtain ⟨N, hNe⟩ : ∃ N, N = W.length := ⟨_, rfl⟩
  rw [← hNe] at hln han hfs hN hc1 ⊢
  rw [← hNe] at hr
  have HR := Lib.hid hr; have HLN := Lib.hid hln; have HAN := Lib.hid han; have HFS := Lib.hid hfs; have HNE := Lib.hid hNe
  clear hr hln han hfs hlen hNe
  obtain ⟨a, o, rfl, hal, -⟩ := HR.out.some (by have := HNE.out; rw [u64s_len]; omega)
  go_enter Try.func52, Try.ntmps52
  go_wp2_with fail
  obtain ⟨z, hz⟩ : ∃ z, z = w.heap.size := ⟨_, rfl⟩
  simp only [← hz]
  generalize hw1 : World.alloc _ _ = w1
  have b1 : w1.heap[z]? = some (.cells #[.int .i64 0, .int .i64 0, .int .i64 0] 53 (0, 0)) := by rw [← hw1]; exact alloc_new _ _ _ hz
  have K1 : Keep [] w w1 := by rw [← hw1]; exact (by repeat (first | (with_reducible exact Keep.refl _ _) | (with_reducible refine Keep.drew ?_) | (with_reducible refine Keep.drewN ?_ _) | (with_reducible refine Keep.alloc ?_ _) | (with_reducible refine Keep.setCell ?_ (by first | (simp; done) | (simp; omega) | (left; dsimp only; omega)) _)))
  refine (HAN.out w1).mono ?_
  rintro e w2 ⟨b, g, rfl, A2, K2, hb, hg⟩
  have HA2 := Lib.hid A2; have HB2 := Lib.hid (K2.get b1 (by simp)); have HK2 := Lib.hid (K1.trans K2)
  have HBG : Hid (z < b ∧ z < g ∧ w.heap.size ≤ z) := by have h1 := lt_of_block b1; exact ⟨by omega, by omega, by omega⟩
  clear hw1 b1 K1 A2 K2 hb hg hz
  go_wp2_with fail
  refine (HLN.out w2).mono ?_
  rintro e w3 ⟨rfl, K3⟩
  have HA3 := Lib.hid (HA2.out.keep K3 (by simp) (by simp)); have HB3 := Lib.hid (K3.get HB2.out (by simp)); have HK3 := Lib.hid (HK2.out.trans K3)
  clear K3
  go_wp2_with fail
  obtain ⟨y, hy⟩ : ∃ y, y = w3.heap.size := ⟨_, rfl⟩
  simp only [← hy]
  generalize hw4 : World.alloc _ _ = w4
  have b4 : w4.heap[y]? = some (.cells #[.int .i64 1, .int .i64 2, .int .i64 n] 53 (0, 0)) := by rw [← hw4]; exact alloc_new _ _ _ hy
  have K4 : Keep [] w3 w4 := by rw [← hw4]; exact (by repeat (first | (with_reducible exact Keep.refl _ _) | (with_reducible refine Keep.drew ?_) | (with_reducible refine Keep.drewN ?_ _) | (with_reducible refine Keep.alloc ?_ _) | (with_reducible refine Keep.setCell ?_ (by first | (simp; done) | (simp; omega) | (left; dsimp only; omega)) _)))
  have HA4 := Lib.hid (HA3.out.keep K4 (by simp) (by simp)); have HB4 := Lib.hid (K4.get HB3.out (by simp)); have HY4 := Lib.hid b4; have HK4 := Lib.hid (HK3.out.trans K4)
  have HYB : Hid (b < y ∧ g < y ∧ z < y) := by have h1 := lt_of_block HA3.out.head; have h2 := lt_of_block HA3.out.row; have h3 := lt_of_block HB3.out; exact ⟨by omega, by omega, by omega⟩
  clear hw4 b4 K4 hy
  go_loopg [8] N (fun j i wr => ∃ q : Nat, q + j = N ∧ i = .int .i64 q ∧ (∃ t la, Arn wr b g (W.take q ++ List.replicate (N - q) 0) t la) ∧ wr.heap[z]? = some (.cells #[.int .i64 0, .int .i64 0, .int .i64 0] 53 (0, 0)) ∧ wr.heap[y]? = some (.cells #[.int .i64 1, .int .i64 2, .int .i64 n] 53 (0, 0)) ∧ Keep [] w wr)
  case atStart => exact ⟨0, by omega, rfl, ⟨_, _, by simpa using HA4.out⟩, HB4.out, HY4.out, HK4.out⟩
  case round =>
    obtain ⟨q, hqj, rfl, ⟨t, la, hA⟩, hb, hy, hk⟩ := hrel
    by_cases hqn : q < N
    · have i1 : (q : Int) < N := by omega
      have i0 : (0 : Int) ≤ (q : Int) := by omega
      have hqW : q < W.length := by rw [← HNE.out]; exact hqn
      have hrq := HR.out.keep hk (fun _ _ => by simp)
      have hcell := hrq.at q (.int .u64 (W.getD q 0)) (by simp [u64s, hqW])
      have hwr := arena_write_any hA q (W.getD q 0)
      rw [HFS.out q hqn] at hwr
      generalize W.getD q 0 = x at *
      have HWR := Lib.hid hwr; have HBZ := Lib.hid hb; have HYZ := Lib.hid hy; have HK := Lib.hid hk
      clear hwr hb hy hk hA hrq
      go_wp2_with fail
      refine HWR.out.mono ?_
      rintro e w6 ⟨rfl, A6, K6⟩
      have HA6 := Lib.hid A6; have HB6 := Lib.hid (K6.get HBZ.out (by have := HBG.out; simp; omega)); have HY6 := Lib.hid (K6.get HYZ.out (by have := HYB.out; simp; omega)); have HK6 := Lib.hid (HK.out.fresh K6 (by have := HBG.out; simp; omega))
      clear A6 K6 hcell
      go_wp2_with fail
      go_roundg (N - (q + 1))
      case measure => omega
      case rel => exact ⟨q + 1, by omega, by go_num, ⟨_, _, HA6.out⟩, HB6.out, HY6.out, HK6.out⟩
    · obtain rfl : q = N := by omega
      have hAW : Arn wr b g W t la := by
        rw [HNE.out, Nat.sub_self, List.take_length, List.replicate_zero, List.append_nil] at hA
        exact hA
      have c1 := cell_at hb; have f1 := frozen_at hb; have l1 := lt_of_block hb; have c8 := cell_at hy; have l8 := lt_of_block hy
      have d1 : ∀ i, wr.drew.cell? ⟨z, i, none⟩ = #[.int .i64 0, .int .i64 0, .int .i64 0][i]? := c1
      have d8 : ∀ i, wr.drew.cell? ⟨y, i, none⟩ = #[.int .i64 1, .int .i64 2, .int .i64 n][i]? := c8
      have e1' : ∀ i, wr.drew.frozen? ⟨z, i, none⟩ = false := f1
      have hzn : ¬ y = z ∧ ¬ z = y := by have := HYB.out; omega
      obtain ⟨hzn1, hzn2⟩ := hzn
      have HBZ := Lib.hid hb; have HK := Lib.hid hk; have HAW := Lib.hid hAW
      clear hb hy hk hA hAW
      go_wp2_with fail
      go_region_o
      all_goals go_wp2_with fail
      all_goals (
        generalize hw11 : World.drew _ = w11
        have b11 : w11.heap[z]? = some (.cells #[.int .i64 1, .int .i64 2, .int .i64 n] 53 (0, 0)) := by rw [← hw11]; exact put_at (put_at (put_at HBZ.out 0 _) 1 _) 2 _
        have K11 : Keep [z] wr w11 := by rw [← hw11]; ((repeat (first | (with_reducible exact Keep.refl _ _) | (with_reducible refine Keep.drew ?_) | (with_reducible refine Keep.drewN ?_ _) | (with_reducible refine Keep.alloc ?_ _) | ((with_reducible refine Keep.setCell ?_ ?_ _); rotate_left; focus (first | (simp; done) | (simp; omega) | (left; dsimp only; omega))))); done)
        have c3 := cell_at b11
        have hz := HBG.out
        have hA11 := HAW.out.keep K11 (by simp; omega) (by simp; omega)
        have hK := HK.out.fresh K11 (by simp; omega)
        clear c1 f1 l1 c8 l8 d1 d8 e1' hw11
        refine bodyPost_ret (v := .tuple #[.pointer (some ⟨b, 0, none⟩), .agg #[.int .i64 1, .int .i64 2, .int .i64 n]]) ?_ rfl ?_
        · simp [results, Try.results52, go_sem, c3]
        exact hR.out _ _ ⟨b, g, rfl, ⟨t, la, hA11⟩, hK, by omega, by omega⟩)

set_option maxRecDepth 100000 in
set_option maxHeartbeats 8000000 in
theorem law21_same (W : List Int) (hsm : W.length ≤ 4096) (v : Value) (b g : Nat) (w : World) (hA : ∃ t la, Arn w b g W t la) (hr : Rd w v W.length (u64s W)) :
    Calls Try.prog 66 #[.pointer (some ⟨b, 0, none⟩), v] w fun e w' => e = .returned (.bool true) ∧ Keep [] w w' := by
  refine calls_abs fun R hR => ?_
  have mixed : Try.prog.follows .mixedOrders = true := by kernel_rfl
  obtain ⟨ao, cap, rfl, hc1, hc2⟩ := hr.shape
  obtain ⟨t, la, hA⟩ := hA
  have hall := arena_all hA
  obtain ⟨N, hNe⟩ : ∃ N, N = W.length := ⟨_, rfl⟩
  rw [← hNe] at hall hsm hr hc1 ⊢
  have HALL := Lib.hid hall; have HR := Lib.hid hr; have HNE := Lib.hid hNe
  clear hall hr hNe hA
  go_enter Try.func66, Try.ntmps66
  go_wp2_with fail
  refine HALL.out.mono ?_
  rintro e w1 ⟨a1, cap1, rfl, hr1, K1, -⟩
  have HR1 := Lib.hid hr1; have HRW := Lib.hid (HR.out.keep K1 (fun _ _ => by simp)); have HK1 := Lib.hid K1
  clear hr1 K1
  go_wp2_with fail
  go_loopg [6] N (fun j i wr => ∃ q : Nat, q + j = N ∧ i = .int .i64 q ∧ wr.heap = w1.heap ∧ Keep [] w1 wr)
  case atStart => exact ⟨0, by omega, rfl, rfl, Keep.refl _ _⟩
  case round =>
    obtain ⟨q, hqj, rfl, hh, hk⟩ := hrel
    by_cases hqn : q < N
    · have i1 : (q : Int) < N := by omega
      have i0 : (0 : Int) ≤ (q : Int) := by omega
      have hqW : q < W.length := by rw [← HNE.out]; exact hqn
      obtain ⟨b1, o1, rfl, -, hc1'⟩ := (HR1.out.keep hk (fun _ _ => by simp)).some (by rw [List.length_map]; omega)
      obtain ⟨b2, o2, rfl, -, hc2'⟩ := (HRW.out.keep hk (fun _ _ => by simp)).some (by rw [u64s_len]; omega)
      have C1 : Hid (wr.cell? ⟨b1, o1 + q, none⟩ = some (.int .u64 (W.getD q 0))) := hc1' q _ (by simp [hqW])
      have C2 : Hid (wr.cell? ⟨b2, o2 + q, none⟩ = some (.int .u64 (W.getD q 0))) := hc2' q _ (by simp [u64s, hqW])
      generalize W.getD q 0 = x at *
      have HK := Lib.hid hk; have HH := Lib.hid hh
      clear hk hh hc1' hc2'
      go_wp2_with fail
      first
      | (go_region_held3 (fun w' => w'.cell? ⟨b1, o1 + q, none⟩ = some (.int .u64 x) ∧ w'.cell? ⟨b2, o2 + q, none⟩ = some (.int .u64 x))
          ((refine ⟨Keep.cell (S := []) (w := wr) ?_ C1.out (by simp), Keep.cell (S := []) (w := wr) ?_ C2.out (by simp)⟩; all_goals (((repeat (first | (with_reducible exact Keep.refl _ _) | (with_reducible refine Keep.drew ?_) | (with_reducible refine Keep.drewN ?_ _) | (with_reducible refine Keep.alloc ?_ _) | ((with_reducible refine Keep.setCell ?_ ?_ _); rotate_left; focus (first | (simp; done) | (simp; omega) | (left; dsimp only; omega))))); done))))
          (fail))
      | fail
      all_goals (
        go_wp2_with fail
        go_roundg (N - (q + 1))
        case measure => omega
        case rel => exact ⟨q + 1, by omega, by go_num, HH.out, HK.out.trans (by ((repeat (first | (with_reducible exact Keep.refl _ _) | (with_reducible refine Keep.drew ?_) | (with_reducible refine Keep.drewN ?_ _) | (with_reducible refine Keep.alloc ?_ _) | ((with_reducible refine Keep.setCell ?_ ?_ _); rotate_left; focus (first | (simp; done) | (simp; omega) | (left; dsimp only; omega))))); done))⟩)
    · obtain rfl : q = N := by omega
      have HK := Lib.hid hk
      clear hk hh
      go_wp2_with fail
      exact hR.out _ _ ⟨rfl, HK1.out.trans HK.out⟩
end Go.Proofs.Ytnadiddaeolanaa
