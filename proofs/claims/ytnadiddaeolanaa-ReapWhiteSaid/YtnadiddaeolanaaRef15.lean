/- Layer 15 as the document says it: a heap's words, by value. -/
import Derived.Test.YtnadiddaeolanaaRef21b
import Derived.Test.YtnadiddaeolanaaRef04
import Derived.Deep.CutBlock
namespace Go.Proofs.Ytnadiddaeolanaa
open Go.RowKit
set_option linter.unusedVariables false
set_option linter.unusedSimpArgs false

def hpV (sv : Value) (l : Lay) : Value := .agg #[sv, .int .i64 l.t, .int .i64 l.g, .int .i64 l.b]

set_option maxRecDepth 100000 in
set_option maxHeartbeats 4000000 in
theorem ref15_with {w : World} {sv : Value} {W : List Int} (hr : Rd w sv W.length (u64s W)) (hsm : 1 ≤ W.length ∧ W.length ≤ 4096) (l : Lay) (a : Nat) (ha : a < W.length) (v : Int) :
    Calls Try.prog 121 #[hpV sv l, .int .i64 a, .int .u64 v] w fun e w' => ∃ sv', e = .returned (hpV sv' l) ∧ Rd w' sv' W.length (u64s (W.set a v)) ∧ Keep [] w w' ∧ From w sv sv' := by
  refine calls_abs fun R hR => ?_
  obtain ⟨ao, cap, rfl, hc1, hc2⟩ := hr.shape
  obtain ⟨lt, lg, lb⟩ := l
  unfold hpV at hR ⊢
  dsimp only at hR ⊢
  have i0 : (0 : Int) ≤ (a : Int) := by omega
  have i1 : (a : Int) < W.length := by omega
  have he : u64s (W.set a v) = (u64s W).set a (.int .u64 v) := by simp [u64s, List.map_set]
  rw [he] at hR
  have hcell : (u64s W)[a]? = some (.int .u64 W[a]) := by simp [u64s, ha]
  generalize W[a] = old at hcell
  have hul := u64s_len W
  generalize u64s W = U at *
  obtain ⟨N, hN⟩ : ∃ N, N = W.length := ⟨_, rfl⟩
  rw [← hN] at hr hsm hc1 ha i1 hR hul ⊢
  have HR := Lib.hid hr; have HCELL := Lib.hid hcell; have HUL := Lib.hid hul
  clear hN he hr hcell hul
  go_enter Try.func121, Try.ntmps121
  go_upto_region 1 with (fail)
  obtain ⟨z, hz⟩ : ∃ z, z = w.heap.size := ⟨_, rfl⟩
  simp only [← hz]
  generalize hw1 : World.alloc _ _ = w1
  have b0 : w1.heap[z]? = some (.cells #[.slice ao N cap, .int .i64 lt, .int .i64 lg, .int .i64 lb] 114 (0, 0)) := by rw [← hw1]; exact alloc_keeps (alloc_new _ _ _ hz) _
  have b1 : w1.heap[z + 1]? = some (.cells #[.slice none 0 0, .int .i64 0, .int .i64 0, .int .i64 0] 114 (0, 0)) := by rw [← hw1]; exact alloc_new _ _ _ (by simp [hz])
  have K1 : Keep [] w w1 := by rw [← hw1]; exact (by repeat (first | (with_reducible exact Keep.refl _ _) | (with_reducible refine Keep.drew ?_) | (with_reducible refine Keep.drewN ?_ _) | (with_reducible refine Keep.alloc ?_ _) | (with_reducible refine Keep.setCell ?_ (by first | (simp; done) | (simp; omega) | (left; dsimp only; omega)) _)))
  have HZ := Lib.hid (show w.heap.size ≤ z from by omega)
  have HR1 := Lib.hid (HR.out.keep K1 (fun _ _ => by simp)); have HB0 := Lib.hid b0; have HB1 := Lib.hid b1; have HK1 := Lib.hid K1
  have HZS := Lib.hid (lt_of_block b1)
  have c0 := cell_at b0; have l0 := lt_of_block b0
  clear hw1 hz b0 b1 K1
  go_wp2_with (at_builtin; go_loud (refine wpList_append_nil _ rfl _ _ _ rfl elem_u64 w1.heap.size rfl _ N U rfl HR1.out (by have := HUL.out; omega) (by simp only [maxLen]; omega) (by omega) (by omega) ?_); intro ao' cap' w2 ho hg; go_loud (have hK2 : Keep [] w1 w2 := Keep.grown (Keep.refl _ _) hg (by simp); have HO2 := Lib.hid ho; have HK2 := Lib.hid hK2; have hb0 := hK2.get HB0.out (by simp); have hb1 := hK2.get HB1.out (by simp); obtain ⟨q, cap2, hao, hq0, hq00, hq1, hq2, hqc, hfr⟩ := owns_some ho (by omega)); go_loud (cases hao); go_loud (have hcq := hqc a _ HCELL.out; have c0 := cell_at hb0; have c1 := cell_at hb1; have f0 := frozen_at hb0; have f1 := frozen_at hb1; have l0 := lt_of_block hb0; have l1 := lt_of_block hb1; have HQ1 := Lib.hid hq1; have HB0 := Lib.hid hb0; have HB1 := Lib.hid hb1; have hqz : z ≠ q ∧ z + 1 ≠ q ∧ q ≠ z ∧ q ≠ z + 1 := (by have := HZS.out; omega); obtain ⟨n1, n2, n3, n4⟩ := hqz; clear hqc ho hK2 hg hb0 hb1 hq1))
  refine bodyPost_ret (v := .agg #[.slice (some ⟨q, 0, none⟩) N cap', .int .i64 lt, .int .i64 lg, .int .i64 lb]) ?_ rfl ?_
  · simp [results, Try.results121, go_sem, c1, l1]
  have hz := HZ.out; have hs1 := HK1.out.size; have hq1 := HQ1.out; have hzs := HZS.out
  have hk : Keep [] w w2 := HK1.out.trans HK2.out
  have hO1 := (show Keep [z] w2 (w2.setCell ⟨z, 0, none⟩ (.slice (some ⟨q, 0, none⟩) N cap')) from by ((repeat (first | (with_reducible exact Keep.refl _ _) | (with_reducible refine Keep.drew ?_) | (with_reducible refine Keep.drewN ?_ _) | (with_reducible refine Keep.alloc ?_ _) | ((with_reducible refine Keep.setCell ?_ ?_ _); rotate_left; focus (first | (simp; done) | (simp; omega) | (left; dsimp only; omega))))); done)).owns HO2.out (fun g hg => by have h' : q = g := Option.some.inj hg; simp; omega)
  have hO2 := owns_put hO1 ha (.int .u64 v)
  have hone : ∀ u ∈ U.set a (.int .u64 v), u.oneCell' = true := fun u hu => by
    rcases List.mem_or_eq_of_mem_set hu with h | h
    · exact HR.out.ones u h
    · subst h; rfl
  refine hR.out _ _ ⟨_, rfl, ?_, by ((repeat (first | (with_reducible exact hk) | (with_reducible refine Keep.drew ?_) | (with_reducible refine Keep.drewN ?_ _) | (with_reducible refine Keep.alloc ?_ _) | ((with_reducible refine Keep.setCell ?_ ?_ _); rotate_left; focus (first | (simp; done) | (simp; omega) | (left; dsimp only; omega))))); done), From.new (by omega)⟩
  refine (Rd.of_owns hO2 hone).keep (S := [z + 1]) (by ((repeat (first | (with_reducible exact Keep.refl _ _) | (with_reducible refine Keep.drew ?_) | (with_reducible refine Keep.drewN ?_ _) | (with_reducible refine Keep.alloc ?_ _) | ((with_reducible refine Keep.setCell ?_ ?_ _); rotate_left; focus (first | (simp; done) | (simp; omega) | (left; dsimp only; omega))))); done)) (fun g hg => by have h' : q = g := Option.some.inj hg; simp; omega)

/-- The words of a heap by value: read, kept. -/
structure Hp (w : World) (W : List Int) (l : Lay) : Prop where
  words : Words W
  fits : l.fits
  room : l.base + l.b ≤ W.length
  small : W.length ≤ 4096

theorem lay_entry_fits {W : List Int} {l : Lay} (hfit : l.base + l.b ≤ W.length) (k : Nat) (hk : k < l.b) : l.entry k = ((l.base + k : Nat) : Int) ∧ l.base + k < W.length ∧ 3 ≤ l.base := by
  rw [Lay.entry_in (by omega)]
  unfold Lay.base at *
  exact ⟨by omega, by omega, by omega⟩

set_option maxRecDepth 100000 in
set_option maxHeartbeats 4000000 in
theorem ref15_entry {w : World} {sv : Value} {W : List Int} (hr : Rd w sv W.length (u64s W)) (hW : Words W) (l : Lay) (hl : l.fits) (hfit : l.base + l.b ≤ W.length) (hsm : W.length ≤ 4096) (k : Nat) (hk : k < l.b) :
    Calls Try.prog 122 #[hpV sv l, .int .i64 k] w fun e w' => e = .returned (entryOf W l k).val ∧ Keep [] w w' := by
  refine calls_abs fun R hR => ?_
  have mixed : Try.prog.follows .mixedOrders = true := by kernel_rfl
  obtain ⟨ao, cap, rfl, hc1, hc2⟩ := hr.shape
  obtain ⟨e1, e2, e3⟩ := lay_entry_fits hfit k hk
  have hent : entryOf W l k = takeE (rdz W ((l.base + k : Nat) : Int)) := by unfold entryOf; rw [if_neg (by omega), e1]
  rw [hent] at hR
  have hen := fun w => ref06_entry l hl k w
  rw [e1] at hen
  obtain ⟨a, o, rfl, hal, hac⟩ := hr.some (by rw [u64s_len]; omega)
  have hri : rdz W ((l.base + k : Nat) : Int) = W.getD (l.base + k) 0 := by rw [rdz_nat e2, List.getD_eq_getElem?_getD, List.getElem?_eq_getElem e2]; rfl
  have hcell := hac (l.base + k) (.int .u64 (rdz W ((l.base + k : Nat) : Int))) (by rw [hri]; simp [u64s, e2])
  have htk := fun w => ref05_take (rdz W ((l.base + k : Nat) : Int)) (hW _) w
  have i1 : ((l.base + k : Nat) : Int) < W.length := by omega
  have i0 : (0 : Int) ≤ ((l.base + k : Nat) : Int) := by omega
  generalize rdz W ((l.base + k : Nat) : Int) = x at *
  obtain ⟨er, her⟩ : ∃ er : Int, er = if isEn x then 0 else 3 := ⟨_, rfl⟩
  rw [← her] at htk
  generalize takeE x = d at *
  obtain ⟨dk, dc, dr, dw⟩ := d
  generalize l.base + k = A at *
  obtain ⟨lt, lg, lb⟩ := l
  unfold hpV Lay.val En.val at *
  dsimp only at *
  generalize W.length = N at *
  have HR := Lib.hid hr; have HEN := Lib.hid hen; have HTK := Lib.hid htk; have HC := Lib.hid hcell
  clear hr hen htk hcell hac hri her hent e1 e2 e3 hl hW
  go_enter Try.func122, Try.ntmps122
  go_upto_region 1 with (fail)
  obtain ⟨z, hz⟩ : ∃ z, z = w.heap.size := ⟨_, rfl⟩
  simp only [← hz]
  generalize hw1 : World.alloc _ _ = w1
  have b0 : w1.heap[z]? = some (.cells #[.slice (some ⟨a, o, none⟩) N cap, .int .i64 lt, .int .i64 lg, .int .i64 lb] 114 (0, 0)) := by rw [← hw1]; exact alloc_keeps (alloc_new _ _ _ hz) _
  have b1 : w1.heap[z + 1]? = some (.cells #[.int .u8 0, .int .u8 0, .int .u8 0, .int .u8 0] 61 (0, 0)) := by rw [← hw1]; exact alloc_new _ _ _ (by simp [hz])
  have K1 : Keep [] w w1 := by rw [← hw1]; exact (by repeat (first | (with_reducible exact Keep.refl _ _) | (with_reducible refine Keep.drew ?_) | (with_reducible refine Keep.drewN ?_ _) | (with_reducible refine Keep.alloc ?_ _) | (with_reducible refine Keep.setCell ?_ (by first | (simp; done) | (simp; omega) | (left; dsimp only; omega)) _)))
  have hcell := K1.cell HC.out (by simp)
  have HZ := Lib.hid (show w.heap.size ≤ z from by omega)
  have HB0 := Lib.hid b0; have HB1 := Lib.hid b1; have HK1 := Lib.hid K1; have HC1 := Lib.hid hcell
  have D0 : Hid (w1.cell? ⟨z, 0, none⟩ = some (.slice (some ⟨a, o, none⟩) N cap)) := by rw [Hid, cell_at b0]; rfl
  have D1 : Hid (w1.cell? ⟨z, 1, none⟩ = some (.int .i64 lt)) := by rw [Hid, cell_at b0]; rfl
  have D2 : Hid (w1.cell? ⟨z, 2, none⟩ = some (.int .i64 lg)) := by rw [Hid, cell_at b0]; rfl
  have D3 : Hid (w1.cell? ⟨z, 3, none⟩ = some (.int .i64 lb)) := by rw [Hid, cell_at b0]; rfl
  clear hw1 hz b0 b1 K1 hcell
  first
  | (go_region_held3 (fun w' => w'.cell? ⟨z, 0, none⟩ = some (.slice (some ⟨a, o, none⟩) N cap) ∧ w'.cell? ⟨z, 1, none⟩ = some (.int .i64 lt) ∧ w'.cell? ⟨z, 2, none⟩ = some (.int .i64 lg) ∧ w'.cell? ⟨z, 3, none⟩ = some (.int .i64 lb) ∧ w'.cell? ⟨a, o + A, none⟩ = some (.int .u64 x))
      (first
        | (refine ⟨Keep.cell (S := []) (w := w1) ?_ D0.out (by simp), Keep.cell (S := []) (w := w1) ?_ D1.out (by simp), Keep.cell (S := []) (w := w1) ?_ D2.out (by simp), Keep.cell (S := []) (w := w1) ?_ D3.out (by simp), Keep.cell (S := []) (w := w1) ?_ HC1.out (by simp)⟩; all_goals (((repeat (first | (with_reducible exact Keep.refl _ _) | (with_reducible refine Keep.drew ?_) | (with_reducible refine Keep.drewN ?_ _) | (with_reducible refine Keep.alloc ?_ _) | ((with_reducible refine Keep.setCell ?_ ?_ _); rotate_left; focus (first | (simp; done) | (simp; omega) | (left; dsimp only; omega))))); done)))
        | (refine ⟨Keep.cell (S := []) (w := w1) ?_ D0.out (by simp), Keep.cell (S := []) (w := w1) ?_ D1.out (by simp), Keep.cell (S := []) (w := w1) ?_ D2.out (by simp), Keep.cell (S := []) (w := w1) ?_ D3.out (by simp), Keep.cell (S := []) (w := w1) ?_ HC1.out (by simp)⟩; all_goals (((repeat (first | (with_reducible exact HK6.out) | (with_reducible refine Keep.drew ?_) | (with_reducible refine Keep.drewN ?_ _) | (with_reducible refine Keep.alloc ?_ _) | ((with_reducible refine Keep.setCell ?_ ?_ _); rotate_left; focus (first | (simp; done) | (simp; omega) | (left; dsimp only; omega))))); done)))
        | (refine ⟨Keep.cell (S := []) (w := w1) ?_ D0.out (by simp), Keep.cell (S := []) (w := w1) ?_ D1.out (by simp), Keep.cell (S := []) (w := w1) ?_ D2.out (by simp), Keep.cell (S := []) (w := w1) ?_ D3.out (by simp), Keep.cell (S := []) (w := w1) ?_ HC1.out (by simp)⟩; all_goals (((repeat (first | (with_reducible exact HK5.out) | (with_reducible refine Keep.drew ?_) | (with_reducible refine Keep.drewN ?_ _) | (with_reducible refine Keep.alloc ?_ _) | ((with_reducible refine Keep.setCell ?_ ?_ _); rotate_left; focus (first | (simp; done) | (simp; omega) | (left; dsimp only; omega))))); done))))
      (first
        | (go_at_call 104; refine (HEN.out _).mono ?_; rintro e w5 ⟨rfl, K5⟩; have HK5 := Lib.hid (show Keep [] w1 w5 from by refine Keep.trans (a := w1) ?_ K5; ((repeat (first | (with_reducible exact Keep.refl _ _) | (with_reducible refine Keep.drew ?_) | (with_reducible refine Keep.drewN ?_ _) | (with_reducible refine Keep.alloc ?_ _) | ((with_reducible refine Keep.setCell ?_ ?_ _); rotate_left; focus (first | (simp; done) | (simp; omega) | (left; dsimp only; omega))))); done)); have hs5 := HK5.out.size; try (have ba5 := K5.get (alloc_new w1 _ _ rfl) (by simp); have cb5 := cell_at ba5; have fb5 := frozen_at ba5; have lb5 := lt_of_block ba5); clear K5)
        | (go_at_call 47; refine (HTK.out _).mono ?_; rintro e w6 ⟨rfl, K6⟩; have HK6 := Lib.hid (show Keep [] w1 w6 from by refine Keep.trans (a := w1) ?_ K6; first | (((repeat (first | (with_reducible exact HK5.out) | (with_reducible refine Keep.drew ?_) | (with_reducible refine Keep.drewN ?_ _) | (with_reducible refine Keep.alloc ?_ _) | ((with_reducible refine Keep.setCell ?_ ?_ _); rotate_left; focus (first | (simp; done) | (simp; omega) | (left; dsimp only; omega))))); done)) | (((repeat (first | (with_reducible exact Keep.refl _ _) | (with_reducible refine Keep.drew ?_) | (with_reducible refine Keep.drewN ?_ _) | (with_reducible refine Keep.alloc ?_ _) | ((with_reducible refine Keep.setCell ?_ ?_ _); rotate_left; focus (first | (simp; done) | (simp; omega) | (left; dsimp only; omega))))); done))); have c1 := cell_at (HK6.out.get HB1.out (by simp)); have f1 := frozen_at (HK6.out.get HB1.out (by simp)); have l1 := lt_of_block (HK6.out.get HB1.out (by simp)); have hs6 := HK6.out.size; try (first | (have ba6 := K6.get (alloc_new w5 _ _ rfl) (by simp); have cb6 := cell_at ba6; have fb6 := frozen_at ba6; have lb6 := lt_of_block ba6) | (have ba6 := K6.get ba5 (by simp); have cb6 := cell_at ba6; have fb6 := frozen_at ba6; have lb6 := lt_of_block ba6)); clear K6)))
  all_goals (
    have lz1 := lt_of_block HB1.out
    have hne1 : ¬ w1.heap.size = z + 1 := by omega
    have hne5 : ¬ w5.heap.size = z + 1 := by omega
    have hne6 : ¬ w6.heap.size = z + 1 := by omega
    go_wp2_with fail
    refine bodyPost_ret (v := .agg #[.int .u8 dk, .int .u8 dc, .int .u8 dr, .int .u8 dw]) ?_ rfl ?_
    · simp [results, Try.results122, go_sem, c1, l1, hne1, hne5, hne6]
    have hz := HZ.out; have hs1 := HK1.out.size; have hs6 := HK6.out.size
    have hk : Keep [] w w6 := HK1.out.trans HK6.out
    exact hR.out _ _ ⟨rfl, by ((repeat (first | (with_reducible exact hk) | (with_reducible refine Keep.drew ?_) | (with_reducible refine Keep.drewN ?_ _) | (with_reducible refine Keep.alloc ?_ _) | ((with_reducible refine Keep.setCell ?_ ?_ _); rotate_left; focus (first | (simp; done) | (simp; omega) | (left; dsimp only; omega))))); done)⟩)
end Go.Proofs.Ytnadiddaeolanaa
