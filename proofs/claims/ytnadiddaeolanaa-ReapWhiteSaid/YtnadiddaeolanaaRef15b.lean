/- Layer 15 as the document says it: blocks are given back. -/
import Derived.Test.YtnadiddaeolanaaRef15
import Derived.Test.YtnadiddaeolanaaReapLaw
import Derived.Shelf.RegionOpenPlain
import Derived.Deep.LoopGhost
namespace Go.Proofs.Ytnadiddaeolanaa
open Go.RowKit
set_option linter.unusedVariables false
set_option linter.unusedSimpArgs false

/-- A heap in a box; the result's cell beside it. -/
structure HpB (w0 wr : World) (sv : Value) (z N lt lg lb : Nat) (ao : Option Addr) (cap : Nat) (V : List Int) : Prop where
  box : wr.heap[z]? = some (.cells #[.slice ao N cap, .int .i64 lt, .int .i64 lg, .int .i64 lb] 114 (0, 0))
  res : wr.heap[z + 1]? = some (.cells #[.slice none 0 0, .int .i64 0, .int .i64 0, .int .i64 0] 114 (0, 0))
  len : V.length = N
  rd : Rd wr (.slice ao N cap) N (u64s V)
  far : ∀ q, (Value.slice ao N cap).ownBlock = some q → q ≠ z ∧ q ≠ z + 1
  from_ : From w0 sv (.slice ao N cap)
  new : w0.heap.size ≤ z
  keep : Keep [] w0 wr
theorem HpB.far_ {w0 wr wr' : World} {sv : Value} {z N lt lg lb : Nat} {ao : Option Addr} {cap : Nat} {V : List Int} (h : HpB w0 wr sv z N lt lg lb ao cap V) (k : Keep [] wr wr') : HpB w0 wr' sv z N lt lg lb ao cap V :=
  ⟨k.get h.box (by simp), k.get h.res (by simp), h.len, h.rd.keep k (fun _ _ => by simp), h.far, h.from_, h.new, h.keep.trans k⟩
theorem HpB.first {w w1 : World} {z N lt lg lb : Nat} {ao : Option Addr} {cap : Nat} {V : List Int} (hz : z = w.heap.size) (hw : w1 = (w.alloc (.cells #[.slice ao N cap, .int .i64 lt, .int .i64 lg, .int .i64 lb] 114)).alloc (.cells #[.slice none 0 0, .int .i64 0, .int .i64 0, .int .i64 0] 114))
    (hl : V.length = N) (h1 : 1 ≤ N) (hr : Rd w (.slice ao N cap) N (u64s V)) : HpB w w1 (.slice ao N cap) z N lt lg lb ao cap V := by
  have K1 : Keep [] w w1 := by rw [hw]; ((repeat (first | (with_reducible exact Keep.refl _ _) | (with_reducible refine Keep.drew ?_) | (with_reducible refine Keep.drewN ?_ _) | (with_reducible refine Keep.alloc ?_ _) | ((with_reducible refine Keep.setCell ?_ ?_ _); rotate_left; focus (first | (simp; done) | (simp; omega) | (left; dsimp only; omega))))); done)
  refine ⟨by rw [hw]; exact alloc_keeps (alloc_new _ _ _ hz) _, by rw [hw]; exact alloc_new _ _ _ (by simp [hz]), hl, hr.keep K1 (fun _ _ => by simp), fun q hq => ?_, From.refl _ _, by omega, K1⟩
  obtain ⟨bb, oo, hao, hlt, -⟩ := hr.some (by rw [u64s_len, hl]; omega)
  rw [hao] at hq
  have h' : bb = q := Option.some.inj hq
  omega
/-- The heap behind a word more, in its box. -/
theorem HpB.put {w0 wr w' : World} {sv : Value} {z N lt lg lb : Nat} {ao ao' : Option Addr} {cap cap' : Nat} {V V' : List Int} (h : HpB w0 wr sv z N lt lg lb ao cap V) (k : Keep [] wr w') (hl : V'.length = N) (hr : Rd w' (.slice ao' N cap') N (u64s V')) (hf : From wr (.slice ao N cap) (.slice ao' N cap')) :
    HpB w0 ((((w'.setCell ⟨z, 0, none⟩ (.slice ao' N cap')).setCell ⟨z, 1, none⟩ (.int .i64 lt)).setCell ⟨z, 2, none⟩ (.int .i64 lg)).setCell ⟨z, 3, none⟩ (.int .i64 lb)) sv z N lt lg lb ao' cap' V' := by
  have hb := k.get h.box (by simp); have hb1 := k.get h.res (by simp)
  have hs := h.keep.size
  have hnew := h.new
  have hfar : ∀ q, (Value.slice ao' N cap').ownBlock = some q → q ≠ z ∧ q ≠ z + 1 := fun q hq => by
    rcases hf q hq with h1 | h1
    · exact h.far q h1
    · have := lt_of_block h.res; omega
  have kz : Keep [z] w' ((((w'.setCell ⟨z, 0, none⟩ (.slice ao' N cap')).setCell ⟨z, 1, none⟩ (.int .i64 lt)).setCell ⟨z, 2, none⟩ (.int .i64 lg)).setCell ⟨z, 3, none⟩ (.int .i64 lb)) := by ((repeat (first | (with_reducible exact Keep.refl _ _) | (with_reducible refine Keep.drew ?_) | (with_reducible refine Keep.drewN ?_ _) | (with_reducible refine Keep.alloc ?_ _) | ((with_reducible refine Keep.setCell ?_ ?_ _); rotate_left; focus (first | (simp; done) | (simp; omega) | (left; dsimp only; omega))))); done)
  exact ⟨put_at (put_at (put_at (put_at hb 0 _) 1 _) 2 _) 3 _, kz.get hb1 (by simp), hl, hr.keep kz (fun q hq => by simpa using (hfar q hq).1), hfar, h.from_.trans hf hs, hnew, (h.keep.trans k).fresh kz (by simp; omega)⟩
/-- The result stands in its cell. -/
theorem HpB.done {w0 wr : World} {sv : Value} {z N lt lg lb : Nat} {ao : Option Addr} {cap : Nat} {V : List Int} (h : HpB w0 wr sv z N lt lg lb ao cap V) {w' : World} (k : Keep [z + 1] wr w') : Rd w' (.slice ao N cap) N (u64s V) ∧ Keep [] w0 w' ∧ From w0 sv (.slice ao N cap) :=
  ⟨h.rd.keep k (fun q hq => by simpa using (h.far q hq).2), h.keep.fresh k (by have := h.new; simp; omega), h.from_⟩

set_option maxRecDepth 100000 in
set_option maxHeartbeats 8000000 in
theorem ref15_back {w : World} {sv : Value} {W : List Int} (hr : Rd w sv W.length (u64s W)) (hW : Words W) (l : Lay) (hl : l.fits) (hfit : l.base + l.b ≤ W.length) (hsm : W.length ≤ 4096) (k r : Nat) (hkr : k + r ≤ l.b) (hr13 : 1 ≤ r ∧ r ≤ 3) :
    Calls Try.prog 123 #[hpV sv l, .int .i64 k, .int .i64 r] w fun e w' => ∃ sv', e = .returned (hpV sv' l) ∧ Rd w' sv' W.length (u64s (backW W l k r)) ∧ Keep [] w w' ∧ From w sv sv' := by
  refine calls_abs fun R hR => ?_
  have mixed : Try.prog.follows .mixedOrders = true := by kernel_rfl
  obtain ⟨ao, cap, rfl, hc1, hc2⟩ := hr.shape
  have hb3 := base_ge l
  have hlen1 : 1 ≤ W.length := by omega
  have hdoc := backW_doc hW (l := l) hlen1 k r hkr hr13
  have hzn := fun i => zeroW_next W l k i
  have hz0 := zeroW_none W l k
  have hzl := fun (i : Nat) => zeroW_len W l k i
  have hzw := fun (i : Nat) => zeroW_words hW l k i
  have hm64 : (rdz W 0).toNat < 18446744073709551616 := by have := hW 0; omega
  have hz00 : rdz (zeroW W l k r) 0 = (((rdz W 0).toNat : Nat) : Int) := by
    have h := zeroW_rdz W l k r 0 (by omega)
    rw [if_neg (by omega)] at h
    have h0 := hW 0
    rw [show (((0 : Nat) : Int)) = 0 from rfl] at h
    rw [h]; omega
  have hent := fun (i : Nat) (hi : i < r) => lay_entry_fits hfit (k + i) (by omega)
  have hen := fun (i : Nat) w => ref06_entry l hl ((k + i : Nat) : Int) w
  have hwith := fun (w' : World) (sv' : Value) (V : List Int) (hrv : Rd w' sv' V.length (u64s V)) (hs : 1 ≤ V.length ∧ V.length ≤ 4096) (a : Nat) (ha : a < V.length) (v : Int) => ref15_with hrv hs l a ha v
  generalize (rdz W 0).toNat = m at *
  have hlb : l.b ≤ 64 := hl.2.2
  obtain ⟨lt, lg, lb⟩ := l
  unfold hpV Lay.val at *
  dsimp only at *
  obtain ⟨N, hN⟩ : ∃ N, N = W.length := ⟨_, rfl⟩
  rw [← hN] at hr hc1 hsm hlen1 hzl hR ⊢
  have HR := Lib.hid hr; have HDOC := Lib.hid hdoc; have HZN := Lib.hid hzn; have HZ0 := Lib.hid hz0; have HZL := Lib.hid hzl; have HZW := Lib.hid hzw; have HZ00 := Lib.hid hz00; have HENT := Lib.hid hent; have HEN := Lib.hid hen; have HWITH := Lib.hid hwith; have HN := Lib.hid hN
  clear hr hdoc hzn hz0 hzl hzw hz00 hent hen hwith hN hW hfit hl hb3
  go_enter Try.func123, Try.ntmps123
  go_wp2_with fail
  obtain ⟨z, hz⟩ : ∃ z, z = w.heap.size := ⟨_, rfl⟩
  simp only [← hz]
  generalize hw1 : World.alloc _ _ = w1
  have HB1 := Lib.hid (HpB.first hz hw1.symm HN.out.symm hlen1 HR.out)
  clear hw1 hz
  go_loopg [7] r (fun j iv wr => ∃ (i : Nat) (ax : Option Addr) (cp : Nat), i + j = r ∧ iv = .int .i64 i ∧ HpB w wr (.slice ao N cap) z N lt lg lb ax cp (zeroW W ⟨lt, lg, lb⟩ k i))
  case atStart => exact ⟨0, _, _, by omega, rfl, by rw [show ((0 : Nat) : Int) = 0 from rfl, HZ0.out]; exact HB1.out⟩
  case round =>
    obtain ⟨i, ai, cp, hij, rfl, hB⟩ := hrel
    have c0 := cell_at hB.box; have f0 := frozen_at hB.box; have l0 := lt_of_block hB.box
    have HB := Lib.hid hB
    clear hB
    by_cases hir : i < r
    · have i1 : (i : Int) < r := by omega
      have hw64 : IntKind.i64.wrap ((k : Int) + i) = ((k + i : Nat) : Int) := by rw [IntKind.wrap_i64]; omega
      obtain ⟨e1, e2, e3⟩ := HENT.out i hir
      have hen := fun w => HEN.out i w
      rw [e1] at hen
      have hsuc := HZN.out i
      have hput : putz (zeroW W ⟨lt, lg, lb⟩ k i) ((Lay.base ⟨lt, lg, lb⟩ + k + i : Nat) : Int) 0 = (zeroW W ⟨lt, lg, lb⟩ k i).set (Lay.base ⟨lt, lg, lb⟩ + (k + i)) 0 := by
        rw [← Nat.add_assoc]
        exact putz_nat (by rw [HZL.out i, HN.out]; omega) _
      rw [hput] at hsuc
      have hwi := fun (w' : World) (K : Keep [] wr w') => HWITH.out w' (.slice ai N cp) (zeroW W ⟨lt, lg, lb⟩ k i) (by rw [HZL.out i]; exact HB.out.rd.keep K (fun _ _ => by simp)) (by rw [HZL.out i]; omega) (Lay.base ⟨lt, lg, lb⟩ + (k + i)) (by rw [HZL.out i, HN.out]; omega) 0
      rw [HZL.out i] at hwi
      rw [← hsuc] at hwi
      generalize Lay.base ⟨lt, lg, lb⟩ + (k + i) = A at *
      have HENI := Lib.hid hen; have HWI := Lib.hid hwi; have HSUC := Lib.hid hsuc
      clear hen hwi hsuc hput e1 e2 e3
      go_wp2_with fail
      go_region_with_o (first
        | (go_at_call 104; refine (HENI.out _).mono ?_; rintro e w5 ⟨rfl, K5⟩; have HK5 := Lib.hid (show Keep [] wr w5 from by refine Keep.trans (a := wr) ?_ K5; ((repeat (first | (with_reducible exact Keep.refl _ _) | (with_reducible refine Keep.drew ?_) | (with_reducible refine Keep.drewN ?_ _) | (with_reducible refine Keep.alloc ?_ _) | ((with_reducible refine Keep.setCell ?_ ?_ _); rotate_left; focus (first | (simp; done) | (simp; omega) | (left; dsimp only; omega))))); done)); have c05 := cell_at (HK5.out.get HB.out.box (by simp)); clear K5)
        | (go_at_call 121; refine (HWI.out _ (by ((repeat (first | (with_reducible exact HK5.out) | (with_reducible refine Keep.drew ?_) | (with_reducible refine Keep.drewN ?_ _) | (with_reducible refine Keep.alloc ?_ _) | ((with_reducible refine Keep.setCell ?_ ?_ _); rotate_left; focus (first | (simp; done) | (simp; omega) | (left; dsimp only; omega))))); done))).mono ?_; rintro e w6 ⟨sv6, rfl, R6, K6, F6⟩; have HK6 := Lib.hid (show Keep [] wr w6 from by refine Keep.trans (a := wr) ?_ K6; ((repeat (first | (with_reducible exact HK5.out) | (with_reducible refine Keep.drew ?_) | (with_reducible refine Keep.drewN ?_ _) | (with_reducible refine Keep.alloc ?_ _) | ((with_reducible refine Keep.setCell ?_ ?_ _); rotate_left; focus (first | (simp; done) | (simp; omega) | (left; dsimp only; omega))))); done)); obtain ⟨a6, cp6, hv6, -, -⟩ := R6.shape; subst hv6; have HR6 := Lib.hid R6; have HF6 := Lib.hid F6; have b6 := HK6.out.get HB.out.box (by simp); have c06 := cell_at b6; have f06 := frozen_at b6; have l06 := lt_of_block b6; clear K6 R6 F6 b6))
      all_goals (
        generalize hw7 : World.setCell _ _ _ = w7
        have hB7 : HpB w w7 (.slice ao N cap) z N lt lg lb a6 cp6 (zeroW W ⟨lt, lg, lb⟩ k ((i + 1 : Nat) : Int)) := by
          rw [← hw7]
          refine HB.out.put HK6.out (by rw [HZL.out (i + 1)]) HR6.out ?_
          intro q hq
          rcases HF6.out q hq with h | h
          · exact .inl h
          · exact .inr (Nat.le_trans HK5.out.size (by simpa using h))
        have HB7 := Lib.hid hB7
        clear hw7 hB7 c06 f06 l06 c05
        go_wp2_with fail
        go_roundg (r - (i + 1))
        case measure => omega
        case rel => exact ⟨i + 1, _, _, by omega, by go_num, HB7.out⟩)
    · obtain rfl : i = r := by omega
      have hr := HB.out.rd
      obtain ⟨ai', oi', hai, hal, hac⟩ := hr.some (by rw [u64s_len, HB.out.len]; omega)
      subst hai
      have hz0 := HZ00.out
      have hzlen := HB.out.len
      have hri : rdz (zeroW W ⟨lt, lg, lb⟩ k i) 0 = (zeroW W ⟨lt, lg, lb⟩ k i).getD 0 0 := by rw [show (0 : Int) = ((0 : Nat) : Int) from rfl, rdz_nat (by omega), List.getD_eq_getElem?_getD, List.getElem?_eq_getElem (by omega)]; rfl
      have h0l : 0 < (zeroW W ⟨lt, lg, lb⟩ k i).length := by omega
      have hcell := hac 0 (.int .u64 (m : Int)) (by rw [← hz0, hri]; simp [u64s, h0l])
      rw [Nat.add_zero] at hcell
      have hN1 : (0 : Int) < N := by omega
      have HC := Lib.hid hcell; have HAL := Lib.hid hal
      have hwi := fun (w' : World) (K : Keep [] wr w') (v : Int) => HWITH.out w' (.slice (some ⟨ai', oi', none⟩) N cp) (zeroW W ⟨lt, lg, lb⟩ k i) (by rw [HZL.out i]; exact HB.out.rd.keep K (fun _ _ => by simp)) (by rw [HZL.out i]; omega) 0 (by rw [HZL.out i]; omega) v
      rw [HZL.out i] at hwi
      have HWI := Lib.hid hwi
      clear hr hac hri hz0 hzlen hal h0l hwi
      go_wp2_with fail
      refine (ref04_is m hm64 k i false wr).mono ?_
      rintro e w2 ⟨rfl, K2⟩
      have hdoc := HDOC.out
      cases hrun : isRun m k i false with
      | false =>
        rw [hrun, if_neg (by simp)] at hdoc
        have hB2 := HB.out.far_ K2
        have c0 := cell_at hB2.box; have l0 := lt_of_block hB2.box; have c1 := cell_at hB2.res; have f1 := frozen_at hB2.res; have l1 := lt_of_block hB2.res
        have HDC := Lib.hid hdoc; have HB2 := Lib.hid hB2
        clear hdoc hrun hB2 K2 f0
        go_wp2_with fail
        refine bodyPost_ret (v := .agg #[.slice (some ⟨ai', oi', none⟩) N cp, .int .i64 lt, .int .i64 lg, .int .i64 lb]) ?_ rfl ?_
        · simp [results, Try.results123, go_sem, c1, l1]
        refine hR.out _ _ ⟨_, rfl, ?_⟩
        rw [HDC.out]
        exact HB2.out.done (by ((repeat (first | (with_reducible exact Keep.refl _ _) | (with_reducible refine Keep.drew ?_) | (with_reducible refine Keep.drewN ?_ _) | (with_reducible refine Keep.alloc ?_ _) | ((with_reducible refine Keep.setCell ?_ ?_ _); rotate_left; focus (first | (simp; done) | (simp; omega) | (left; dsimp only; omega))))); done))
      | true =>
        rw [hrun, if_pos rfl] at hdoc
        have hset : putz (zeroW W ⟨lt, lg, lb⟩ k i) 0 ((withRun m k i true : Nat) : Int) = (zeroW W ⟨lt, lg, lb⟩ k i).set 0 ((withRun m k i true : Nat) : Int) := putz_nat (i := 0) (by rw [HZL.out i]; omega) _
        rw [hset] at hdoc
        have hB2 := HB.out.far_ K2
        have c0 := cell_at hB2.box; have l0 := lt_of_block hB2.box; have f0 := frozen_at hB2.box
        have hw4 := fun w => ref04_with m hm64 k i (by omega) true w
        have hwi := fun (w' : World) (K : Keep [] wr w') => HWI.out w' K ((withRun m k i true : Nat) : Int)
        rw [← hdoc] at hwi
        have hcell2 := K2.cell HC.out (by simp)
        have hlenb : (backW W ⟨lt, lg, lb⟩ k i).length = N := by rw [backW_len]; exact HN.out.symm
        generalize backW W ⟨lt, lg, lb⟩ k i = VB at *
        generalize ((withRun m k i true : Nat) : Int) = mv at *
        have HB2 := Lib.hid hB2; have HW4 := Lib.hid hw4; have HWJ := Lib.hid hwi; have HK2 := Lib.hid K2; have HLB := Lib.hid hlenb
        clear hdoc hrun hB2 K2 hw4 hwi hset hlenb
        have la2 := World.block_lt_of_cell? w2 _ hcell2
        have j0 : ((0 : Nat) : Int) = 0 := rfl
        rw [j0] at HWJ
        clear j0
        go_wp2_with fail
        go_region_with_o (first
          | (go_at_call 92; refine (HW4.out _).mono ?_; rintro e w5 ⟨rfl, K5⟩; have HK5 := Lib.hid (show Keep [] w2 w5 from by refine Keep.trans (a := w2) ?_ K5; ((repeat (first | (with_reducible exact Keep.refl _ _) | (with_reducible refine Keep.drew ?_) | (with_reducible refine Keep.drewN ?_ _) | (with_reducible refine Keep.alloc ?_ _) | ((with_reducible refine Keep.setCell ?_ ?_ _); rotate_left; focus (first | (simp; done) | (simp; omega) | (left; dsimp only; omega))))); done)); have c05 := cell_at (HK5.out.get HB2.out.box (by simp)); clear K5)
          | (go_at_call 121; refine (HWJ.out _ (HK2.out.trans (by ((repeat (first | (with_reducible exact HK5.out) | (with_reducible refine Keep.drew ?_) | (with_reducible refine Keep.drewN ?_ _) | (with_reducible refine Keep.alloc ?_ _) | ((with_reducible refine Keep.setCell ?_ ?_ _); rotate_left; focus (first | (simp; done) | (simp; omega) | (left; dsimp only; omega))))); done)))).mono ?_; rintro e w6 ⟨sv6, rfl, R6, K6, F6⟩; have HK6 := Lib.hid (show Keep [] w2 w6 from by refine Keep.trans (a := w2) ?_ K6; ((repeat (first | (with_reducible exact HK5.out) | (with_reducible refine Keep.drew ?_) | (with_reducible refine Keep.drewN ?_ _) | (with_reducible refine Keep.alloc ?_ _) | ((with_reducible refine Keep.setCell ?_ ?_ _); rotate_left; focus (first | (simp; done) | (simp; omega) | (left; dsimp only; omega))))); done)); obtain ⟨a6, cp6, hv6, -, -⟩ := R6.shape; subst hv6; have HR6 := Lib.hid R6; have HF6 := Lib.hid F6; have b6 := HK6.out.get HB2.out.box (by simp); have c06 := cell_at b6; have f06 := frozen_at b6; have l06 := lt_of_block b6; clear K6 R6 F6 b6))
        all_goals (
          generalize hw7 : World.setCell _ _ _ = w7
          have hB7 : HpB w w7 (.slice ao N cap) z N lt lg lb a6 cp6 VB := by
            rw [← hw7]
            refine HB2.out.put HK6.out HLB.out HR6.out ?_
            intro q hq
            rcases HF6.out q hq with h | h
            · exact .inl h
            · exact .inr (Nat.le_trans HK5.out.size (by simpa using h))
          have c7 := cell_at hB7.box; have l7 := lt_of_block hB7.box; have c71 := cell_at hB7.res; have f71 := frozen_at hB7.res; have l71 := lt_of_block hB7.res
          have HB7 := Lib.hid hB7
          clear hw7 hB7 c06 f06 l06 c05
          go_wp2_with fail
          refine bodyPost_ret (v := .agg #[.slice a6 N cp6, .int .i64 lt, .int .i64 lg, .int .i64 lb]) ?_ rfl ?_
          · simp [results, Try.results123, go_sem, c71, l71]
          exact hR.out _ _ ⟨_, rfl, HB7.out.done (by ((repeat (first | (with_reducible exact Keep.refl _ _) | (with_reducible refine Keep.drew ?_) | (with_reducible refine Keep.drewN ?_ _) | (with_reducible refine Keep.alloc ?_ _) | ((with_reducible refine Keep.setCell ?_ ?_ _); rotate_left; focus (first | (simp; done) | (simp; omega) | (left; dsimp only; omega))))); done))⟩)
open Go.RowKit
set_option linter.unusedVariables false
set_option linter.unusedSimpArgs false

set_option maxRecDepth 100000 in
set_option maxHeartbeats 8000000 in
theorem ref15_waiting {w : World} {sv : Value} {W : List Int} (hr : Rd w sv W.length (u64s W)) (hW : Words W) (l : Lay) (hl : l.fits) (hfit : l.base + l.b ≤ W.length) (hsm : W.length ≤ 4096) (ow : Int) :
    Calls Try.prog 124 #[hpV sv l, .int .u8 ow] w fun e w' => ∃ sv', e = .returned (hpV sv' l) ∧ Rd w' sv' W.length (u64s (waitW l (fun x => x == ow) W l.b)) ∧ Keep [] w w' ∧ From w sv sv' := by
  refine calls_abs fun R hR => ?_
  have mixed : Try.prog.follows .mixedOrders = true := by kernel_rfl
  obtain ⟨ao, cap, rfl, hc1, hc2⟩ := hr.shape
  have hb3 := base_ge l
  have hlen1 : 1 ≤ W.length := by omega
  have hlb : l.b ≤ 64 := hl.2.2
  have hwl := fun n => waitW_len l (fun x => x == ow) W n
  have hww := fun n => waitW_words hW l (fun x => x == ow) n
  have hws := fun n => waitW_succ l (fun x => x == ow) W n
  have hdoc := fun (V : List Int) (i : Nat) (hi : i < l.b) => waitStep_doc l (fun x => x == ow) V i hi
  have hen := fun (w' : World) (sv' : Value) (V : List Int) (hrv : Rd w' sv' V.length (u64s V)) (hV : Words V) (hf : l.base + l.b ≤ V.length) (hs : V.length ≤ 4096) (k : Nat) (hk : k < l.b) => ref15_entry hrv hV l hl hf hs k hk
  have hbk := fun (w' : World) (sv' : Value) (V : List Int) (hrv : Rd w' sv' V.length (u64s V)) (hV : Words V) (hf : l.base + l.b ≤ V.length) (hs : V.length ≤ 4096) (k r : Nat) (hkr : k + r ≤ l.b) (h13 : 1 ≤ r ∧ r ≤ 3) => ref15_back hrv hV l hl hf hs k r hkr h13
  have hru := fun (V : List Int) (i : Nat) (hi : i < l.b) => (show (entryOf V l i).u8 ∧ ((entryOf V l i).k = 5 → 1 ≤ (entryOf V l i).r ∧ (entryOf V l i).r ≤ 3) from ⟨entryOf_u8 V l i, fun h => by rw [entryOf_at i hi] at h ⊢; exact takeE_run _ (.inl h)⟩)
  obtain ⟨L, hL⟩ : ∃ L, L = l := ⟨_, rfl⟩
  rw [← hL] at hwl hww hws hdoc hru
  obtain ⟨lt, lg, lb⟩ := l
  unfold hpV at *
  dsimp only at *
  obtain ⟨N, hN⟩ : ∃ N, N = W.length := ⟨_, rfl⟩
  rw [← hN] at hr hc1 hsm hlen1 hwl hR hfit ⊢
  have HR := Lib.hid hr; have HWL := Lib.hid hwl; have HWW := Lib.hid hww; have HWS := Lib.hid hws; have HDOC := Lib.hid hdoc; have HEN := Lib.hid hen; have HBK := Lib.hid hbk; have HRU := Lib.hid hru; have HL := Lib.hid hL; have HN := Lib.hid hN; have HFIT := Lib.hid hfit
  clear hr hwl hww hws hdoc hen hbk hru hL hN hW hl hb3 hfit
  go_enter Try.func124, Try.ntmps124
  go_wp2_with fail
  obtain ⟨z, hz⟩ : ∃ z, z = w.heap.size := ⟨_, rfl⟩
  simp only [← hz]
  generalize hw1 : World.alloc _ _ = w1
  have HB1 := Lib.hid (HpB.first hz hw1.symm HN.out.symm hlen1 HR.out)
  clear hw1 hz
  go_loopg [5] lb (fun j iv wr => ∃ (i : Nat) (ax : Option Addr) (cp : Nat), i + j = lb ∧ iv = .int .i64 i ∧ HpB w wr (.slice ao N cap) z N lt lg lb ax cp (waitW L (fun x => x == ow) W i))
  case atStart => exact ⟨0, _, _, by omega, rfl, HB1.out⟩
  case round =>
    obtain ⟨i, ai, cp, hij, rfl, hB⟩ := hrel
    have c0 := cell_at hB.box; have f0 := frozen_at hB.box; have l0 := lt_of_block hB.box
    have HB := Lib.hid hB
    clear hB
    by_cases hir : i < lb
    · have i1 : (i : Int) < lb := by omega
      have hLb : L.b = lb := by rw [HL.out]
      have hiL : i < L.b := by rw [hLb]; exact hir
      have hsuc := HWS.out i
      have hvl := HWL.out i
      have hvw := HWW.out i
      have hvd := HDOC.out (waitW L (fun x => x == ow) W i) i hiL
      have hvu := HRU.out (waitW L (fun x => x == ow) W i) i hiL
      have hsl := HWL.out (i + 1)
      rw [hsuc] at hsl
      rw [hLb] at hvd
      have hf : Lay.base ⟨lt, lg, lb⟩ + lb ≤ (waitW L (fun x => x == ow) W i).length := by rw [hvl]; exact HFIT.out
      have hen := HEN.out wr (.slice ai N cp) (waitW L (fun x => x == ow) W i) (by rw [hvl]; exact HB.out.rd) hvw hf (by omega) i hir
      rw [← HL.out] at hen
      have hbk := fun (w' : World) (K : Keep [] wr w') => HBK.out w' (.slice ai N cp) (waitW L (fun x => x == ow) W i) (by rw [hvl]; exact HB.out.rd.keep K (fun _ _ => by simp)) hvw hf (by omega)
      rw [← HL.out, hvl] at hbk
      generalize waitStep L (fun x => x == ow) (waitW L (fun x => x == ow) W i) i = V2 at *
      generalize waitW L (fun x => x == ow) W i = V at *
      generalize entryOf V L (i : Int) = d at *
      obtain ⟨dk, dc, dr, dw⟩ := d
      unfold En.val at hen
      unfold En.u8 at hvu
      dsimp only at hen hvu hvd
      obtain ⟨⟨⟨u1, u2⟩, ⟨u3, u4⟩, ⟨u5, u6⟩, u7, u8⟩, hr5⟩ := hvu
      have HEI := Lib.hid hen; have HBI := Lib.hid hbk; have HVD := Lib.hid hvd; have HSUC := Lib.hid hsuc; have HSL := Lib.hid hsl; have HR5 := Lib.hid hr5
      clear hen hbk hvd hsuc hvl hvw hf hsl hr5
      go_wp2_with fail
      refine HEI.out.mono ?_
      rintro e w2 ⟨rfl, K2⟩
      have hB2 := HB.out.far_ K2
      have c0 := cell_at hB2.box; have f0 := frozen_at hB2.box; have l0 := lt_of_block hB2.box
      have HB2 := Lib.hid hB2; have HK2 := Lib.hid K2
      clear hB2 K2 HEI
      have hwr : IntKind.i64.wrap dr = dr := by rw [IntKind.wrap_i64]; omega
      have hwb : IntKind.i64.wrap ((i : Int) + dr) = (i : Int) + dr := by rw [IntKind.wrap_i64]; omega
      by_cases ho : dw = ow
      · subst ho
        have hvd := HVD.out
        by_cases h4 : dk = 4
        · subst h4
          rw [if_pos ⟨by simp, rfl⟩] at hvd
          have hbi := fun (w' : World) (K : Keep [] wr w') => HBI.out w' K i 1 (by omega) (by omega)
          rw [show (((1 : Nat) : Int)) = 1 from rfl, ← hvd] at hbi
          have HBJ := Lib.hid hbi
          clear hvd hbi
          go_wp2_with fail
          refine (HBJ.out _ (HK2.out.trans (by ((repeat (first | (with_reducible exact Keep.refl _ _) | (with_reducible refine Keep.drew ?_) | (with_reducible refine Keep.drewN ?_ _) | (with_reducible refine Keep.alloc ?_ _) | ((with_reducible refine Keep.setCell ?_ ?_ _); rotate_left; focus (first | (simp; done) | (simp; omega) | (left; dsimp only; omega))))); done)))).mono ?_
          rintro e w3 ⟨sv3, rfl, R3, K3, F3⟩
          obtain ⟨a3, cp3, hv3, -, -⟩ := R3.shape
          subst hv3
          have hK3 : Keep [] w2 w3 := by refine Keep.trans ?_ K3; ((repeat (first | (with_reducible exact Keep.refl _ _) | (with_reducible refine Keep.drew ?_) | (with_reducible refine Keep.drewN ?_ _) | (with_reducible refine Keep.alloc ?_ _) | ((with_reducible refine Keep.setCell ?_ ?_ _); rotate_left; focus (first | (simp; done) | (simp; omega) | (left; dsimp only; omega))))); done)
          have he3 := K3.get (alloc_new w2 _ _ rfl) (by simp)
          have ce := cell_at he3; have le := lt_of_block he3
          have b3 := hK3.get HB2.out.box (by simp); have c0 := cell_at b3; have f0 := frozen_at b3; have l0 := lt_of_block b3
          have hz2 : ¬ w2.heap.size = z := by omega
          have HK3 := Lib.hid hK3; have HR3 := Lib.hid R3; have HF3 := Lib.hid F3
          clear b3 he3 R3 F3 hK3 K3
          go_wp2_with fail
          generalize hw7 : World.setCell _ _ _ = w7
          have hB7 : HpB w w7 (.slice ao N cap) z N lt lg lb a3 cp3 V2 := by
            rw [← hw7]
            refine HB2.out.put HK3.out HSL.out HR3.out ?_
            intro q hq
            rcases HF3.out q hq with h | h
            · exact .inl h
            · exact .inr (Nat.le_trans (by simp) h)
          have HB7 := Lib.hid hB7
          clear hw7 hB7
          go_roundg (lb - (i + 1))
          case measure => omega
          case rel => exact ⟨i + 1, _, _, by omega, by go_num, by rw [HSUC.out]; exact HB7.out⟩
        have q4 : (dk == 4) = false := by simp [h4]
        rw [if_neg (fun x => h4 x.2)] at hvd
        by_cases h5 : dk = 5
        · subst h5
          have h13 := HR5.out rfl
          by_cases hb : (i : Int) + dr ≤ lb
          · rw [if_pos ⟨by simp, rfl, hb⟩] at hvd
            obtain ⟨rn, rfl⟩ : ∃ rn : Nat, dr = rn := ⟨dr.toNat, by omega⟩
            have hbi := fun (w' : World) (K : Keep [] wr w') => HBI.out w' K i rn (by omega) (by omega)
            rw [← hvd] at hbi
            have HBJ := Lib.hid hbi
            clear hvd hbi h4
            go_wp2_with fail
            refine (HBJ.out _ (HK2.out.trans (by ((repeat (first | (with_reducible exact Keep.refl _ _) | (with_reducible refine Keep.drew ?_) | (with_reducible refine Keep.drewN ?_ _) | (with_reducible refine Keep.alloc ?_ _) | ((with_reducible refine Keep.setCell ?_ ?_ _); rotate_left; focus (first | (simp; done) | (simp; omega) | (left; dsimp only; omega))))); done)))).mono ?_
            rintro e w3 ⟨sv3, rfl, R3, K3, F3⟩
            obtain ⟨a3, cp3, hv3, -, -⟩ := R3.shape
            subst hv3
            have hK3 : Keep [] w2 w3 := by refine Keep.trans ?_ K3; ((repeat (first | (with_reducible exact Keep.refl _ _) | (with_reducible refine Keep.drew ?_) | (with_reducible refine Keep.drewN ?_ _) | (with_reducible refine Keep.alloc ?_ _) | ((with_reducible refine Keep.setCell ?_ ?_ _); rotate_left; focus (first | (simp; done) | (simp; omega) | (left; dsimp only; omega))))); done)
            have he3 := K3.get (alloc_new w2 _ _ rfl) (by simp)
            have ce := cell_at he3; have le := lt_of_block he3
            have b3 := hK3.get HB2.out.box (by simp); have c0 := cell_at b3; have f0 := frozen_at b3; have l0 := lt_of_block b3
            have hz2 : ¬ w2.heap.size = z := by omega
            have HK3 := Lib.hid hK3; have HR3 := Lib.hid R3; have HF3 := Lib.hid F3
            clear b3 he3 R3 F3 hK3 K3
            go_wp2_with fail
            generalize hw7 : World.setCell _ _ _ = w7
            have hB7 : HpB w w7 (.slice ao N cap) z N lt lg lb a3 cp3 V2 := by
              rw [← hw7]
              refine HB2.out.put HK3.out HSL.out HR3.out ?_
              intro q hq
              rcases HF3.out q hq with h | h
              · exact .inl h
              · exact .inr (Nat.le_trans (by simp) h)
            have HB7 := Lib.hid hB7
            clear hw7 hB7
            go_roundg (lb - (i + 1))
            case measure => omega
            case rel => exact ⟨i + 1, _, _, by omega, by go_num, by rw [HSUC.out]; exact HB7.out⟩

          · rw [if_neg (fun x => hb x.2.2)] at hvd
            have HVV := Lib.hid hvd
            have g1 : decide ((i : Int) + dr ≤ (lb : Int)) = false := by simp; omega
            clear hvd h4 hb
            go_wp2_with fail
            go_roundg (lb - (i + 1))
            case measure => omega
            case rel => exact ⟨i + 1, _, _, by omega, by go_num, by rw [HSUC.out, HVV.out]; exact HB2.out.far_ (by ((repeat (first | (with_reducible exact Keep.refl _ _) | (with_reducible refine Keep.drew ?_) | (with_reducible refine Keep.drewN ?_ _) | (with_reducible refine Keep.alloc ?_ _) | ((with_reducible refine Keep.setCell ?_ ?_ _); rotate_left; focus (first | (simp; done) | (simp; omega) | (left; dsimp only; omega))))); done))⟩
        · have q5 : (dk == 5) = false := by simp [h5]
          rw [if_neg (fun x => h5 x.2.1)] at hvd
          have HVV := Lib.hid hvd
          clear hvd h4 h5
          go_wp2_with fail
          go_roundg (lb - (i + 1))
          case measure => omega
          case rel => exact ⟨i + 1, _, _, by omega, by go_num, by rw [HSUC.out, HVV.out]; exact HB2.out.far_ (by ((repeat (first | (with_reducible exact Keep.refl _ _) | (with_reducible refine Keep.drew ?_) | (with_reducible refine Keep.drewN ?_ _) | (with_reducible refine Keep.alloc ?_ _) | ((with_reducible refine Keep.setCell ?_ ?_ _); rotate_left; focus (first | (simp; done) | (simp; omega) | (left; dsimp only; omega))))); done))⟩
      · have hvd := HVD.out
        have qo : (dw == ow) = false := by simp [ho]
        rw [if_neg (fun x => by have := x.1; simp [ho] at this), if_neg (fun x => by have := x.1; simp [ho] at this)] at hvd
        have HVV := Lib.hid hvd
        clear hvd ho
        go_wp2_with fail
        go_roundg (lb - (i + 1))
        case measure => omega
        case rel => exact ⟨i + 1, _, _, by omega, by go_num, by rw [HSUC.out, HVV.out]; exact HB2.out.far_ (by ((repeat (first | (with_reducible exact Keep.refl _ _) | (with_reducible refine Keep.drew ?_) | (with_reducible refine Keep.drewN ?_ _) | (with_reducible refine Keep.alloc ?_ _) | ((with_reducible refine Keep.setCell ?_ ?_ _); rotate_left; focus (first | (simp; done) | (simp; omega) | (left; dsimp only; omega))))); done))⟩
    · obtain rfl : i = lb := by omega
      have c1 := cell_at HB.out.res; have f1 := frozen_at HB.out.res; have l1 := lt_of_block HB.out.res
      go_wp2_with fail
      refine bodyPost_ret (v := .agg #[.slice ai N cp, .int .i64 lt, .int .i64 lg, .int .i64 i]) ?_ rfl ?_
      · simp [results, Try.results124, go_sem, c1, l1]
      refine hR.out _ _ ⟨_, rfl, ?_⟩
      rw [← HL.out]
      exact HB.out.done (by ((repeat (first | (with_reducible exact Keep.refl _ _) | (with_reducible refine Keep.drew ?_) | (with_reducible refine Keep.drewN ?_ _) | (with_reducible refine Keep.alloc ?_ _) | ((with_reducible refine Keep.setCell ?_ ?_ _); rotate_left; focus (first | (simp; done) | (simp; omega) | (left; dsimp only; omega))))); done))
end Go.Proofs.Ytnadiddaeolanaa
