/- The walk of TraceAll: the law. -/
import Derived.Test.YtnadiddaeolanaaReached2
import Derived.Deep.CutBlock
import Derived.Deep.DeepCutAuto
import Derived.BigQuiet
import Derived.Deep.QuietTactic
namespace Go.Proofs.Ytnadiddaeolanaa
open Go.RowKit
set_option linter.unusedVariables false
set_option linter.unusedSimpArgs false

theorem arn_ltA {w : World} {b g : Nat} {W : List Int} (h : ∃ t la, Arn w b g W t la) : b < w.heap.size ∧ g < w.heap.size := by
  obtain ⟨t, la, h⟩ := h; exact ⟨lt_of_block h.head, lt_of_block h.row⟩
theorem arn_farA {w w' : World} {b g : Nat} {W : List Int} (h : ∃ t la, Arn w b g W t la) (k : Keep [] w w') : ∃ t la, Arn w' b g W t la := by
  obtain ⟨t, la, h⟩ := h; exact ⟨t, la, h.keep k (by simp) (by simp)⟩

/-- What stands ahead of the passes, and behind them. -/
structure TA (w wr : World) (b g n : Nat) (W hs : List Int) (out : List Bool) (g0 zo z6 z9 : Nat) (ah : Option Addr) (caph : Nat) (V : List Int) : Prop where
  arn : ∃ t la, Arn wr b g V t la
  row : Rd wr (.slice (some ⟨g0, 0, none⟩) (6 + 33 * n) (6 + 33 * n)) (6 + 33 * n) (u64s W)
  heads : Rd wr (.slice ah hs.length caph) hs.length (intsV hs)
  hfar : ∀ q, (Value.slice ah hs.length caph).ownBlock = some q → q ≠ b ∧ q ≠ g
  hlt : ∀ q, (Value.slice ah hs.length caph).ownBlock = some q → q < wr.heap.size
  want : wr.heap[zo]? = some (.cells (cellsB out) 4 (0, 0))
  lay9 : wr.heap[z9]? = some (.cells #[.int .i64 1, .int .i64 2, .int .i64 n] 53 (0, 0))
  keep : Keep [] w wr
theorem TA.far {w wr wr' : World} {b g n : Nat} {W hs : List Int} {out : List Bool} {g0 zo z6 z9 : Nat} {ah : Option Addr} {caph : Nat} {V : List Int} (h : TA w wr b g n W hs out g0 zo z6 z9 ah caph V) (k : Keep [] wr wr') : TA w wr' b g n W hs out g0 zo z6 z9 ah caph V :=
  ⟨arn_farA h.arn k, h.row.keep k (fun _ _ => by simp), h.heads.keep k (fun _ _ => by simp), h.hfar, fun q hq => Nat.lt_of_lt_of_le (h.hlt q hq) k.size, k.get h.want (by simp), k.get h.lay9 (by simp), h.keep.trans k⟩
theorem TA.next {w wr wr' : World} {b g n : Nat} {W hs : List Int} {out : List Bool} {g0 zo z6 z9 : Nat} {ah : Option Addr} {caph : Nat} {V V' : List Int} (h : TA w wr b g n W hs out g0 zo z6 z9 ah caph V) (k : Keep [b, g] wr wr') (ha : ∃ t la, Arn wr' b g V' t la) (h0 : g0 ∉ [b, g]) (ho : zo ∉ [b, g]) (h9 : z9 ∉ [b, g]) (hw : w.heap.size ≤ b ∧ w.heap.size ≤ g) : TA w wr' b g n W hs out g0 zo z6 z9 ah caph V' :=
  ⟨ha, h.row.keep k (fun q hq => by have h' : g0 = q := Option.some.inj hq; rw [← h']; exact h0), h.heads.keep k (fun q hq => by have := h.hfar q hq; simp; exact this), h.hfar, fun q hq => Nat.lt_of_lt_of_le (h.hlt q hq) k.size, k.get h.want ho, k.get h.lay9 h9, h.keep.fresh k (by simp; omega)⟩

theorem TA.put {w wr wr1 wr' : World} {b g n : Nat} {W hs : List Int} {out : List Bool} {g0 zo z6 z9 : Nat} {ah : Option Addr} {caph : Nat} {V : List Int} (h : TA w wr b g n W hs out g0 zo z6 z9 ah caph V) (hl : W.length = 6 + 33 * n) {y : Nat} (k0 : Keep [] wr wr1) (k : Keep [y] wr1 wr') (hy : wr.heap.size ≤ y) : TA w wr' b g n W hs out g0 zo z6 z9 ah caph V := by
  have h1 := arn_ltA h.arn
  have h2 := lt_of_block h.want; have h3 := lt_of_block h.lay9
  obtain ⟨g', o', he, h4, -⟩ := h.row.some (by rw [u64s_len]; omega)
  have he' : g0 = g' := by have := Option.some.inj he; simp only [Addr.mk.injEq] at this; exact this.1
  subst he'
  have h0 := h.far k0
  have hs := h.keep.size
  obtain ⟨t, la, ha⟩ := h0.arn
  refine ⟨⟨t, la, ha.keep k (by simp; omega) (by simp; omega)⟩, h0.row.keep k (fun q hq => by have h' : g0 = q := Option.some.inj hq; simp; omega), h0.heads.keep k (fun q hq => by have := h.hlt q hq; simp; omega), h.hfar, fun q hq => Nat.lt_of_lt_of_le (h0.hlt q hq) k.size, k.get h0.want (by simp; omega), k.get h0.lay9 (by simp; omega), h0.keep.fresh k (by simp; omega)⟩

set_option maxRecDepth 100000 in
set_option maxHeartbeats 16000000 in
theorem trace_all_law (bv cv : Value) (bl : List Int) (cs : List Cl) (r0 r1 c : Int) (hc : 0 ≤ c ∧ c ≤ 255) (w : World) (hh : HpIn w bv cv bl cs r0 r1) :
    Calls Try.prog 8 #[heapV bv cv r0 r1, .int .u8 c] w fun e w' => e = .returned (.bool true) ∧ Keep [] w w' := by
  refine calls_abs fun R hR => ?_
  have mixed : Try.prog.follows .mixedOrders = true := by kernel_rfl
  have hb0 : ∀ k, 0 ≤ bl.getD k 0 := fun k => by
    rw [List.getD_eq_getElem?_getD]
    cases hk : bl[k]? with
    | none => simp
    | some x => exact (hh.bytes x (List.mem_of_getElem? hk)).1
  have hwd := fun (w' : World) (K : Keep [] w w') => law21_words _ _ _ _ _ _ w' (hh.keep K)
  have hheap := fun W h => heapW_words bl hb0 cs (fun x hx => (hh.ok x hx).1) r0 r1 W h
  generalize wordsS bl cs r0 r1 = o at *
  obtain ⟨n, hn⟩ : ∃ n, n = bl.length := ⟨_, rfl⟩
  have hstarts := fun (hn6 : n ≤ 6) (w' : World) (K : Keep [] w w') => law21_starts (Lay.mk 1 2 n) ⟨by show (1 : Nat) ≤ 64; omega, by show (2 : Nat) ≤ 8; omega, by show n ≤ 64; omega⟩ bv bl (by omega) hh.bytes (by show bl.length ≤ n; omega) w' (hh.blocks.keep K (fun _ _ => by simp))
  rw [← hn] at hwd hheap hstarts
  unfold WordsR heapV at hwd
  unfold heapV
  unfold Lay.val at hwd hstarts
  have HB0 := Lib.hid hb0
  have hlate : ∀ w1 w2, Keep [] w w1 → Keep [] w1 w2 → R (.returned (.bool true)) w2 := fun w1 w2 k1 k2 => hR.out _ _ ⟨rfl, k1.trans k2⟩
  have HLATE := Lib.hid hlate
  clear hlate
  obtain ⟨abv, capbv, hbv, -, -⟩ := hh.blocks.shape
  cases o with
  | none =>
    dsimp only at hwd
    push_cast at hwd
    have HWD := Lib.hid hwd
    clear hwd hheap hh hn hb0 hstarts hbv
    go_enter Try.func8, Try.ntmps8
    go_wp2_with fail
    refine (HWD.out _ (by repeat (first | (with_reducible exact Keep.refl _ _) | (with_reducible refine Keep.drew ?_) | (with_reducible refine Keep.drewN ?_ _) | (with_reducible refine Keep.alloc ?_ _) | (with_reducible refine Keep.setCell ?_ (by first | (simp; done) | (simp; omega) | (left; dsimp only; omega)) _)))).mono ?_
    rintro e w2 ⟨rfl, K2⟩
    have HK2 := Lib.hid (show Keep [] w w2 from by refine Keep.trans ?_ K2; ((repeat (first | (with_reducible exact Keep.refl _ _) | (with_reducible refine Keep.drew ?_) | (with_reducible refine Keep.drewN ?_ _) | (with_reducible refine Keep.alloc ?_ _) | ((with_reducible refine Keep.setCell ?_ ?_ _); rotate_left; focus (first | (simp; done) | (simp; omega) | (left; dsimp only; omega))))); done))
    clear K2
    go_wp2_with fail
    refine (law21_wakes _).mono ?_
    rintro e w3 ⟨rfl, K3⟩
    go_wp2_with fail
    refine HLATE.out _ _ ?_ K3
    ((repeat (first | (with_reducible exact HK2.out) | (with_reducible refine Keep.drew ?_) | (with_reducible refine Keep.drewN ?_ _) | (with_reducible refine Keep.alloc ?_ _) | ((with_reducible refine Keep.setCell ?_ ?_ _); rotate_left; focus (first | (simp; done) | (simp; omega) | (left; dsimp only; omega))))); done)
  | some W =>
    dsimp only at hwd hstarts
    push_cast at hwd hstarts
    have hHW := (hheap W rfl).1
    have hnb := (hheap W rfl).2
    have hstarts := hstarts hnb.2
    have HHW := Lib.hid hHW; have HSTS := Lib.hid hstarts
    have HWD := Lib.hid hwd
    clear hwd hheap hh hHW hb0 hstarts hn hbv
    go_enter Try.func8, Try.ntmps8
    go_wp2_with fail
    refine (HWD.out _ (by repeat (first | (with_reducible exact Keep.refl _ _) | (with_reducible refine Keep.drew ?_) | (with_reducible refine Keep.drewN ?_ _) | (with_reducible refine Keep.alloc ?_ _) | (with_reducible refine Keep.setCell ?_ (by first | (simp; done) | (simp; omega) | (left; dsimp only; omega)) _)))).mono ?_
    rintro e w2 ⟨g0, rfl, hg0, hgb, K2⟩
    have bc := K2.get (alloc_new w (.cells #[bv, cv, .int .u8 r0, .int .u8 r1] 86) w.heap.size rfl) (by simp)
    have hg0w : w.heap.size < g0 := by simp at hgb; omega
    obtain ⟨ph, hph⟩ : ∃ x, x = w.heap.size := ⟨_, rfl⟩
    simp only [← hph] at bc hg0w ⊢
    have HPH := Lib.hid hph; have HBC := Lib.hid bc
    have cc := cell_at bc; have lc := lt_of_block bc
    have HG0 := Lib.hid hg0; have HK2 := Lib.hid (show Keep [] w w2 from by refine Keep.trans ?_ K2; ((repeat (first | (with_reducible exact Keep.refl _ _) | (with_reducible refine Keep.drew ?_) | (with_reducible refine Keep.drewN ?_ _) | (with_reducible refine Keep.alloc ?_ _) | ((with_reducible refine Keep.setCell ?_ ?_ _); rotate_left; focus (first | (simp; done) | (simp; omega) | (left; dsimp only; omega))))); done))
    clear hg0 hgb K2 bc hph
    by_cases hc1 : 1 < c
    · have q0 : decide (1 < c) = true := by simpa using hc1
      go_wp2_with fail
      refine (law21_wakes _).mono ?_
      rintro e w3 ⟨rfl, K3⟩
      go_wp2_with fail
      refine HLATE.out _ _ ?_ K3
      ((repeat (first | (with_reducible exact HK2.out) | (with_reducible refine Keep.drew ?_) | (with_reducible refine Keep.drewN ?_ _) | (with_reducible refine Keep.alloc ?_ _) | ((with_reducible refine Keep.setCell ?_ ?_ _); rotate_left; focus (first | (simp; done) | (simp; omega) | (left; dsimp only; omega))))); done)
    have q0 : decide (1 < c) = false := by simpa using hc1
    go_wp2_with fail
    obtain ⟨z, hz⟩ : ∃ z, z = w2.heap.size := ⟨_, rfl⟩
    simp only [← hz] at lc ⊢
    generalize hw3 : World.alloc _ _ = w3
    have b6 : w3.heap[z]? = some (.cells #[.int .i64 1, .int .i64 2, .int .i64 n] 88 (0, 0)) := by rw [← hw3]; exact alloc_new _ _ _ hz
    have K3 : Keep [] w2 w3 := by rw [← hw3]; exact (by repeat (first | (with_reducible exact Keep.refl _ _) | (with_reducible refine Keep.drew ?_) | (with_reducible refine Keep.drewN ?_ _) | (with_reducible refine Keep.alloc ?_ _) | (with_reducible refine Keep.setCell ?_ (by first | (simp; done) | (simp; omega) | (left; dsimp only; omega)) _)))
    have hlen := HHW.out.len
    have hg03 := K3.get HG0.out (by simp)
    have hr0 : Rd w3 (.slice (some ⟨g0, 0, none⟩) (6 + 33 * n) (6 + 33 * n)) W.length (u64s W) := by
      have h := rd_of_u64 hg03 (by rw [hlen]; omega)
      rw [hlen] at h ⊢
      exact h
    have hmade := law21_made n hnb W hlen _ w3 hr0
    unfold Lay.val at hmade
    dsimp only at hmade
    push_cast at hmade
    have hgz : g0 < z := by have := lt_of_block HG0.out; omega
    have HB6 := Lib.hid b6; have HK3 := Lib.hid (HK2.out.trans K3); have HM := Lib.hid hmade; have HR3 := Lib.hid hr0; have HLEN := Lib.hid hlen; have HBC3 := Lib.hid (K3.get HBC.out (by simp))
    clear hw3 b6 hr0 K3 hmade hz hg03 hlen HBC cc lc
    refine HM.out.mono ?_
    rintro e w4 ⟨b, g, rfl, hA4, K4, hb4, hg4⟩
    have HA4 := Lib.hid hA4; have HK4 := Lib.hid (HK3.out.trans K4); have HB64 := Lib.hid (K4.get HB6.out (by simp)); have HR4 := Lib.hid (HR3.out.keep K4 (fun _ _ => by simp)); have HBC4 := Lib.hid (K4.get HBC3.out (by simp))
    have hzb : z < b ∧ z < g := by have := lt_of_block HB6.out; omega
    clear hA4 K4 hb4 hg4 HM HB6 HR3 HG0 HBC3
    have c6 := cell_at HB64.out; have l6 := lt_of_block HB64.out
    go_upto_region 5 with (fail)
    obtain ⟨z9, hz9⟩ : ∃ z, z = w4.heap.size := ⟨_, rfl⟩
    simp only [← hz9] at l6 ⊢
    generalize hw5 : World.alloc _ _ = w5
    have b9 : w5.heap[z9]? = some (.cells #[.int .i64 1, .int .i64 2, .int .i64 n] 53 (0, 0)) := by rw [← hw5]; exact alloc_new _ _ _ hz9
    have K5 : Keep [] w4 w5 := by rw [← hw5]; exact (by repeat (first | (with_reducible exact Keep.refl _ _) | (with_reducible refine Keep.drew ?_) | (with_reducible refine Keep.drewN ?_ _) | (with_reducible refine Keep.alloc ?_ _) | (with_reducible refine Keep.setCell ?_ (by first | (simp; done) | (simp; omega) | (left; dsimp only; omega)) _)))
    have hbg9 : b < z9 ∧ g < z9 := by have := arn_ltA HA4.out; omega
    have HB9 := Lib.hid b9; have HK5 := Lib.hid (HK4.out.trans K5); have HA5 := Lib.hid (arn_farA HA4.out K5)
    have HB65 := Lib.hid (K5.get HB64.out (by simp)); have HR5 := Lib.hid (HR4.out.keep K5 (fun _ _ => by simp)); have HBC5 := Lib.hid (K5.get HBC4.out (by simp))
    have hblk := fun w => layout_blocks (Lay.mk 1 2 n) w
    unfold Lay.val at hblk
    dsimp only at hblk
    push_cast at hblk
    have HBLK := Lib.hid hblk
    have D1 : Hid (w5.cell? ⟨z9, 0, none⟩ = some (.int .i64 1)) := by rw [Hid, cell_at b9]; rfl
    have D2 : Hid (w5.cell? ⟨z9, 1, none⟩ = some (.int .i64 2)) := by rw [Hid, cell_at b9]; rfl
    have D3 : Hid (w5.cell? ⟨z9, 2, none⟩ = some (.int .i64 n)) := by rw [Hid, cell_at b9]; rfl
    have D4 : Hid (w5.cell? ⟨z, 2, none⟩ = some (.int .i64 n)) := by rw [Hid, cell_at HB65.out]; rfl
    have qn : ((n : Int) != (n : Int)) = false := by simp
    clear hw5 hblk b9 K5 hz9 c6 l6 HA4 HB64 HK4 HR4 HBC4
    (go_region_held3 (fun w' => w'.cell? ⟨z9, 0, none⟩ = some (.int .i64 1) ∧ w'.cell? ⟨z9, 1, none⟩ = some (.int .i64 2) ∧ w'.cell? ⟨z9, 2, none⟩ = some (.int .i64 n) ∧ w'.cell? ⟨z, 2, none⟩ = some (.int .i64 n))
        (first
          | (refine ⟨Keep.cell (S := []) (w := w5) ?_ D1.out (by simp), Keep.cell (S := []) (w := w5) ?_ D2.out (by simp), Keep.cell (S := []) (w := w5) ?_ D3.out (by simp), Keep.cell (S := []) (w := w5) ?_ D4.out (by simp)⟩; all_goals (((repeat (first | (with_reducible exact Keep.refl _ _) | (with_reducible refine Keep.drew ?_) | (with_reducible refine Keep.drewN ?_ _) | (with_reducible refine Keep.alloc ?_ _) | ((with_reducible refine Keep.setCell ?_ ?_ _); rotate_left; focus (first | (simp; done) | (simp; omega) | (left; dsimp only; omega))))); done)))
          | (refine ⟨Keep.cell (S := []) (w := w5) ?_ D1.out (by simp), Keep.cell (S := []) (w := w5) ?_ D2.out (by simp), Keep.cell (S := []) (w := w5) ?_ D3.out (by simp), Keep.cell (S := []) (w := w5) ?_ D4.out (by simp)⟩; all_goals (((repeat (first | (with_reducible exact HK6.out) | (with_reducible refine Keep.drew ?_) | (with_reducible refine Keep.drewN ?_ _) | (with_reducible refine Keep.alloc ?_ _) | ((with_reducible refine Keep.setCell ?_ ?_ _); rotate_left; focus (first | (simp; done) | (simp; omega) | (left; dsimp only; omega))))); done))))
        (first | (go_at_call 53; refine (HBLK.out _).mono ?_; rintro e w6 ⟨rfl, K6⟩; have HK6 := Lib.hid (show Keep [] w5 w6 from by refine Keep.trans (a := w5) ?_ K6; ((repeat (first | (with_reducible exact Keep.refl _ _) | (with_reducible refine Keep.drew ?_) | (with_reducible refine Keep.drewN ?_ _) | (with_reducible refine Keep.alloc ?_ _) | ((with_reducible refine Keep.setCell ?_ ?_ _); rotate_left; focus (first | (simp; done) | (simp; omega) | (left; dsimp only; omega))))); done)); clear K6)))
    have HKW6 := Lib.hid (HK5.out.trans HK6.out); have HA6 := Lib.hid (arn_farA HA5.out HK6.out)
    have HB66 := Lib.hid (HK6.out.get HB65.out (by simp)); have HR6 := Lib.hid (HR5.out.keep HK6.out (fun _ _ => by simp)); have HBC6 := Lib.hid (HK6.out.get HBC5.out (by simp)); have HB96 := Lib.hid (HK6.out.get HB9.out (by simp))
    have c6 := cell_at HB66.out; have cc := cell_at HBC6.out
    clear HB65 HR5 HBC5 HB9 HA5 HK5 D1 D2 D3 D4 HK6
    go_wp2_with fail
    refine (HSTS.out w6 HKW6.out).mono ?_
    rintro e w7 ⟨vh, rfl, hoh, K7⟩
    have hal := allS_len (Lay.mk 1 2 n) bl n
    have hspot := all_spots (n := n) (bl := bl)
    obtain ⟨hs, hhs⟩ : ∃ hs, hs = allS ⟨1, 2, n⟩ bl n := ⟨_, rfl⟩
    rw [← hhs] at hoh hal hspot
    have HHS := Lib.hid hhs
    obtain ⟨ah, caph, rfl, hM1, hM2⟩ := owns_val hoh
    have hvf : ∀ q, (Value.slice ah hs.length caph).ownBlock = some q → z9 < q ∧ q < w7.heap.size := fun q hq => by have h1 := owns_block hoh q hq; have h2 := lt_of_block HB96.out; omega
    have hrh : Rd w7 (.slice ah hs.length caph) hs.length (intsV hs) := Rd.of_owns hoh (by intro u hu; obtain ⟨x, _, rfl⟩ := List.mem_map.1 hu; rfl)
    have hin : ∀ a ∈ hs, 0 ≤ a ∧ a < W.length := fun a ha => by
      obtain ⟨s, hs', rfl⟩ := hspot a ha
      have h1 := spots_in hs'; obtain ⟨_, _, _, _, _, _, h3, _⟩ := mem_spots hs'; have h4 := HLEN.out
      omega
    have hrd := reached_walk W HHW.out.words (by have := HLEN.out; omega) hs hin (by omega) c (by omega) (.slice (some ⟨g0, 0, none⟩) (6 + 33 * n) (6 + 33 * n)) (.slice ah hs.length caph) w7 (HR6.out.keep K7 (fun _ _ => by simp)) hrh
    rw [HLEN.out] at hrd
    have HRD := Lib.hid hrd; have HRH := Lib.hid hrh; have HVF := Lib.hid hvf; have HIN := Lib.hid hin; have HK7 := Lib.hid (HKW6.out.trans K7); have HA7 := Lib.hid (arn_farA HA6.out K7); have HR7 := Lib.hid (HR6.out.keep K7 (fun _ _ => by simp)); have HB97 := Lib.hid (K7.get HB96.out (by simp))
    clear hoh hrh hvf hin hspot hrd hhs K7 HB66 HBC6 HR6 HB96 HA6 HKW6 c6 cc
    go_wp2_with fail
    refine HRD.out.mono ?_
    rintro e w8 ⟨zo, out, rfl, hwant, hzo, hri, K8⟩
    have hTA : TA w w8 b g n W hs out g0 zo z z9 ah caph W := ⟨arn_farA HA7.out K8, by rw [← HLEN.out]; exact (by rw [HLEN.out]; exact (by have h := HR7.out.keep K8 (fun _ _ => by simp); rw [HLEN.out] at h; exact h)), HRH.out.keep K8 (fun _ _ => by simp), fun q hq => by have := HVF.out q hq; omega, fun q hq => Nat.lt_of_lt_of_le (HVF.out q hq).2 K8.size, hwant, K8.get HB97.out (by simp), HK7.out.trans K8⟩
    have hfarz : z9 < zo := by have := lt_of_block HB97.out; omega
    have hP0 : PInv n bl W c W := PInv.start HHW.out
    have HTA := Lib.hid hTA; have HP0 := Lib.hid hP0; have HRI := Lib.hid hri
    clear hwant hzo hri K8 hTA hP0 HRD HRH HK7 HA7 HR7 HB97
    have hn0 : g0 ∉ [b, g] ∧ zo ∉ [b, g] ∧ z9 ∉ [b, g] := by simp; omega
    have hwb : w.heap.size ≤ b ∧ w.heap.size ≤ g := by have := HPH.out; omega
    have HN0 := Lib.hid hn0; have HWB := Lib.hid hwb
    clear hn0 hwb
    go_wp2_with fail
    obtain ⟨J0, hJ0⟩ : ∃ J0, blk W c hs + J0 = hs.length := ⟨hs.length - blk W c hs, by have h : blk W c hs ≤ hs.length := List.countP_le_length; omega⟩
    have HJ0 := Lib.hid hJ0
    clear hJ0
    go_loopg [12] J0 (fun j v12 wr => ∃ (k : Nat) (V : List Int), v12 = .int .i64 k ∧ TA w wr b g n W hs out g0 zo z z9 ah caph V ∧ PInv n bl W c V ∧ k ≤ blk V c hs ∧ Hid (blk V c hs + j = hs.length))
    case atStart => exact ⟨0, W, rfl, HTA.out, HP0.out, Nat.zero_le _, HJ0⟩
    case round =>
      obtain ⟨k, V, rfl, hta, hp, hkb, HJ⟩ := hrel
      have c9 := cell_at hta.lay9
      have hfit : (Lay.mk 1 2 n).fits := ⟨by show (1 : Nat) ≤ 64; omega, by show (2 : Nat) ≤ 8; omega, by show n ≤ 64; omega⟩
      have hps := trace_pass hta.arn (Lay.mk 1 2 n) hfit c hc (stays_heap n hnb.2 bl HB0.out c hc) hp.heap
      have hho := headsOf_all ⟨1, 2, n⟩ bl HB0.out n
      rw [← HHS.out] at hho
      unfold Lay.val at hps
      dsimp only at hps
      rw [hho] at hps
      push_cast at hps
      have hpp := PInv.pass HHW.out (by omega) hs V false (fun a ha => by rw [← HHS.out]; exact ha) hp
      rw [← HHS.out] at hpp
      have hbl : ∀ U, blk U c hs ≤ hs.length := fun U => List.countP_le_length
      have hfold : hs.foldl (visitP c) (V, false) = passS c hs V := rfl
      rw [hfold] at hpp
      obtain ⟨V2, hV2⟩ : ∃ V2, V2 = (passS c hs V).1 := ⟨_, rfl⟩
      obtain ⟨mt, hmt⟩ : ∃ mt, mt = (passS c hs V).2 := ⟨_, rfl⟩
      rw [← hV2, ← hmt] at hpp hps
      obtain ⟨hp2, hp3, hp4, hp5⟩ := hpp
      have HPS := Lib.hid hps; have HTAK := Lib.hid hta; have HP2 := Lib.hid hp2; have HP4 := Lib.hid hp4; have HP5 := Lib.hid hp5; have HKB := Lib.hid hkb; have HBL := Lib.hid (hbl V2)
      have hk5 : k ≤ 1000 := by have := hbl V; omega
      clear hps hta hp hho hV2 hmt hp2 hp3 hp4 hp5 hkb hbl hfold hfit
      go_wp2_with fail
      refine HPS.out.mono ?_
      rintro e w9 ⟨rfl, hA9, hH9, K9⟩
      have hta9 := HTAK.out.next K9 hA9 HN0.out.1 HN0.out.2.1 HN0.out.2.2 HWB.out
      have HTA9 := Lib.hid hta9
      clear hA9 hH9 K9 hta9 HPS c9
      cases mt with
      | true =>
        have h4 := HP4.out (by simp) (by simp)
        have q1 : ¬ (hs.length : Int) < (k : Int) + 1 := by have h1 := HKB.out; have h2 := HBL.out; omega
        have HH4 := Lib.hid h4
        clear h4
        go_wp2_with fail
        go_roundg (hs.length - blk V2 c hs)
        case measure => have h1 := HH4.out; have h2 := HBL.out; have h3 := HJ.out; omega
        case rel => exact ⟨k + 1, V2, by go_num, HTA9.out, HP2.out, by have h1 := HH4.out; have h2 := HKB.out; omega, Lib.hid (by have h2 := HBL.out; omega)⟩
      | false =>
        obtain ⟨hVV, -, hng⟩ := HP5.out (by simp)
        subst hVV
        have HNG := Lib.hid hng
        have hA9 := HTA9.out.arn
        obtain ⟨t9, la9, hA9⟩ := hA9
        have hall := arena_all hA9
        have HALL := Lib.hid hall
        clear hng hA9 hall
        go_wp2_with fail
        refine HALL.out.mono ?_
        rintro e w10 ⟨an, capn, rfl, R10, K10, F10⟩
        have hVl := HP2.out.heap.len
        rw [hVl] at R10
        have hAlen : W.length = 6 + 33 * n := HLEN.out
        have hta10 := HTA9.out.far K10
        have hmk := fun w => make_bool (6 + 33 * n) (by omega) w
        have HTA10 := Lib.hid hta10; have HR10 := Lib.hid (show Rd w10 (.slice an (6 + 33 * n) capn) (6 + 33 * n) (u64s V2) from R10); have HVL := Lib.hid hVl
        rw [hVl]
        have hmk2 : ∀ w, (Instr.makeSlice 95 (.int .i64 (6 + 33 * (n : Int))) (.int .i64 (6 + 33 * (n : Int)))).run Try.prog w = .ok (.slice (some ⟨w.heap.size, 0, none⟩) (6 + 33 * n) (6 + 33 * n)) (w.alloc (.cells (cellsB (List.replicate (6 + 33 * n) false)) 4)) := fun w => by
          have h := hmk w
          push_cast at h
          exact h
        clear R10 K10 F10 hta10 hVl HALL hAlen hmk
        go_wp2_with fail
        obtain ⟨zh, hzh⟩ : ∃ y, y = w10.heap.size := ⟨_, rfl⟩
        simp only [← hzh]
        generalize hw11 : World.alloc _ _ = w11
        have bh : w11.heap[zh]? = some (.cells (cellsB (List.replicate (6 + 33 * n) false)) 4 (0, 0)) := by rw [← hw11]; exact alloc_new _ _ _ hzh
        have K11 : Keep [] w10 w11 := by rw [← hw11]; exact (by repeat (first | (with_reducible exact Keep.refl _ _) | (with_reducible refine Keep.drew ?_) | (with_reducible refine Keep.drewN ?_ _) | (with_reducible refine Keep.alloc ?_ _) | (with_reducible refine Keep.setCell ?_ (by first | (simp; done) | (simp; omega) | (left; dsimp only; omega)) _)))
        have HBH := Lib.hid bh; have HK11 := Lib.hid K11; have HZH := Lib.hid (show w10.heap.size ≤ zh from by omega)
        clear hw11 bh K11 hzh hmk2
        go_loopg [15] hs.length (fun j v15 wr => ∃ (i : Nat) (B : List Bool), i + j = hs.length ∧ v15 = .int .i64 i ∧ wr.heap[zh]? = some (.cells (cellsB B) 4 (0, 0)) ∧ B.length = 6 + 33 * n ∧ Hid (∀ v : Nat, B.getD v false = true ↔ ∃ q, q < i ∧ hs.getD q 0 = (v : Int)) ∧ Keep [zh] w11 wr)
        case atStart => exact ⟨0, _, by omega, rfl, HBH.out, by simp, Lib.hid (fun v => ⟨fun h => by rw [List.getD_eq_getElem?_getD, List.getElem?_replicate] at h; split at h <;> simp at h, fun ⟨q, h, _⟩ => by omega⟩), Keep.refl _ _⟩
        case round =>
          obtain ⟨i, B, hij, rfl, hb, hBl, HBB, hk⟩ := hrel
          by_cases hiM : i < hs.length
          · have i1 : (i : Int) < hs.length := by omega
            have i0 : (0 : Int) ≤ (i : Int) := by omega
            have hta := HTA10.out.put HLEN.out HK11.out hk HZH.out
            obtain ⟨gh, oh, hah, hghl, hchh⟩ := hta.heads.intcell rfl (by omega)
            subst hah
            have hcell := hchh i hiM
            have hmem : hs.getD i 0 ∈ hs := by rw [List.getD_eq_getElem?_getD, List.getElem?_eq_getElem hiM]; exact List.getElem_mem hiM
            have hab := HIN.out _ hmem
            rw [HLEN.out] at hab
            obtain ⟨A, hA⟩ : ∃ A : Nat, hs.getD i 0 = A := ⟨(hs.getD i 0).toNat, by omega⟩
            rw [hA] at hcell hab
            have a1 : (A : Int) < 6 + 33 * (n : Int) := by omega
            have a0 : (0 : Int) ≤ (A : Int) := by omega
            have hAB : A < B.length := by omega
            have chb : wr.cell? ⟨zh, A, none⟩ = some (.bool (B.getD A false)) := by rw [cell_at hb, cellsB_get, List.getD_eq_getElem?_getD, List.getElem?_eq_getElem hAB]; rfl
            have fhb := frozen_at hb
            generalize B.getD A false = ob at *
            have HBQ := Lib.hid hb; have HKQ := Lib.hid hk; have HA := Lib.hid hA
            clear hta hb hk hchh hmem hab hA hghl
            go_wp2_with fail
            generalize hw12 : World.setCell _ _ _ = w12
            have K12 : Keep [zh] wr w12 := by rw [← hw12]; ((repeat (first | (with_reducible exact Keep.refl _ _) | (with_reducible refine Keep.drew ?_) | (with_reducible refine Keep.drewN ?_ _) | (with_reducible refine Keep.alloc ?_ _) | ((with_reducible refine Keep.setCell ?_ ?_ _); rotate_left; focus (first | (simp; done) | (simp; omega) | (left; dsimp only; omega))))); done)
            have b12 : w12.heap[zh]? = some (.cells (cellsB (B.set A true)) 4 (0, 0)) := by rw [← hw12, ← cellsB_set]; exact put_at HBQ.out A _
            have HB12 := Lib.hid b12; have HK12 := Lib.hid (HKQ.out.trans K12)
            clear hw12 K12 b12 chb fhb hcell
            go_roundg (hs.length - (i + 1))
            case measure => omega
            case rel =>
              refine ⟨i + 1, B.set A true, by omega, by go_num, HB12.out, by rw [List.length_set]; exact hBl, Lib.hid (fun v => ?_), HK12.out⟩
              by_cases hvA : v = A
              · subst hvA
                exact ⟨fun _ => ⟨i, by omega, HA.out⟩, fun _ => by rw [List.getD_eq_getElem?_getD, List.getElem?_set_self hAB]; rfl⟩
              · rw [List.getD_eq_getElem?_getD, List.getElem?_set_ne (fun x => hvA x.symm), ← List.getD_eq_getElem?_getD, HBB.out v]
                refine ⟨fun ⟨q, h1, h2⟩ => ⟨q, by omega, h2⟩, fun ⟨q, h1, h2⟩ => ⟨q, ?_, h2⟩⟩
                by_cases hqi : q = i
                · subst hqi
                  rw [HA.out] at h2
                  omega
                · omega
          · obtain rfl : i = hs.length := by omega
            have hhd : ∀ v : Nat, B.getD v false = true ↔ (v : Int) ∈ hs := fun v => by
              rw [HBB.out v]
              refine ⟨fun ⟨q, h1, h2⟩ => ?_, fun h => ?_⟩
              · rw [← h2, List.getD_eq_getElem?_getD, List.getElem?_eq_getElem h1]; exact List.getElem_mem h1
              · obtain ⟨q, h1, h2⟩ := List.getElem_of_mem h
                exact ⟨q, h1, by rw [List.getD_eq_getElem?_getD, List.getElem?_eq_getElem h1]; exact h2⟩
            have hta := HTA10.out.put HLEN.out HK11.out hk HZH.out
            have hr := (HR10.out.keep HK11.out (fun _ _ => by simp)).keep hk (fun q hq => by
              obtain ⟨bb, oo, hao, hlt, -⟩ := HR10.out.some (by rw [u64s_len, HVL.out]; omega)
              rw [hao] at hq
              have h' : bb = q := Option.some.inj hq
              have := HZH.out
              simp; omega)
            have HHD := Lib.hid hhd; have HTAF := Lib.hid hta; have HRF := Lib.hid hr; have HBF := Lib.hid hb
            clear hhd hta hr hb hk HBB HTA10 HR10 HBH HK11
            go_wp2_with fail
            obtain ⟨w20, rfl⟩ : ∃ x : World, x = wr := ⟨_, rfl⟩
            have hSd : ∀ a : Nat, a < 6 + 33 * n → ((B.getD a false && (tellOf (rdz W a) c == 2 || out.getD a false)) = true → Src W c hs a) ∧ ((B.getD a false && (tellOf (rdz W a) c == 2 || out.getD a false)) = false → rdz V2 a = rdz W a) := fun a ha => by
              have hsrc : (B.getD a false && (tellOf (rdz W a) c == 2 || out.getD a false)) = true → Src W c hs a := fun h => by
                simp only [Bool.and_eq_true, Bool.or_eq_true] at h
                rcases h.2 with h1 | h1
                · exact .grey _ ((HHD.out a).1 h.1) (by simpa using h1)
                · exact HRI.out.sound a h1
              refine ⟨hsrc, fun h => ?_⟩
              have hp := HP2.out
              refine hp.same a (fun hS => ?_)
              rw [← HHS.out] at hS
              have hhd : B.getD a false = true := (HHD.out a).2 (by rw [HHS.out]; exact src_head HHW.out (by rw [← HHS.out]; exact hS))
              have hen := HRI.out.ended (fun b hb => (src_in HHW.out.words HIN.out hb).1) hS
              have : (B.getD a false && (tellOf (rdz W a) c == 2 || out.getD a false)) = true := by
                rw [hhd]
                rcases hen with h1 | h1
                · simp [h1.2]
                · have h2 : out.getD a false = true := by simpa using h1
                  rw [h2]; simp
              rw [this] at h
              cases h
            have hbk : ∀ a : Int, Src W c hs a → tellOf (rdz V2 a) c = 3 := fun a hS => by
              rw [HHS.out] at hS
              exact HP2.out.ended HHW.out (fun x hx => HNG.out x (by rw [HHS.out]; exact hx)) hS
            have hld : ∀ a : Nat, Src W c hs a → ∀ k : Nat, 1 ≤ k → (k : Int) ≤ (takeH (rdz V2 a)).refs → a + k < 6 + 33 * n → ∀ v : Nat, rdz V2 ((a + k : Nat) : Int) = v → v ≠ 0 → v < 6 + 33 * n → tellOf (rdz V2 v) c ≠ 1 := fun a hS k h1 h2 h3 v h4 h5 h6 => by
              have h := HP2.out.leads (i := (a : Int)) HHW.out (fun x hx => HNG.out x (by rw [HHS.out]; exact hx)) (by rw [← HHS.out]; exact hS) k ⟨h1, h2⟩ (by rw [HLEN.out]; omega)
              rw [show ((a : Int) + (k : Int)) = ((a + k : Nat) : Int) from by omega, h4] at h
              exact h (by omega) (by rw [HLEN.out]; omega)
            have HSD := Lib.hid hSd; have HBK := Lib.hid hbk; have HLD := Lib.hid hld
            clear hSd hbk hld
            go_loopg [16] (6 + 33 * n) (fun j v16 wr => ∃ a : Nat, a + j = 6 + 33 * n ∧ v16 = .int .i64 a ∧ Keep [] w20 wr)
            case atStart => exact ⟨0, by omega, rfl, Keep.refl _ _⟩
            case round =>
              obtain ⟨a, haj, rfl, hk⟩ := hrel
              by_cases haN : a < 6 + 33 * n
              · have a1 : (a : Int) < 6 + 33 * (n : Int) := by omega
                have a0 : (0 : Int) ≤ (a : Int) := by omega
                obtain ⟨gr, orr, her, -, hcr⟩ := HTAF.out.row.u64cell HLEN.out (by omega)
                have her' : g0 = gr ∧ 0 = orr := by have h := Option.some.inj her; simp only [Addr.mk.injEq] at h; exact ⟨h.1, h.2.1⟩
                obtain ⟨rfl, rfl⟩ := her'
                obtain ⟨gn, on, hen, hgn, hcn⟩ := HRF.out.u64cell HVL.out (by omega)
                subst hen
                have hcw := hk.cell (hcr a haN) (by simp)
                rw [Nat.zero_add] at hcw
                have hcv := hk.cell (hcn a haN) (by simp)
                have hta := fun w => shade_tell (rdz W a) c (HHW.out.words a) w
                have htb := fun w => shade_tell (rdz V2 a) c (HP2.out.heap.words a) w
                have hsd := HSD.out a haN
                have hbkv := fun h => HBK.out a (hsd.1 h)
                have hldv := fun h => HLD.out a (hsd.1 h)
                have hcb : wr.cell? ⟨zh, a, none⟩ = some (.bool (B.getD a false)) := by
                  have haB : a < B.length := by omega
                  rw [cell_at (hk.get HBF.out (by simp)), cellsB_get, List.getD_eq_getElem?_getD, List.getElem?_eq_getElem haB]; rfl
                have hco : wr.cell? ⟨zo, a, none⟩ = some (.bool (out.getD a false)) := by
                  have haO : a < out.length := by rw [HRI.out.len, HLEN.out]; exact haN
                  rw [cell_at (hk.get HTAF.out.want (by simp)), cellsB_get, List.getD_eq_getElem?_getD, List.getElem?_eq_getElem haO]; rfl
                have htk := fun w => word_take (rdz V2 a) (HP2.out.heap.words a) w
                have hrb := refs_bd (rdz V2 a) (HP2.out.heap.words a).1
                obtain ⟨er, her2⟩ : ∃ er : Int, er = if isHd (rdz V2 a) then 0 else 3 := ⟨_, rfl⟩
                rw [← her2] at htk
                generalize B.getD a false = hb at *
                generalize out.getD a false = ob at *
                generalize tellOf (rdz W a) c = ta at *
                generalize htbq : tellOf (rdz V2 a) c = tb at *
                generalize rdz W (a : Int) = xw at *
                generalize hxv : rdz V2 (a : Int) = xv at *
                generalize takeH xv = d at *
                obtain ⟨dk, dc, dg, dm, dow, dr, ds⟩ := d
                unfold Hd.val at htk
                dsimp only at htk hrb hldv
                have HTLA := Lib.hid hta; have HTLB := Lib.hid htb; have HSDA := Lib.hid hsd; have HBKV := Lib.hid hbkv; have HLDV := Lib.hid hldv; have HTK := Lib.hid htk; have HCB := Lib.hid hcb; have HCO := Lib.hid hco; have HCN := Lib.hid hcn; have HKA := Lib.hid hk; have HRB := Lib.hid hrb
                have D0 : Hid (wr.cell? ⟨g0, a, none⟩ = some (.int .u64 xw)) := hcw
                have D1 : Hid (wr.cell? ⟨gn, on + a, none⟩ = some (.int .u64 xv)) := hcv
                clear hta htb hsd hbkv hldv htk hcb hco hcn hcr hk her her2 hcw hcv htbq hxv hrb
                go_wp2_with fail
                (go_region_held3 (fun w' => w'.cell? ⟨g0, a, none⟩ = some (.int .u64 xw) ∧ w'.cell? ⟨gn, on + a, none⟩ = some (.int .u64 xv))
                    (first
                      | (refine ⟨Keep.cell (S := []) (w := wr) ?_ D0.out (by simp), Keep.cell (S := []) (w := wr) ?_ D1.out (by simp)⟩; all_goals (((repeat (first | (with_reducible exact Keep.refl _ _) | (with_reducible refine Keep.drew ?_) | (with_reducible refine Keep.drewN ?_ _) | (with_reducible refine Keep.alloc ?_ _) | ((with_reducible refine Keep.setCell ?_ ?_ _); rotate_left; focus (first | (simp; done) | (simp; omega) | (left; dsimp only; omega))))); done)))
                      | (refine ⟨Keep.cell (S := []) (w := wr) ?_ D0.out (by simp), Keep.cell (S := []) (w := wr) ?_ D1.out (by simp)⟩; all_goals (((repeat (first | (with_reducible exact HK6.out) | (with_reducible refine Keep.drew ?_) | (with_reducible refine Keep.drewN ?_ _) | (with_reducible refine Keep.alloc ?_ _) | ((with_reducible refine Keep.setCell ?_ ?_ _); rotate_left; focus (first | (simp; done) | (simp; omega) | (left; dsimp only; omega))))); done)))
                      | (refine ⟨Keep.cell (S := []) (w := wr) ?_ D0.out (by simp), Keep.cell (S := []) (w := wr) ?_ D1.out (by simp)⟩; all_goals (((repeat (first | (with_reducible exact HK5.out) | (with_reducible refine Keep.drew ?_) | (with_reducible refine Keep.drewN ?_ _) | (with_reducible refine Keep.alloc ?_ _) | ((with_reducible refine Keep.setCell ?_ ?_ _); rotate_left; focus (first | (simp; done) | (simp; omega) | (left; dsimp only; omega))))); done))))
                    (first
                      | (go_at_call 25; (with_reducible refine (HTLA.out _).mono ?_); rintro e w5 ⟨rfl, K5⟩; have HK5 := Lib.hid (show Keep [] wr w5 from by refine Keep.trans (a := wr) ?_ K5; first | (((repeat (first | (with_reducible exact HK6.out) | (with_reducible refine Keep.drew ?_) | (with_reducible refine Keep.drewN ?_ _) | (with_reducible refine Keep.alloc ?_ _) | ((with_reducible refine Keep.setCell ?_ ?_ _); rotate_left; focus (first | (simp; done) | (simp; omega) | (left; dsimp only; omega))))); done)) | (((repeat (first | (with_reducible exact Keep.refl _ _) | (with_reducible refine Keep.drew ?_) | (with_reducible refine Keep.drewN ?_ _) | (with_reducible refine Keep.alloc ?_ _) | ((with_reducible refine Keep.setCell ?_ ?_ _); rotate_left; focus (first | (simp; done) | (simp; omega) | (left; dsimp only; omega))))); done))); clear K5)
                      | (go_at_call 25; (with_reducible refine (HTLB.out _).mono ?_); rintro e w6 ⟨rfl, K6⟩; have HK6 := Lib.hid (show Keep [] wr w6 from by refine Keep.trans (a := wr) ?_ K6; first | (((repeat (first | (with_reducible exact HK5.out) | (with_reducible refine Keep.drew ?_) | (with_reducible refine Keep.drewN ?_ _) | (with_reducible refine Keep.alloc ?_ _) | ((with_reducible refine Keep.setCell ?_ ?_ _); rotate_left; focus (first | (simp; done) | (simp; omega) | (left; dsimp only; omega))))); done)) | (((repeat (first | (with_reducible exact Keep.refl _ _) | (with_reducible refine Keep.drew ?_) | (with_reducible refine Keep.drewN ?_ _) | (with_reducible refine Keep.alloc ?_ _) | ((with_reducible refine Keep.setCell ?_ ?_ _); rotate_left; focus (first | (simp; done) | (simp; omega) | (left; dsimp only; omega))))); done))); clear K6)))
                all_goals (
                  have hcb6 := HK6.out.cell HCB.out (by simp); have hco6 := HK6.out.cell HCO.out (by simp)
                  have d06 := HK6.out.cell D0.out (by simp); have d16 := HK6.out.cell D1.out (by simp)
                  have HKA6 := Lib.hid (HKA.out.trans HK6.out)
                  go_upto_region 26 with (fail)
                  go_cut [19] (fun v19 wx => v19 = .bool (hb && (ta == 2 || ob)) ∧ wx = w6)
                  case first =>
                    cases hb with
                    | false =>
                      go_wp2_with fail
                      go_meet
                      case rel => exact ⟨rfl, rfl⟩
                    | true =>
                      by_cases ht2 : ta = 2
                      · subst ht2
                        go_wp2_with fail
                        go_meet
                        case rel => exact ⟨rfl, rfl⟩
                      · have q2 : (ta == 2) = false := by simp [ht2]
                        go_wp2_with fail
                        go_meet
                        case rel => exact ⟨by simp [ht2], rfl⟩
                  case rest =>
                    obtain ⟨h19, hwx⟩ := hcut
                    subst h19 hwx
                    generalize (hb && (ta == 2 || ob)) = fb at *
                    have E0 : Hid (wc.cell? ⟨g0, a, none⟩ = some (.int .u64 xw)) := d06
                    have E1 : Hid (wc.cell? ⟨gn, on + a, none⟩ = some (.int .u64 xv)) := d16
                    cases fb with
                    | false =>
                      have hxx := HSDA.out.2 rfl
                      subst hxx
                      have qx : (xv != xv) = false := by simp
                      clear hcb6 hco6 d06 d16
                      go_wp2_with fail
                      have e0 := E0.out; have e1 := E1.out
                      go_quiet (fail)
                      all_goals (
                        generalize hwd : World.drewN _ _ = wd
                        have Kd : Keep [] wc wd := by rw [← hwd]; ((repeat (first | (with_reducible exact Keep.refl _ _) | (with_reducible refine Keep.drew ?_) | (with_reducible refine Keep.drewN ?_ _) | (with_reducible refine Keep.alloc ?_ _) | ((with_reducible refine Keep.setCell ?_ ?_ _); rotate_left; focus (first | (simp; done) | (simp; omega) | (left; dsimp only; omega))))); done)
                        have e1d := Kd.cell E1.out (by simp)
                        have HKD := Lib.hid (HKA6.out.trans Kd)
                        clear hwd Kd
                        go_wp2_with fail
                        refine (HTK.out wd).mono ?_
                        rintro e w7 ⟨rfl, K7⟩
                        have HK7 := Lib.hid (HKD.out.trans K7)
                        clear K7 e1d
                        go_wp2_with fail
                        obtain ⟨zx, hzx⟩ : ∃ y, y = w7.heap.size := ⟨_, rfl⟩
                        simp only [← hzx]
                        generalize hw8 : World.alloc _ _ = w8
                        have bx : w8.heap[zx]? = some (.cells #[.int .u8 dk, .int .u8 dc, .bool dg, .bool dm, .int .u8 dow, .int .u8 dr, .int .u8 ds] 100 (0, 0)) := by rw [← hw8]; exact alloc_new _ _ _ hzx
                        have HK8 : Hid (Keep [] w20 w8) := by rw [Hid, ← hw8]; refine Keep.alloc ?_ _; exact HK7.out
                        have HBX := Lib.hid bx
                        clear hw8 bx hzx
                        go_loopg [22] 0 (fun j v22 wq => v22 = .int .i64 1 ∧ Keep [] w20 wq)
                        case atStart => exact ⟨rfl, HK8.out⟩
                        case round =>
                          obtain ⟨rfl, hkq⟩ := hrel
                          have HKQ := Lib.hid hkq
                          clear hkq
                          go_wp2_with fail
                          go_roundg (6 + 33 * n - (a + 1))
                          case measure => omega
                          case rel => exact ⟨a + 1, by omega, by go_num, HKQ.out⟩)
                    | true =>
                      have htb3 := HBKV.out rfl
                      subst htb3
                      clear hcb6 hco6 d06 d16
                      go_wp2_with fail
                      go_quiet (fail)
                      all_goals (
                        generalize hwd : World.drewN _ _ = wd
                        have Kd : Keep [] wc wd := by rw [← hwd]; ((repeat (first | (with_reducible exact Keep.refl _ _) | (with_reducible refine Keep.drew ?_) | (with_reducible refine Keep.drewN ?_ _) | (with_reducible refine Keep.alloc ?_ _) | ((with_reducible refine Keep.setCell ?_ ?_ _); rotate_left; focus (first | (simp; done) | (simp; omega) | (left; dsimp only; omega))))); done)
                        have e1d := Kd.cell E1.out (by simp)
                        have HKD := Lib.hid (HKA6.out.trans Kd)
                        clear hwd Kd
                        go_wp2_with fail
                        refine (HTK.out wd).mono ?_
                        rintro e w7 ⟨rfl, K7⟩
                        have HK7 := Lib.hid (HKD.out.trans K7)
                        clear K7 e1d
                        go_wp2_with fail
                        obtain ⟨zx, hzx⟩ : ∃ y, y = w7.heap.size := ⟨_, rfl⟩
                        simp only [← hzx]
                        generalize hw8 : World.alloc _ _ = w8
                        have bx : w8.heap[zx]? = some (.cells #[.int .u8 dk, .int .u8 dc, .bool dg, .bool dm, .int .u8 dow, .int .u8 dr, .int .u8 ds] 100 (0, 0)) := by rw [← hw8]; exact alloc_new _ _ _ hzx
                        have HK8 : Hid (Keep [] w20 w8) := by rw [Hid, ← hw8]; refine Keep.alloc ?_ _; exact HK7.out
                        have HBX := Lib.hid bx
                        clear hw8 bx hzx
                        obtain ⟨rn, rfl⟩ : ∃ rn : Nat, dr = rn := ⟨dr.toNat, by have := HRB.out; omega⟩
                        have hrn : rn ≤ 127 := by have := HRB.out; omega
                        have hmw : IntKind.i64.wrap (rn : Int) = rn := by rw [IntKind.wrap_i64]; omega
                        go_loopg [22] rn (fun j v22 wq => ∃ k : Nat, k + j = rn + 1 ∧ 1 ≤ k ∧ v22 = .int .i64 k ∧ Keep [] w20 wq ∧ wq.heap[zx]? = some (.cells #[.int .u8 dk, .int .u8 dc, .bool dg, .bool dm, .int .u8 dow, .int .u8 rn, .int .u8 ds] 100 (0, 0)))
                        case atStart => exact ⟨1, by omega, by omega, rfl, HK8.out, HBX.out⟩
                        case round =>
                          obtain ⟨k2, hkj, hk1, rfl, hkq, hbx⟩ := hrel
                          have cx := cell_at hbx
                          have HKQ := Lib.hid hkq; have HBXQ := Lib.hid hbx
                          clear hkq hbx
                          by_cases hkr : k2 ≤ rn
                          · have k1 : (k2 : Int) ≤ rn := by omega
                            have hwa : IntKind.i64.wrap ((a : Int) + k2) = ((a + k2 : Nat) : Int) := by rw [IntKind.wrap_i64]; omega
                            by_cases hkN : a + k2 < 6 + 33 * n
                            · have k3 : ((a + k2 : Nat) : Int) < 6 + 33 * (n : Int) := by omega
                              have k4 : (0 : Int) ≤ ((a + k2 : Nat) : Int) := by omega
                              have hcv := HKQ.out.cell (HCN.out (a + k2) hkN) (by simp)
                              have hvb := HP2.out.heap.words ((a + k2 : Nat) : Int)
                              obtain ⟨v, hv⟩ : ∃ v : Nat, rdz V2 ((a + k2 : Nat) : Int) = v := ⟨(rdz V2 ((a + k2 : Nat) : Int)).toNat, by omega⟩
                              have hldv := HLDV.out (by simp) k2 hk1 (by omega) hkN v hv
                              rw [hv] at hcv hvb
                              have HLDX := Lib.hid hldv
                              have hNw : IntKind.u64.wrap (6 + 33 * (n : Int)) = 6 + 33 * (n : Int) := by rw [IntKind.wrap_u64]; omega
                              clear hv hldv
                              generalize a + k2 = Ap at *
                              by_cases hv0 : v = 0
                              · subst hv0
                                go_wp2_with fail
                                go_roundg (rn - k2)
                                case measure => omega
                                case rel => exact ⟨k2 + 1, by omega, by omega, by go_num, HKQ.out, HBXQ.out⟩
                              have v1 : ((v : Int) != 0) = true := by simp; omega
                              have v1' : ((v : Int) == 0) = false := by simp; omega
                              by_cases hvN : v < 6 + 33 * n
                              · have v2 : decide ((v : Int) < 6 + 33 * (n : Int)) = true := by simp; omega
                                have v3 : (v : Int) < 6 + 33 * (n : Int) := by omega
                                have v4 : (0 : Int) ≤ (v : Int) := by omega
                                have hvB : v < B.length := by omega
                                have hcb : wr.cell? ⟨zh, v, none⟩ = some (.bool (B.getD v false)) := by
                                  rw [cell_at (HKQ.out.get HBF.out (by simp)), cellsB_get, List.getD_eq_getElem?_getD, List.getElem?_eq_getElem hvB]; rfl
                                cases hbb : B.getD v false with
                                | false =>
                                  rw [hbb] at hcb
                                  clear hbb
                                  go_wp2_with fail
                                  go_roundg (rn - k2)
                                  case measure => omega
                                  case rel => exact ⟨k2 + 1, by omega, by omega, by go_num, HKQ.out, HBXQ.out⟩
                                | true =>
                                  rw [hbb] at hcb
                                  have hcy := HKQ.out.cell (HCN.out v hvN) (by simp)
                                  have htl := fun w => shade_tell (rdz V2 v) c (HP2.out.heap.words v) w
                                  obtain ⟨tt, hteq⟩ : ∃ tt, tt = tellOf (rdz V2 v) c := ⟨_, rfl⟩
                                  have htn := HLDX.out hv0 hvN
                                  rw [← hteq] at htl htn
                                  generalize rdz V2 (v : Int) = yv at hcy htl
                                  have q1 : (tt == 1) = false := by simp [htn]
                                  have HTLV := Lib.hid htl
                                  clear hbb hteq htl htn
                                  go_wp2_with fail
                                  refine (HTLV.out wr).mono ?_
                                  rintro e w9 ⟨rfl, K9⟩
                                  have HK9 := Lib.hid (HKQ.out.trans K9); have HBX9 := Lib.hid (K9.get HBXQ.out (by simp))
                                  clear K9 hcb hcy hcv cx
                                  go_wp2_with fail
                                  go_roundg (rn - k2)
                                  case measure => omega
                                  case rel => exact ⟨k2 + 1, by omega, by omega, by go_num, HK9.out, HBX9.out⟩
                              · have v2 : decide ((v : Int) < 6 + 33 * (n : Int)) = false := by simp; omega
                                go_wp2_with fail
                                go_roundg (rn - k2)
                                case measure => omega
                                case rel => exact ⟨k2 + 1, by omega, by omega, by go_num, HKQ.out, HBXQ.out⟩
                            · have k3 : decide (((a + k2 : Nat) : Int) < 6 + 33 * (n : Int)) = false := by simp; omega
                              have k3' : ¬ ((a + k2 : Nat) : Int) < 6 + 33 * (n : Int) := by omega
                              go_wp2_with fail
                              go_roundg (6 + 33 * n - (a + 1))
                              case measure => omega
                              case rel => exact ⟨a + 1, by omega, by go_num, HKQ.out⟩
                          · have k1 : ¬ (k2 : Int) ≤ rn := by omega
                            go_wp2_with fail
                            go_roundg (6 + 33 * n - (a + 1))
                            case measure => omega
                            case rel => exact ⟨a + 1, by omega, by go_num, HKQ.out⟩))
              · obtain rfl : a = 6 + 33 * n := by omega
                go_wp2_with fail
                refine (law21_wakes _).mono ?_
                rintro e w21 ⟨rfl, K21⟩
                go_wp2_with fail
                exact HLATE.out _ _ (HTAF.out.keep.trans hk) K21
end Go.Proofs.Ytnadiddaeolanaa
