/- The contracts of package give: Waiting. -/
import Derived.Test.YtnadiddaeolanaaGive3
namespace Go.Proofs.Ytnadiddaeolanaa
open Go.RowKit
set_option linter.unusedVariables false
set_option linter.unusedSimpArgs false

/-- One block that waits is given back. -/
def waitStep (l : Lay) (f : Int → Bool) (W : List Int) (i : Nat) : List Int :=
  let e := entryOf W l i
  if (e.k = 4 ∨ e.k = 5) ∧ f e.o = true then backW W l i e.blocks else W
def waitW (l : Lay) (f : Int → Bool) (W : List Int) (n : Nat) : List Int := (List.range n).foldl (waitStep l f) W
theorem waitW_succ (l : Lay) (f : Int → Bool) (W : List Int) (n : Nat) : waitW l f W (n + 1) = waitStep l f (waitW l f W n) n := by
  simp [waitW, List.range_succ]
theorem waitStep_len (l : Lay) (f : Int → Bool) (W : List Int) (i : Nat) : (waitStep l f W i).length = W.length := by
  unfold waitStep; dsimp only; split
  · exact backW_len _ _ _ _
  · rfl
theorem waitW_len (l : Lay) (f : Int → Bool) (W : List Int) (n : Nat) : (waitW l f W n).length = W.length := by
  induction n with
  | zero => rfl
  | succ n ih => rw [waitW_succ, waitStep_len, ih]
theorem waitW_words {W : List Int} (hW : Words W) (l : Lay) (f : Int → Bool) (n : Nat) : Words (waitW l f W n) := by
  induction n with
  | zero => exact hW
  | succ n ih =>
    rw [waitW_succ]
    unfold waitStep; dsimp only; split
    · exact backW_words ih _ _ _
    · exact ih
theorem entryOf_u8 (W : List Int) (l : Lay) (i : Int) : (entryOf W l i).u8 := by
  unfold entryOf; split
  · unfold En.u8 En.zero; decide
  · exact takeE_u8 _

set_option maxRecDepth 100000 in
set_option maxHeartbeats 4000000 in
/-- Waiting; the function asked is F with cap, and says f. -/
theorem give_waiting {w : World} {b g : Nat} {W : List Int} {t la : Int} (h : Arn w b g W t la) (hW : Words W) (l : Lay) (hl : l.fits) (hfit : l.base + l.b ≤ W.length)
    (F : FuncId) (hF : ∀ args w, (callFunc F args).run Try.prog w = .ok (.enter F args) w) (cap : Array Value) (f : Int → Bool)
    (hf : ∀ (o : Int) w2, 0 ≤ o ∧ o ≤ 255 → Keep [b, g] w w2 → Calls Try.prog F (#[.int .u8 o] ++ cap) w2 fun e w3 => e = .returned (.bool (f o)) ∧ Keep [] w2 w3) :
    Calls Try.prog 40 #[.iface 25 (.pointer (some ⟨b, 0, none⟩)), l.val, .func (.func F) #[] cap] w fun e w' => e = .returned (.tuple #[]) ∧ (∃ t' la', Arn w' b g (waitW l f W l.b) t' la') ∧ Keep [b, g] w w' := by
  refine calls_abs fun R hR => ?_
  have mixed : Try.prog.follows .mixedOrders = true := by kernel_rfl
  have hbl := fun w => layout_blocks l w
  have hval : l.val = .agg #[.int .i64 l.t, .int .i64 l.g, .int .i64 l.b] := rfl
  have hent := fun (w : World) (W : List Int) (t la : Int) (h : Arn w b g W t la) (hW : Words W) (i : Int) => give_entry h hW l hl i
  have hbk := fun (w : World) (W : List Int) (t la : Int) (h : Arn w b g W t la) (hW : Words W) (hfit : l.base + l.b ≤ W.length) (k r : Int) => give_back h hW l hl hfit k r
  rw [hval] at hbl ⊢
  simp only [hval] at hent hbk
  have HBL := Lib.hid hbl; have HENT := Lib.hid hent; have HBK := Lib.hid hbk; have H := Lib.hid h; have HFIT := Lib.hid hfit; have HFN := Lib.hid hf; have HWW := Lib.hid hW
  have lb := lt_of_block h.head; have lg := lt_of_block h.row
  have hb64 := hl.2.2
  clear hbl hval hent hbk h hfit hl hf hW
  go_enter Try.func40, Try.ntmps40
  go_wp2_with fail
  obtain ⟨z, hz⟩ : ∃ z, z = w.heap.size := ⟨_, rfl⟩
  simp only [← hz] at lb lg ⊢
  generalize hw1 : World.alloc _ _ = w1
  have b1 : w1.heap[z]? = some (.cells #[.int .i64 l.t, .int .i64 l.g, .int .i64 l.b] 53 (0, 0)) := by rw [← hw1, hz]; exact alloc_new _ _ _ rfl
  have K1 : Keep [] w w1 := by rw [← hw1]; exact (by repeat (first | (with_reducible exact Keep.refl _ _) | (with_reducible refine Keep.drew ?_) | (with_reducible refine Keep.drewN ?_ _) | (with_reducible refine Keep.alloc ?_ _) | (with_reducible refine Keep.setCell ?_ (by first | (simp; done) | (simp; omega) | (left; dsimp only; omega)) _)))
  clear hw1 hz
  refine (HBL.out w1).mono ?_
  rintro e w2 ⟨rfl, K2⟩
  have b2 := K2.get b1 (by simp)
  have HK2 := Lib.hid (K1.trans K2)
  have HA2 := Lib.hid (H.out.keep HK2.out (by simp) (by simp))
  have HB2 := Lib.hid b2
  clear b1 b2 K1 K2
  go_wp2_with fail
  go_loopg [10] l.b (fun j iv wr => ∃ i : Nat, i + j = l.b ∧ iv = .int .i64 i ∧ (∃ t' la', Arn wr b g (waitW l f W i) t' la') ∧ Keep [b, g] w2 wr)
  case atStart => exact ⟨0, by omega, rfl, ⟨_, _, HA2.out⟩, Keep.refl _ _⟩
  case round =>
    obtain ⟨i, hi, rfl, ⟨t', la', hA⟩, hkr⟩ := hrel
    have hbz : z ≠ b ∧ z ≠ g := by omega
    have hb1 := hkr.get HB2.out (by simp; omega)
    have c1 := cell_at hb1
    have HA := Lib.hid hA; have HKR := Lib.hid hkr; have HB1 := Lib.hid hb1
    have lz := lt_of_block hb1
    have hww := waitW_words HWW.out l f i
    have hwl := waitW_len l f W i
    have hsucc := waitW_succ l f W i
    have HWI := Lib.hid hww; have HWL := Lib.hid hwl; have HSU := Lib.hid hsucc
    clear hA hkr hb1 hww hwl hsucc
    generalize hV : waitW l f W i = V at *
    have HV := Lib.hid hV
    clear hV
    by_cases hib : i < l.b
    · have i1 : (i : Int) < (l.b : Int) := by omega
      go_wp2_with fail
      refine (HENT.out _ _ _ _ HA.out HWI.out i).mono ?_
      rintro e w3 ⟨rfl, ⟨t3, la3, A3⟩, K3⟩
      have HA3 := Lib.hid A3; have HK3 := Lib.hid (HKR.out.trans K3)
      have hb3 := K3.get HB1.out (by simp; omega)
      have c3 := cell_at hb3
      have l3 := lt_of_block hb3
      have HB3 := Lib.hid hb3
      clear A3 K3 c1 hb3
      have hu := entryOf_u8 V l i
      have hst : waitStep l f V i = if ((entryOf V l i).k = 4 ∨ (entryOf V l i).k = 5) ∧ f (entryOf V l i).o = true then backW V l i (entryOf V l i).blocks else V := rfl
      have HST := Lib.hid hst
      clear hst
      unfold En.val
      generalize entryOf V l i = d at *
      obtain ⟨k, c, r, o⟩ := d
      have hbc := fun w => table_blocks ⟨k, c, r, o⟩ hu w
      obtain ⟨-, -, -, u7, u8⟩ := hu
      dsimp only at u7 u8
      unfold En.val at hbc
      dsimp only at hbc HST ⊢
      have HBC := Lib.hid hbc
      clear hbc
      have hkeep : ∀ w', Keep [b, g] w2 w' → (∃ t' la', Arn w' b g V t' la') → (k ≠ 4 ∧ k ≠ 5 ∨ f o = false) → Keep [b, g] w2 w' ∧ ∃ t' la', Arn w' b g (waitW l f W (i + 1)) t' la' := fun w' K ⟨t', la', A⟩ hn => ⟨K, t', la', by
        rw [HSU.out, HST.out, if_neg]
        · exact A
        · rintro ⟨h1, h2⟩
          rcases hn with hn | hn
          · omega
          · rw [hn] at h2; cases h2⟩
      have HKP := Lib.hid hkeep
      clear hkeep
      by_cases k4 : k = 4
      · subst k4
        go_wp2_with fail
        obtain ⟨y, hy⟩ : ∃ y, y = w3.heap.size := ⟨_, rfl⟩
        have HY := Lib.hid hy
        simp only [← hy]
        generalize hw4 : World.alloc w3 _ = w4
        have b4 : w4.heap[y]? = some (.cells #[.int .u8 4, .int .u8 c, .int .u8 r, .int .u8 o] 74 (0, 0)) := by rw [← hw4]; exact alloc_new _ _ _ hy
        have K4 : Keep [] w3 w4 := by rw [← hw4]; exact (by repeat (first | (with_reducible exact Keep.refl _ _) | (with_reducible refine Keep.drew ?_) | (with_reducible refine Keep.drewN ?_ _) | (with_reducible refine Keep.alloc ?_ _) | (with_reducible refine Keep.setCell ?_ (by first | (simp; done) | (simp; omega) | (left; dsimp only; omega)) _)))
        have hyz : z < y := by omega
        have hyb : y ≠ b ∧ y ≠ g := by have := lt_of_block HA3.out.head; have := lt_of_block HA3.out.row; omega
        have HB4L := Lib.hid (K4.get HB3.out (by simp)); have HA4 := Lib.hid (HA3.out.keep K4 (by simp) (by simp)); have HK4 := Lib.hid (HK3.out.trans (K4.mono (by simp)))
        have HK4W : Hid (Keep [b, g] w w4) := (HK2.out.mono (by simp)).trans HK4.out
        have HB4 := Lib.hid b4
        clear hw4 K4 b4 hy
        refine (HFN.out o _ ⟨u7, u8⟩ HK4W.out).mono ?_
        rintro e w5 ⟨rfl, K5⟩
        have hb5 := K5.get HB4.out (by simp); have hl5 := K5.get HB4L.out (by simp)
        have c5 := cell_at hb5; have d5 := cell_at hl5
        have D0 : Hid (w5.cell? ⟨z, 0, none⟩ = some (.int .i64 l.t)) := by rw [Hid, cell_at hl5]; rfl
        have D1 : Hid (w5.cell? ⟨z, 1, none⟩ = some (.int .i64 l.g)) := by rw [Hid, cell_at hl5]; rfl
        have D2 : Hid (w5.cell? ⟨z, 2, none⟩ = some (.int .i64 l.b)) := by rw [Hid, cell_at hl5]; rfl
        have E0 : Hid (w5.cell? ⟨y, 0, none⟩ = some (.int .u8 4)) := by rw [Hid, cell_at hb5]; rfl
        have E1 : Hid (w5.cell? ⟨y, 1, none⟩ = some (.int .u8 c)) := by rw [Hid, cell_at hb5]; rfl
        have E2 : Hid (w5.cell? ⟨y, 2, none⟩ = some (.int .u8 r)) := by rw [Hid, cell_at hb5]; rfl
        have E3 : Hid (w5.cell? ⟨y, 3, none⟩ = some (.int .u8 o)) := by rw [Hid, cell_at hb5]; rfl
        have HA5 := Lib.hid (HA4.out.keep K5 (by simp) (by simp)); have HK5 := Lib.hid (HK4.out.trans (K5.mono (by simp)))
        have l5 := lt_of_block hb5
        clear K5 hb5 hl5
        cases hfo : f o with
        | false =>
          have HFO := Lib.hid hfo
          clear hfo
          go_wp2_with fail
          go_roundg (l.b - (i + 1))
          case measure => omega
          case rel =>
            obtain ⟨k1, k2⟩ := HKP.out _ HK5.out ⟨_, _, HA5.out⟩ (.inr HFO.out)
            exact ⟨i + 1, by omega, by go_num, k2, k1⟩
        | true =>
          have HFO := Lib.hid hfo
          clear hfo
          go_wp2_with fail
          first
          | (go_region_held3 (fun w' => w'.cell? ⟨z, 0, none⟩ = some (.int .i64 l.t) ∧ w'.cell? ⟨z, 1, none⟩ = some (.int .i64 l.g) ∧ w'.cell? ⟨z, 2, none⟩ = some (.int .i64 l.b) ∧ w'.cell? ⟨y, 0, none⟩ = some (.int .u8 4) ∧ w'.cell? ⟨y, 1, none⟩ = some (.int .u8 c) ∧ w'.cell? ⟨y, 2, none⟩ = some (.int .u8 r) ∧ w'.cell? ⟨y, 3, none⟩ = some (.int .u8 o))
              (first
                | (refine ⟨Keep.cell (S := []) (w := w5) ?_ D0.out (by simp), Keep.cell (S := []) (w := w5) ?_ D1.out (by simp), Keep.cell (S := []) (w := w5) ?_ D2.out (by simp), Keep.cell (S := []) (w := w5) ?_ E0.out (by simp), Keep.cell (S := []) (w := w5) ?_ E1.out (by simp), Keep.cell (S := []) (w := w5) ?_ E2.out (by simp), Keep.cell (S := []) (w := w5) ?_ E3.out (by simp)⟩; all_goals (((repeat (first | (with_reducible exact Keep.refl _ _) | (with_reducible refine Keep.drew ?_) | (with_reducible refine Keep.drewN ?_ _) | (with_reducible refine Keep.alloc ?_ _) | ((with_reducible refine Keep.setCell ?_ ?_ _); rotate_left; focus (first | (simp; done) | (simp; omega) | (left; dsimp only; omega))))); done)))
                | (refine ⟨Keep.cell (S := []) (w := w5) ?_ D0.out (by simp), Keep.cell (S := []) (w := w5) ?_ D1.out (by simp), Keep.cell (S := []) (w := w5) ?_ D2.out (by simp), Keep.cell (S := []) (w := w5) ?_ E0.out (by simp), Keep.cell (S := []) (w := w5) ?_ E1.out (by simp), Keep.cell (S := []) (w := w5) ?_ E2.out (by simp), Keep.cell (S := []) (w := w5) ?_ E3.out (by simp)⟩; all_goals (((repeat (first | (with_reducible exact HK6.out) | (with_reducible refine Keep.drew ?_) | (with_reducible refine Keep.drewN ?_ _) | (with_reducible refine Keep.alloc ?_ _) | ((with_reducible refine Keep.setCell ?_ ?_ _); rotate_left; focus (first | (simp; done) | (simp; omega) | (left; dsimp only; omega))))); done)))
                | (refine ⟨Keep.cell (S := [b, g]) (w := w5) ?_ D0.out (by simp; omega), Keep.cell (S := [b, g]) (w := w5) ?_ D1.out (by simp; omega), Keep.cell (S := [b, g]) (w := w5) ?_ D2.out (by simp; omega), Keep.cell (S := [b, g]) (w := w5) ?_ E0.out (by simp; omega), Keep.cell (S := [b, g]) (w := w5) ?_ E1.out (by simp; omega), Keep.cell (S := [b, g]) (w := w5) ?_ E2.out (by simp; omega), Keep.cell (S := [b, g]) (w := w5) ?_ E3.out (by simp; omega)⟩; all_goals (((repeat (first | (with_reducible exact HK7.out) | (with_reducible refine Keep.drew ?_) | (with_reducible refine Keep.drewN ?_ _) | (with_reducible refine Keep.alloc ?_ _) | ((with_reducible refine Keep.setCell ?_ ?_ _); rotate_left; focus (first | (simp; done) | (simp; omega) | (left; dsimp only; omega))))); done))))
              (first
                | (go_at_call 97; refine (HBC.out _).mono ?_; rintro e w6 ⟨rfl, K6⟩; have HK6 := Lib.hid (show Keep [] w5 w6 from by refine Keep.trans (a := w5) ?_ K6; ((repeat (first | (with_reducible exact Keep.refl _ _) | (with_reducible refine Keep.drew ?_) | (with_reducible refine Keep.drewN ?_ _) | (with_reducible refine Keep.alloc ?_ _) | ((with_reducible refine Keep.setCell ?_ ?_ _); rotate_left; focus (first | (simp; done) | (simp; omega) | (left; dsimp only; omega))))); done)); clear K6)
                | (go_at_call 38; refine (HBK.out _ _ _ _ (HA5.out.keep (S := []) (by first | (((repeat (first | (with_reducible exact HK6.out) | (with_reducible refine Keep.drew ?_) | (with_reducible refine Keep.drewN ?_ _) | (with_reducible refine Keep.alloc ?_ _) | ((with_reducible refine Keep.setCell ?_ ?_ _); rotate_left; focus (first | (simp; done) | (simp; omega) | (left; dsimp only; omega))))); done)) | (((repeat (first | (with_reducible exact Keep.refl _ _) | (with_reducible refine Keep.drew ?_) | (with_reducible refine Keep.drewN ?_ _) | (with_reducible refine Keep.alloc ?_ _) | ((with_reducible refine Keep.setCell ?_ ?_ _); rotate_left; focus (first | (simp; done) | (simp; omega) | (left; dsimp only; omega))))); done))) (by simp) (by simp)) HWI.out (by rw [HWL.out]; exact HFIT.out) i _).mono ?_; rintro e w7 ⟨rfl, ⟨t7, la7, A7, -⟩, K7⟩; have HA7 := Lib.hid A7; have HK7 := Lib.hid (show Keep [b, g] w5 w7 from by refine Keep.trans (a := w5) ?_ K7; ((repeat (first | (with_reducible exact HK6.out.mono (by simp)) | (with_reducible refine Keep.drew ?_) | (with_reducible refine Keep.drewN ?_ _) | (with_reducible refine Keep.alloc ?_ _) | ((with_reducible refine Keep.setCell ?_ ?_ _); rotate_left; focus (first | (simp; done) | (simp; omega) | (left; dsimp only; omega))))); done)); clear A7 K7)))
          | fail
          all_goals (
            go_wp2_with fail
            go_roundg (l.b - (i + 1))
            case measure => omega
            case rel =>
              refine ⟨i + 1, by omega, by go_num, ⟨t7, la7, ?_⟩, HK5.out.trans (by ((repeat (first | (with_reducible exact HK7.out) | (with_reducible refine Keep.drew ?_) | (with_reducible refine Keep.drewN ?_ _) | (with_reducible refine Keep.alloc ?_ _) | ((with_reducible refine Keep.setCell ?_ ?_ _); rotate_left; focus (first | (simp; done) | (simp; omega) | (left; dsimp only; omega))))); done))⟩
              rw [HSU.out, HST.out, if_pos ⟨by simp, HFO.out⟩]
              exact HA7.out.keep (S := []) (by ((repeat (first | (with_reducible exact Keep.refl _ _) | (with_reducible refine Keep.drew ?_) | (with_reducible refine Keep.drewN ?_ _) | (with_reducible refine Keep.alloc ?_ _) | ((with_reducible refine Keep.setCell ?_ ?_ _); rotate_left; focus (first | (simp; done) | (simp; omega) | (left; dsimp only; omega))))); done)) (by simp) (by simp))
      have j4 : (k == 4) = false := by simp [k4]
      by_cases k5 : k = 5
      · subst k5
        go_wp2_with fail
        obtain ⟨y, hy⟩ : ∃ y, y = w3.heap.size := ⟨_, rfl⟩
        have HY := Lib.hid hy
        simp only [← hy]
        generalize hw4 : World.alloc w3 _ = w4
        have b4 : w4.heap[y]? = some (.cells #[.int .u8 5, .int .u8 c, .int .u8 r, .int .u8 o] 74 (0, 0)) := by rw [← hw4]; exact alloc_new _ _ _ hy
        have K4 : Keep [] w3 w4 := by rw [← hw4]; exact (by repeat (first | (with_reducible exact Keep.refl _ _) | (with_reducible refine Keep.drew ?_) | (with_reducible refine Keep.drewN ?_ _) | (with_reducible refine Keep.alloc ?_ _) | (with_reducible refine Keep.setCell ?_ (by first | (simp; done) | (simp; omega) | (left; dsimp only; omega)) _)))
        have hyz : z < y := by omega
        have hyb : y ≠ b ∧ y ≠ g := by have := lt_of_block HA3.out.head; have := lt_of_block HA3.out.row; omega
        have HB4L := Lib.hid (K4.get HB3.out (by simp)); have HA4 := Lib.hid (HA3.out.keep K4 (by simp) (by simp)); have HK4 := Lib.hid (HK3.out.trans (K4.mono (by simp)))
        have HK4W : Hid (Keep [b, g] w w4) := (HK2.out.mono (by simp)).trans HK4.out
        have HB4 := Lib.hid b4
        clear hw4 K4 b4 hy
        refine (HFN.out o _ ⟨u7, u8⟩ HK4W.out).mono ?_
        rintro e w5 ⟨rfl, K5⟩
        have hb5 := K5.get HB4.out (by simp); have hl5 := K5.get HB4L.out (by simp)
        have c5 := cell_at hb5; have d5 := cell_at hl5
        have D0 : Hid (w5.cell? ⟨z, 0, none⟩ = some (.int .i64 l.t)) := by rw [Hid, cell_at hl5]; rfl
        have D1 : Hid (w5.cell? ⟨z, 1, none⟩ = some (.int .i64 l.g)) := by rw [Hid, cell_at hl5]; rfl
        have D2 : Hid (w5.cell? ⟨z, 2, none⟩ = some (.int .i64 l.b)) := by rw [Hid, cell_at hl5]; rfl
        have E0 : Hid (w5.cell? ⟨y, 0, none⟩ = some (.int .u8 5)) := by rw [Hid, cell_at hb5]; rfl
        have E1 : Hid (w5.cell? ⟨y, 1, none⟩ = some (.int .u8 c)) := by rw [Hid, cell_at hb5]; rfl
        have E2 : Hid (w5.cell? ⟨y, 2, none⟩ = some (.int .u8 r)) := by rw [Hid, cell_at hb5]; rfl
        have E3 : Hid (w5.cell? ⟨y, 3, none⟩ = some (.int .u8 o)) := by rw [Hid, cell_at hb5]; rfl
        have HA5 := Lib.hid (HA4.out.keep K5 (by simp) (by simp)); have HK5 := Lib.hid (HK4.out.trans (K5.mono (by simp)))
        have l5 := lt_of_block hb5
        clear K5 hb5 hl5
        cases hfo : f o with
        | false =>
          have HFO := Lib.hid hfo
          clear hfo
          go_wp2_with fail
          go_roundg (l.b - (i + 1))
          case measure => omega
          case rel =>
            obtain ⟨k1, k2⟩ := HKP.out _ HK5.out ⟨_, _, HA5.out⟩ (.inr HFO.out)
            exact ⟨i + 1, by omega, by go_num, k2, k1⟩
        | true =>
          have HFO := Lib.hid hfo
          clear hfo
          go_wp2_with fail
          first
          | (go_region_held3 (fun w' => w'.cell? ⟨z, 0, none⟩ = some (.int .i64 l.t) ∧ w'.cell? ⟨z, 1, none⟩ = some (.int .i64 l.g) ∧ w'.cell? ⟨z, 2, none⟩ = some (.int .i64 l.b) ∧ w'.cell? ⟨y, 0, none⟩ = some (.int .u8 5) ∧ w'.cell? ⟨y, 1, none⟩ = some (.int .u8 c) ∧ w'.cell? ⟨y, 2, none⟩ = some (.int .u8 r) ∧ w'.cell? ⟨y, 3, none⟩ = some (.int .u8 o))
              (first
                | (refine ⟨Keep.cell (S := []) (w := w5) ?_ D0.out (by simp), Keep.cell (S := []) (w := w5) ?_ D1.out (by simp), Keep.cell (S := []) (w := w5) ?_ D2.out (by simp), Keep.cell (S := []) (w := w5) ?_ E0.out (by simp), Keep.cell (S := []) (w := w5) ?_ E1.out (by simp), Keep.cell (S := []) (w := w5) ?_ E2.out (by simp), Keep.cell (S := []) (w := w5) ?_ E3.out (by simp)⟩; all_goals (((repeat (first | (with_reducible exact Keep.refl _ _) | (with_reducible refine Keep.drew ?_) | (with_reducible refine Keep.drewN ?_ _) | (with_reducible refine Keep.alloc ?_ _) | ((with_reducible refine Keep.setCell ?_ ?_ _); rotate_left; focus (first | (simp; done) | (simp; omega) | (left; dsimp only; omega))))); done)))
                | (refine ⟨Keep.cell (S := []) (w := w5) ?_ D0.out (by simp), Keep.cell (S := []) (w := w5) ?_ D1.out (by simp), Keep.cell (S := []) (w := w5) ?_ D2.out (by simp), Keep.cell (S := []) (w := w5) ?_ E0.out (by simp), Keep.cell (S := []) (w := w5) ?_ E1.out (by simp), Keep.cell (S := []) (w := w5) ?_ E2.out (by simp), Keep.cell (S := []) (w := w5) ?_ E3.out (by simp)⟩; all_goals (((repeat (first | (with_reducible exact HK6.out) | (with_reducible refine Keep.drew ?_) | (with_reducible refine Keep.drewN ?_ _) | (with_reducible refine Keep.alloc ?_ _) | ((with_reducible refine Keep.setCell ?_ ?_ _); rotate_left; focus (first | (simp; done) | (simp; omega) | (left; dsimp only; omega))))); done)))
                | (refine ⟨Keep.cell (S := [b, g]) (w := w5) ?_ D0.out (by simp; omega), Keep.cell (S := [b, g]) (w := w5) ?_ D1.out (by simp; omega), Keep.cell (S := [b, g]) (w := w5) ?_ D2.out (by simp; omega), Keep.cell (S := [b, g]) (w := w5) ?_ E0.out (by simp; omega), Keep.cell (S := [b, g]) (w := w5) ?_ E1.out (by simp; omega), Keep.cell (S := [b, g]) (w := w5) ?_ E2.out (by simp; omega), Keep.cell (S := [b, g]) (w := w5) ?_ E3.out (by simp; omega)⟩; all_goals (((repeat (first | (with_reducible exact HK7.out) | (with_reducible refine Keep.drew ?_) | (with_reducible refine Keep.drewN ?_ _) | (with_reducible refine Keep.alloc ?_ _) | ((with_reducible refine Keep.setCell ?_ ?_ _); rotate_left; focus (first | (simp; done) | (simp; omega) | (left; dsimp only; omega))))); done))))
              (first
                | (go_at_call 97; refine (HBC.out _).mono ?_; rintro e w6 ⟨rfl, K6⟩; have HK6 := Lib.hid (show Keep [] w5 w6 from by refine Keep.trans (a := w5) ?_ K6; ((repeat (first | (with_reducible exact Keep.refl _ _) | (with_reducible refine Keep.drew ?_) | (with_reducible refine Keep.drewN ?_ _) | (with_reducible refine Keep.alloc ?_ _) | ((with_reducible refine Keep.setCell ?_ ?_ _); rotate_left; focus (first | (simp; done) | (simp; omega) | (left; dsimp only; omega))))); done)); clear K6)
                | (go_at_call 38; refine (HBK.out _ _ _ _ (HA5.out.keep (S := []) (by first | (((repeat (first | (with_reducible exact HK6.out) | (with_reducible refine Keep.drew ?_) | (with_reducible refine Keep.drewN ?_ _) | (with_reducible refine Keep.alloc ?_ _) | ((with_reducible refine Keep.setCell ?_ ?_ _); rotate_left; focus (first | (simp; done) | (simp; omega) | (left; dsimp only; omega))))); done)) | (((repeat (first | (with_reducible exact Keep.refl _ _) | (with_reducible refine Keep.drew ?_) | (with_reducible refine Keep.drewN ?_ _) | (with_reducible refine Keep.alloc ?_ _) | ((with_reducible refine Keep.setCell ?_ ?_ _); rotate_left; focus (first | (simp; done) | (simp; omega) | (left; dsimp only; omega))))); done))) (by simp) (by simp)) HWI.out (by rw [HWL.out]; exact HFIT.out) i _).mono ?_; rintro e w7 ⟨rfl, ⟨t7, la7, A7, -⟩, K7⟩; have HA7 := Lib.hid A7; have HK7 := Lib.hid (show Keep [b, g] w5 w7 from by refine Keep.trans (a := w5) ?_ K7; ((repeat (first | (with_reducible exact HK6.out.mono (by simp)) | (with_reducible refine Keep.drew ?_) | (with_reducible refine Keep.drewN ?_ _) | (with_reducible refine Keep.alloc ?_ _) | ((with_reducible refine Keep.setCell ?_ ?_ _); rotate_left; focus (first | (simp; done) | (simp; omega) | (left; dsimp only; omega))))); done)); clear A7 K7)))
          | fail
          all_goals (
            go_wp2_with fail
            go_roundg (l.b - (i + 1))
            case measure => omega
            case rel =>
              refine ⟨i + 1, by omega, by go_num, ⟨t7, la7, ?_⟩, HK5.out.trans (by ((repeat (first | (with_reducible exact HK7.out) | (with_reducible refine Keep.drew ?_) | (with_reducible refine Keep.drewN ?_ _) | (with_reducible refine Keep.alloc ?_ _) | ((with_reducible refine Keep.setCell ?_ ?_ _); rotate_left; focus (first | (simp; done) | (simp; omega) | (left; dsimp only; omega))))); done))⟩
              rw [HSU.out, HST.out, if_pos ⟨by simp, HFO.out⟩]
              exact HA7.out.keep (S := []) (by ((repeat (first | (with_reducible exact Keep.refl _ _) | (with_reducible refine Keep.drew ?_) | (with_reducible refine Keep.drewN ?_ _) | (with_reducible refine Keep.alloc ?_ _) | ((with_reducible refine Keep.setCell ?_ ?_ _); rotate_left; focus (first | (simp; done) | (simp; omega) | (left; dsimp only; omega))))); done)) (by simp) (by simp))
      have j5 : (k == 5) = false := by simp [k5]
      have HN : Hid (k ≠ 4 ∧ k ≠ 5) := ⟨k4, k5⟩
      clear k4 k5
      go_wp2_with fail
      go_roundg (l.b - (i + 1))
      case measure => omega
      case rel =>
        obtain ⟨k1, k2⟩ := HKP.out (w3.alloc (.cells #[.int .u8 k, .int .u8 c, .int .u8 r, .int .u8 o] 74 (0, 0))) (by repeat (first | (with_reducible exact HK3.out) | (with_reducible refine Keep.drew ?_) | (with_reducible refine Keep.drewN ?_ _) | (with_reducible refine Keep.alloc ?_ _) | (with_reducible refine Keep.setCell ?_ (by first | (simp; done) | (simp; omega) | (left; dsimp only; omega)) _))) ⟨_, _, HA3.out.keep (S := []) (by repeat (first | (with_reducible exact Keep.refl _ _) | (with_reducible refine Keep.drew ?_) | (with_reducible refine Keep.drewN ?_ _) | (with_reducible refine Keep.alloc ?_ _) | (with_reducible refine Keep.setCell ?_ (by first | (simp; done) | (simp; omega) | (left; dsimp only; omega)) _))) (by simp) (by simp)⟩ (.inl HN.out)
        exact ⟨i + 1, by omega, by go_num, k2, k1⟩
    · obtain rfl : i = l.b := by omega
      go_wp2_with fail
      refine bodyPost_end (v := .tuple #[]) ?_ rfl ?_
      · kernel_rfl
      exact hR.out _ _ ⟨rfl, ⟨_, _, by rw [HV.out]; exact HA.out⟩, (HK2.out.mono (by simp)).trans HKR.out⟩
end Go.Proofs.Ytnadiddaeolanaa
