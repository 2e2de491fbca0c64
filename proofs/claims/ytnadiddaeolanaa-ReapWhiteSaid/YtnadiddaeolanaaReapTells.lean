/- The walk of ReapTells: the law. -/
import Derived.Test.YtnadiddaeolanaaRef22
import Derived.Test.YtnadiddaeolanaaWakes22
namespace Go.Proofs.Ytnadiddaeolanaa
open Go.RowKit
set_option linter.unusedVariables false
set_option linter.unusedSimpArgs false

theorem arn_lt {w : World} {b g : Nat} {W : List Int} (h : ∃ t la, Arn w b g W t la) : b < w.heap.size ∧ g < w.heap.size := by
  obtain ⟨t, la, h⟩ := h; exact ⟨lt_of_block h.head, lt_of_block h.row⟩
theorem arn_far {w w' : World} {b g : Nat} {W : List Int} (h : ∃ t la, Arn w b g W t la) (k : Keep [] w w') : ∃ t la, Arn w' b g W t la := by
  obtain ⟨t, la, h⟩ := h; exact ⟨t, la, h.keep k (by simp) (by simp)⟩
theorem wrap64_small' (m : Nat) (h : m ≤ 1000) : wrap64 (m : Int) = (m : Int) := by unfold wrap64; omega

/-- What reaping makes of words, and how many were free by that. -/
def reapR (n : Nat) (bl : List Int) (c : Int) (W : List Int) : List Int × Nat := if c ≤ 1 then (waitW ⟨1, 2, n⟩ (fun _ => true) (reapS c (allS ⟨1, 2, n⟩ bl n) W).1 n, (reapS c (allS ⟨1, 2, n⟩ bl n) W).2) else (W, 0)
theorem reapR_ok {n : Nat} (hn : n ≤ 6) {bl : List Int} (c : Int) {W : List Int} (hH : HeapW n bl W) : (reapR n bl c W).1.length = W.length ∧ (reapR n bl c W).2 ≤ 96 := by
  unfold reapR
  split
  · have h := reap_heap c (allS ⟨1, 2, n⟩ bl n) (W, 0) (fun a ha => all_spots a ha) hH
    have hl := allS_len (Lay.mk 1 2 n) bl n
    refine ⟨?_, ?_⟩
    · dsimp only; rw [waitW_len]; exact h.1.len.trans hH.len.symm
    · have := h.2; dsimp only; unfold reapS; omega
  · exact ⟨rfl, by simp⟩

set_option maxRecDepth 100000 in
theorem reap_high (b : Nat) (l : Lay) (c : Int) (hc : 1 < c) (w : World) :
    Calls Try.prog 69 #[.iface 25 (.pointer (some ⟨b, 0, none⟩)), l.val, .int .u8 c] w fun e w' => e = .returned (.int .i64 0) ∧ Keep [] w w' := by
  refine calls_abs fun R hR => ?_
  unfold Lay.val
  have q0 : decide (1 < c) = true := by simpa using hc
  go_enter Try.func69, Try.ntmps69
  go_wp2_with fail
  all_goals exact hR.out _ _ ⟨rfl, (by repeat (first | (with_reducible exact Keep.refl _ _) | (with_reducible refine Keep.drew ?_) | (with_reducible refine Keep.drewN ?_ _) | (with_reducible refine Keep.alloc ?_ _) | (with_reducible refine Keep.setCell ?_ (by first | (simp; done) | (simp; omega) | (left; dsimp only; omega)) _)))⟩

theorem reap_any {n : Nat} (hn : n ≤ 6) {bl : List Int} (hb0 : ∀ k, 0 ≤ bl.getD k 0) (c : Int) (hc : 0 ≤ c ∧ c ≤ 255) {W : List Int} (hH : HeapW n bl W) {w : World} {b g : Nat} (h : ∃ t la, Arn w b g W t la) :
    Calls Try.prog 69 #[.iface 25 (.pointer (some ⟨b, 0, none⟩)), (Lay.mk 1 2 n).val, .int .u8 c] w fun e w' => e = .returned (.int .i64 ((reapR n bl c W).2 : Nat)) ∧ (∃ t la, Arn w' b g (reapR n bl c W).1 t la) ∧ Keep [b, g] w w' := by
  have hfit : (Lay.mk 1 2 n).fits := ⟨by show (1 : Nat) ≤ 64; omega, by show (2 : Nat) ≤ 8; omega, by show n ≤ 64; omega⟩
  by_cases hc1 : c ≤ 1
  · have h1 := reap_reap h (Lay.mk 1 2 n) hfit c (by omega) (stays_reap n hn bl hb0 c) hH
    dsimp only at h1
    rw [headsOf_all ⟨1, 2, n⟩ bl hb0 n] at h1
    have hok := (reapR_ok hn (bl := bl) c hH).2
    unfold reapR at hok ⊢
    rw [if_pos hc1] at hok ⊢
    dsimp only at hok ⊢
    rw [wrap64_small' _ (by omega)] at h1
    exact h1
  · unfold reapR
    rw [if_neg hc1]
    refine (reap_high b (Lay.mk 1 2 n) c (by omega) w).mono ?_
    rintro e w' ⟨rfl, K⟩
    exact ⟨rfl, arn_far h K, K.mono (by simp)⟩
theorem ref22_any {n : Nat} (hn : n ≤ 6) (hn1 : 1 ≤ n) {bl : List Int} (hb0 : ∀ k, 0 ≤ bl.getD k 0) (c : Int) {W : List Int} (hH : HeapW n bl W) {w : World} {sv : Value} (hr : Rd w sv W.length (u64s W)) :
    Calls Try.prog 72 #[hpV sv ⟨1, 2, n⟩, .int .u8 c] w fun e w' => ∃ sv', e = .returned (.tuple #[hpV sv' ⟨1, 2, n⟩, .int .i64 ((reapR n bl c W).2 : Nat)]) ∧ Rd w' sv' W.length (u64s (reapR n bl c W).1) ∧ Keep [] w w' ∧ From w sv sv' := by
  unfold reapR
  by_cases hc1 : c ≤ 1
  · rw [if_pos hc1]
    exact ref22_reap n hn hn1 bl hb0 W hH hr c hc1
  · rw [if_neg hc1]
    obtain ⟨ao, cap, hsv, _, _⟩ := hr.shape
    refine (ref22_reap_high (Lay.mk 1 2 n) c (by omega) ⟨ao, _, cap, hsv⟩).mono ?_
    rintro e w' ⟨rfl, K⟩
    exact ⟨sv, rfl, hr.keep K (fun _ _ => by simp), K, From.refl _ _⟩

set_option maxRecDepth 100000 in
set_option maxHeartbeats 16000000 in
theorem reap_tells_law (bv cv : Value) (bl : List Int) (cs : List Cl) (r0 r1 c : Int) (hc : 0 ≤ c ∧ c ≤ 255) (w : World) (hh : HpIn w bv cv bl cs r0 r1) :
    Calls Try.prog 13 #[heapV bv cv r0 r1, .int .u8 c] w fun e w' => e = .returned (.bool true) ∧ Keep [] w w' := by
  refine calls_abs fun R hR => ?_
  have mixed : Try.prog.follows .mixedOrders = true := by kernel_rfl
  have hb0 : ∀ k, 0 ≤ bl.getD k 0 := fun k => by
    rw [List.getD_eq_getElem?_getD]
    cases hk : bl[k]? with
    | none => simp
    | some x => exact (hh.bytes x (List.mem_of_getElem? hk)).1
  have hwd := fun (w' : World) (K : Keep [] w w') => law21_words _ _ _ _ _ _ w' (hh.keep K)
  have hheap := fun W h => heapW_words bl hb0 cs (fun x hx => (hh.ok x hx).1) r0 r1 W h
  generalize wordsS bl cs r0 r1 = o at *
  obtain ⟨n, hn⟩ : ∃ n, n = bl.length := ⟨_, rfl⟩
  rw [← hn] at hwd hheap
  unfold WordsR heapV at hwd
  unfold heapV
  unfold Lay.val at hwd
  have HB0 := Lib.hid hb0
  cases o with
  | none =>
    dsimp only at hwd
    push_cast at hwd
    have HWD := Lib.hid hwd
    clear hwd hheap hh hn hb0
    go_enter Try.func13, Try.ntmps13
    go_wp2_with fail
    refine (HWD.out _ (by repeat (first | (with_reducible exact Keep.refl _ _) | (with_reducible refine Keep.drew ?_) | (with_reducible refine Keep.drewN ?_ _) | (with_reducible refine Keep.alloc ?_ _) | (with_reducible refine Keep.setCell ?_ (by first | (simp; done) | (simp; omega) | (left; dsimp only; omega)) _)))).mono ?_
    rintro e w2 ⟨rfl, K2⟩
    have HK2 := Lib.hid (show Keep [] w w2 from by refine Keep.trans ?_ K2; ((repeat (first | (with_reducible exact Keep.refl _ _) | (with_reducible refine Keep.drew ?_) | (with_reducible refine Keep.drewN ?_ _) | (with_reducible refine Keep.alloc ?_ _) | ((with_reducible refine Keep.setCell ?_ ?_ _); rotate_left; focus (first | (simp; done) | (simp; omega) | (left; dsimp only; omega))))); done))
    clear K2
    go_wp2_with fail
    refine (law22_wakes _).mono ?_
    rintro e w3 ⟨rfl, K3⟩
    go_wp2_with fail
    refine hR.out _ _ ⟨rfl, ?_⟩
    refine Keep.trans ?_ K3
    ((repeat (first | (with_reducible exact HK2.out) | (with_reducible refine Keep.drew ?_) | (with_reducible refine Keep.drewN ?_ _) | (with_reducible refine Keep.alloc ?_ _) | ((with_reducible refine Keep.setCell ?_ ?_ _); rotate_left; focus (first | (simp; done) | (simp; omega) | (left; dsimp only; omega))))); done)
  | some W =>
    dsimp only at hwd
    push_cast at hwd
    have hHW := (hheap W rfl).1
    have hnb := (hheap W rfl).2
    have HHW := Lib.hid hHW
    have HWD := Lib.hid hwd
    clear hwd hheap hh hHW hn hb0
    go_enter Try.func13, Try.ntmps13
    go_wp2_with fail
    refine (HWD.out _ (by repeat (first | (with_reducible exact Keep.refl _ _) | (with_reducible refine Keep.drew ?_) | (with_reducible refine Keep.drewN ?_ _) | (with_reducible refine Keep.alloc ?_ _) | (with_reducible refine Keep.setCell ?_ (by first | (simp; done) | (simp; omega) | (left; dsimp only; omega)) _)))).mono ?_
    rintro e w2 ⟨g0, rfl, hg0, hgb, K2⟩
    have hg0w : w.heap.size ≤ g0 := by simp at hgb; omega
    have HG0 := Lib.hid hg0; have HK2 := Lib.hid (show Keep [] w w2 from by refine Keep.trans ?_ K2; ((repeat (first | (with_reducible exact Keep.refl _ _) | (with_reducible refine Keep.drew ?_) | (with_reducible refine Keep.drewN ?_ _) | (with_reducible refine Keep.alloc ?_ _) | ((with_reducible refine Keep.setCell ?_ ?_ _); rotate_left; focus (first | (simp; done) | (simp; omega) | (left; dsimp only; omega))))); done))
    clear hg0 hgb K2
    go_wp2_with fail
    obtain ⟨z, hz⟩ : ∃ z, z = w2.heap.size := ⟨_, rfl⟩
    simp only [← hz]
    generalize hw3 : World.alloc _ _ = w3
    have b6 : w3.heap[z]? = some (.cells #[.int .i64 1, .int .i64 2, .int .i64 n] 88 (0, 0)) := by rw [← hw3]; exact alloc_new _ _ _ hz
    have K3 : Keep [] w2 w3 := by rw [← hw3]; exact (by repeat (first | (with_reducible exact Keep.refl _ _) | (with_reducible refine Keep.drew ?_) | (with_reducible refine Keep.drewN ?_ _) | (with_reducible refine Keep.alloc ?_ _) | (with_reducible refine Keep.setCell ?_ (by first | (simp; done) | (simp; omega) | (left; dsimp only; omega)) _)))
    have hlen := HHW.out.len
    have hg03 := K3.get HG0.out (by simp)
    have hr0 : Rd w3 (.slice (some ⟨g0, 0, none⟩) (6 + 33 * n) (6 + 33 * n)) W.length (u64s W) := by
      have h := rd_of_u64 hg03 (by rw [hlen]; omega)
      rw [hlen] at h ⊢
      exact h
    have hmade := law21_made n hnb W hlen _ w3 hr0
    unfold Lay.val at hmade
    dsimp only at hmade
    push_cast at hmade
    have hzw : w.heap.size ≤ z := by have := HK2.out.size; omega
    have hgz : g0 < z := by have := lt_of_block HG0.out; omega
    have HB6 := Lib.hid b6; have HR0 := Lib.hid hr0; have HK3 := Lib.hid (HK2.out.trans K3); have HM := Lib.hid hmade; have HLEN := Lib.hid hlen
    clear hw3 b6 hr0 K3 hmade hz hg03 hlen
    refine HM.out.mono ?_
    rintro e w4 ⟨b, g, rfl, hA4, K4, hb4, hg4⟩
    have HA4 := Lib.hid hA4; have HK4 := Lib.hid (HK3.out.trans K4); have HB64 := Lib.hid (K4.get HB6.out (by simp))
    have hzb : z < b ∧ z < g := by have := lt_of_block HB6.out; omega
    have HR4 := Lib.hid (HR0.out.keep K4 (fun _ _ => by simp))
    clear hA4 K4 hb4 hg4 HM HB6 HR0 HG0
    have c6 := cell_at HB64.out; have l6 := lt_of_block HB64.out
    go_wp2_with fail
    obtain ⟨z9, hz9⟩ : ∃ z, z = w4.heap.size := ⟨_, rfl⟩
    simp only [← hz9]
    generalize hw5 : World.alloc _ _ = w5
    have b9 : w5.heap[z9]? = some (.cells #[.int .i64 1, .int .i64 2, .int .i64 n] 53 (0, 0)) := by rw [← hw5]; exact alloc_new _ _ _ hz9
    have K5 : Keep [] w4 w5 := by rw [← hw5]; exact (by repeat (first | (with_reducible exact Keep.refl _ _) | (with_reducible refine Keep.drew ?_) | (with_reducible refine Keep.drewN ?_ _) | (with_reducible refine Keep.alloc ?_ _) | (with_reducible refine Keep.setCell ?_ (by first | (simp; done) | (simp; omega) | (left; dsimp only; omega)) _)))
    have hbg9 : b < z9 ∧ g < z9 := by have := arn_lt HA4.out; omega
    have hrr := ref22_any hnb.2 hnb.1 HB0.out c HHW.out (HR4.out.keep K5 (fun _ _ => by simp))
    have hrp := fun (w' : World) (h : ∃ t la, Arn w' b g W t la) => reap_any hnb.2 HB0.out c hc HHW.out h
    have hok := reapR_ok hnb.2 (bl := bl) c HHW.out
    obtain ⟨V, hV⟩ : ∃ V, V = (reapR n bl c W).1 := ⟨_, rfl⟩
    obtain ⟨m, hm⟩ : ∃ m, m = (reapR n bl c W).2 := ⟨_, rfl⟩
    rw [← hV, ← hm] at hrr hrp hok
    unfold hpV at hrr
    unfold Lay.val at hrp
    dsimp only at hrr hrp
    push_cast at hrr hrp
    rw [HLEN.out] at hrr hok
    have HRR := Lib.hid hrr; have HRP := Lib.hid hrp; have HOK := Lib.hid hok; have HB9 := Lib.hid b9; have HK5 := Lib.hid (HK4.out.trans K5); have HA5 := Lib.hid (arn_far HA4.out K5)
    have HR5 := Lib.hid (HR4.out.keep K5 (fun _ _ => by simp))
    clear hw5 hrr hrp hok hV hm b9 K5 hz9 c6 l6 HA4 HB64 HK4 HR4
    refine HRR.out.mono ?_
    rintro e w6 ⟨v6, rfl, R6, K6, F6⟩
    obtain ⟨a6, cap6, rfl, -, -⟩ := R6.shape
    have hfar : ∀ q, (Value.slice a6 (6 + 33 * n) cap6).ownBlock = some q → q ≠ b ∧ q ≠ g := fun q hq => by
      rcases F6 q hq with h | h
      · have h' : g0 = q := Option.some.inj h
        omega
      · have h1 := lt_of_block HB9.out; omega
    have HFAR := Lib.hid hfar; have HR6 := Lib.hid R6; have HK6 := Lib.hid (HK5.out.trans K6); have HA6 := Lib.hid (arn_far HA5.out K6)
    have b9 := K6.get HB9.out (by simp)
    have c9 := cell_at b9; have l9 := lt_of_block b9
    have HB96 := Lib.hid b9
    clear F6 R6 K6 hfar b9 HRR HB9 HR5 HK5 HA5
    go_wp2_with fail
    obtain ⟨zx, hzx⟩ : ∃ z, z = w6.heap.size := ⟨_, rfl⟩
    simp only [← hzx]
    generalize hw7 : World.alloc _ _ = w7
    have bx : w7.heap[zx]? = some (.cells #[.slice a6 (6 + 33 * n) cap6, .int .i64 1, .int .i64 2, .int .i64 n] 114 (0, 0)) := by rw [← hw7]; exact alloc_new _ _ _ hzx
    have K7 : Keep [] w6 w7 := by rw [← hw7]; exact (by repeat (first | (with_reducible exact Keep.refl _ _) | (with_reducible refine Keep.drew ?_) | (with_reducible refine Keep.drewN ?_ _) | (with_reducible refine Keep.alloc ?_ _) | (with_reducible refine Keep.setCell ?_ (by first | (simp; done) | (simp; omega) | (left; dsimp only; omega)) _)))
    have hbgx : b < zx ∧ g < zx := by have := arn_lt HA6.out; omega
    have HBX := Lib.hid bx; have HA7 := Lib.hid (arn_far HA6.out K7); have HR7 := Lib.hid (HR6.out.keep K7 (fun _ _ => by simp)); have HK7 := Lib.hid (HK6.out.trans K7)
    clear hw7 bx K7 hzx c9 l9 HB96 HR6 HK6 HA6
    refine (HRP.out w7 HA7.out).mono ?_
    rintro e w8 ⟨rfl, hA8, K8⟩
    have b8 := K8.get HBX.out (by simp; omega)
    have c8 := cell_at b8; have l8 := lt_of_block b8
    have hr8 := HR7.out.keep K8 (fun q hq => by have h1 := HFAR.out q hq; simp; exact h1)
    have hsame := law21_same V (by rw [HOK.out.1]; omega) (.slice a6 (6 + 33 * n) cap6) b g w8 hA8 (by rw [HOK.out.1]; exact hr8)
    have HSAME := Lib.hid hsame; have HK8 := Lib.hid (HK7.out.fresh K8 (by simp; omega))
    have qm : ((m : Int) == (m : Int)) = true := by simp
    clear hA8 K8 b8 hr8 hsame HRP
    go_wp2_with fail
    refine HSAME.out.mono ?_
    rintro e w9 ⟨rfl, K9⟩
    go_wp2_with fail
    refine (law22_wakes w9).mono ?_
    rintro e w10 ⟨rfl, K10⟩
    go_wp2_with fail
    exact hR.out _ _ ⟨rfl, (HK8.out.trans K9).trans K10⟩
end Go.Proofs.Ytnadiddaeolanaa
