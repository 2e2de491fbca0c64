/- The walk of TraceTells: the law. -/
import Derived.Test.YtnadiddaeolanaaTells21b
namespace Go.Proofs.Ytnadiddaeolanaa
open Go.RowKit
set_option linter.unusedVariables false
set_option linter.unusedSimpArgs false

theorem wrap64_zero : wrap64 ((0 : Nat) : Int) = 0 := by unfold wrap64; omega
theorem roots_at (n : Nat) : (Lay.mk 1 2 n).global ((0 : Nat) : Int) = 4 ∧ (Lay.mk 1 2 n).global ((1 : Nat) : Int) = 5 := by
  rw [global_is _ 0 (by show (0 : Nat) < 2; omega), global_is _ 1 (by show (1 : Nat) < 2; omega)]
  exact ⟨rfl, rfl⟩
theorem heapW_roots (bl : List Int) (hb : ∀ k, 0 ≤ bl.getD k 0) (cs : List Cl) (hu : ∀ x ∈ cs, x.h.u8) (r0 r1 : Int) (W : List Int) (h : wordsS bl cs r0 r1 = some W) (c : Int) (hc : 0 ≤ c ∧ c ≤ 255) : HeapW bl.length bl (rootsW c ⟨1, 2, bl.length⟩ 2 W) := by
  have hH := (heapW_words bl hb cs hu r0 r1 W h).1
  have hg := roots_at bl.length
  have h4 : (rdz W 4 = 0 ∨ ∃ s ∈ spots bl.length bl, rdz W 4 = s.1) ∧ (rdz W 5 = 0 ∨ ∃ s ∈ spots bl.length bl, rdz W 5 = s.1) := by
    have hl := hH.len
    unfold wordsS at h
    split at h
    · cases h
    · split at h
      · cases h
      · rename_i W0 hp
        simp only [Option.some.injEq] at h
        subst h
        rw [putz_length, putz_length] at hl
        have g0 : (Lay.mk 1 2 bl.length).global 0 = 4 := hg.1
        have g1 : (Lay.mk 1 2 bl.length).global 1 = 5 := hg.2
        rw [g0, g1]
        have i4 : inr W0.length 4 = true := by unfold inr; simp; omega
        have i5 : inr W0.length 5 = true := by unfold inr; simp; omega
        constructor
        · rw [rdz_putz, if_neg (by omega), rdz_putz, if_pos ⟨rfl, i4⟩]
          exact refS_ok _ _ _
        · rw [rdz_putz, if_pos ⟨rfl, by rw [putz_length]; exact i5⟩]
          exact refS_ok _ _ _
  have hstep : ∀ (V : List Int) (a : Int), HeapW bl.length bl V → (rdz V a = 0 ∨ ∃ s ∈ spots bl.length bl, rdz V a = s.1) → HeapW bl.length bl (if rdz V a = 0 then V else shadeW V (rdz V a) c) ∧ ∀ j : Int, j < 6 → rdz (if rdz V a = 0 then V else shadeW V (rdz V a) c) j = rdz V j := by
    intro V a hV ha
    by_cases h0 : rdz V a = 0
    · rw [if_pos h0]; exact ⟨hV, fun _ _ => rfl⟩
    · rw [if_neg h0]
      obtain ⟨s, hs, he⟩ := ha.resolve_left h0
      have hin := spots_in hs
      rw [he]
      refine ⟨hV.shade hs c hc, fun j hj => ?_⟩
      unfold shadeW
      rw [rdz_putz, if_neg (by omega)]
  rw [show (2 : Nat) = 0 + 1 + 1 from rfl, rootsW_succ, rootsW_succ]
  unfold rootW
  rw [Nat.zero_add, hg.1, hg.2]
  have s1 := hstep W 4 hH h4.1
  have hz : rootsW c ⟨1, 2, bl.length⟩ 0 W = W := rfl
  rw [hz]
  exact (hstep _ 5 s1.1 (by rw [s1.2 5 (by omega)]; exact h4.2)).1

/-- What stands between two passes. -/
structure TT (w wr : World) (b g z z9 n : Nat) (bl V : List Int) (ao : Option Addr) (cap : Nat) : Prop where
  heap : HeapW n bl V
  arn : ∃ t la, Arn wr b g V t la
  box : wr.heap[z]? = some (.cells #[.slice ao (6 + 33 * n) cap] 28 (0, 0))
  rd : Rd wr (.slice ao (6 + 33 * n) cap) (6 + 33 * n) (u64s V)
  apart : ∀ q, (Value.slice ao (6 + 33 * n) cap).ownBlock = some q → q ≠ b ∧ q ≠ g ∧ q ≠ z
  lay : wr.heap[z + 1]? = some (.cells #[.int .i64 1, .int .i64 2, .int .i64 n] 88 (0, 0))
  lay9 : wr.heap[z9]? = some (.cells #[.int .i64 1, .int .i64 2, .int .i64 n] 53 (0, 0))
  keep : Keep [] w wr

theorem TT.far {w wr wr' : World} {b g z z9 n : Nat} {bl V : List Int} {ao : Option Addr} {cap : Nat} (h : TT w wr b g z z9 n bl V ao cap) (k : Keep [] wr wr') : TT w wr' b g z z9 n bl V ao cap :=
  ⟨h.heap, by obtain ⟨t, la, h⟩ := h.arn; exact ⟨t, la, h.keep k (by simp) (by simp)⟩, k.get h.box (by simp), h.rd.keep k (fun _ _ => by simp), h.apart, k.get h.lay (by simp), k.get h.lay9 (by simp), h.keep.trans k⟩
theorem hAa_lt {w : World} {b g : Nat} {W : List Int} (h : ∃ t la, Arn w b g W t la) : b < w.heap.size ∧ g < w.heap.size := by
  obtain ⟨t, la, h⟩ := h; exact ⟨lt_of_block h.head, lt_of_block h.row⟩
theorem headsOf_len (n : Nat) (bl : List Int) (hb : ∀ k, 0 ≤ bl.getD k 0) : (headsOf ⟨1, 2, n⟩ (fun k => enS (bl.getD k 0)) n).length = (allS ⟨1, 2, n⟩ bl n).length := by
  rw [← headsOf_all ⟨1, 2, n⟩ bl hb n, List.length_map]

set_option maxRecDepth 100000 in
set_option maxHeartbeats 16000000 in
theorem trace_tells_law (bv cv : Value) (bl : List Int) (cs : List Cl) (r0 r1 c : Int) (hc : 0 ≤ c ∧ c ≤ 255) (w : World) (hh : HpIn w bv cv bl cs r0 r1) :
    Calls Try.prog 10 #[heapV bv cv r0 r1, .int .u8 c] w fun e w' => e = .returned (.bool true) ∧ Keep [] w w' := by
  refine calls_abs fun R hR => ?_
  have mixed : Try.prog.follows .mixedOrders = true := by kernel_rfl
  have hmf : ∀ (fn : Fn) (first cap : Array Value) (w : World), (Instr.makeFunc fn first cap).run Try.prog w = .ok (.func fn first cap) w := fun _ _ _ _ => rfl
  have hb0 : ∀ k, 0 ≤ bl.getD k 0 := fun k => by
    rw [List.getD_eq_getElem?_getD]
    cases hk : bl[k]? with
    | none => simp
    | some x => exact (hh.bytes x (List.mem_of_getElem? hk)).1
  have hwd := fun (w' : World) (K : Keep [] w w') => law21_words _ _ _ _ _ _ w' (hh.keep K)
  have hheap := fun W h => heapW_words bl hb0 cs (fun x hx => (hh.ok x hx).1) r0 r1 W h
  have HR1 := fun W h => heapW_roots bl hb0 cs (fun x hx => (hh.ok x hx).1) r0 r1 W h c hc
  generalize wordsS bl cs r0 r1 = o at *
  obtain ⟨n, hn⟩ : ∃ n, n = bl.length := ⟨_, rfl⟩
  rw [← hn] at hwd hheap HR1
  unfold WordsR heapV at hwd
  unfold heapV
  unfold Lay.val at hwd
  have HHE := Lib.hid hheap; have HB0 := Lib.hid hb0
  cases o with
  | none =>
    dsimp only at hwd
    push_cast at hwd
    have HWD := Lib.hid hwd
    clear hwd hheap hh hn hb0
    go_enter Try.func10, Try.ntmps10
    go_wp2_with fail
    refine (HWD.out _ (by repeat (first | (with_reducible exact Keep.refl _ _) | (with_reducible refine Keep.drew ?_) | (with_reducible refine Keep.drewN ?_ _) | (with_reducible refine Keep.alloc ?_ _) | (with_reducible refine Keep.setCell ?_ (by first | (simp; done) | (simp; omega) | (left; dsimp only; omega)) _)))).mono ?_
    rintro e w2 ⟨rfl, K2⟩
    have HK2 := Lib.hid (show Keep [] w w2 from by refine Keep.trans ?_ K2; ((repeat (first | (with_reducible exact Keep.refl _ _) | (with_reducible refine Keep.drew ?_) | (with_reducible refine Keep.drewN ?_ _) | (with_reducible refine Keep.alloc ?_ _) | ((with_reducible refine Keep.setCell ?_ ?_ _); rotate_left; focus (first | (simp; done) | (simp; omega) | (left; dsimp only; omega))))); done))
    clear K2
    go_wp2_with fail
    refine (law21_wakes _).mono ?_
    rintro e w3 ⟨rfl, K3⟩
    go_wp2_with fail
    refine hR.out _ _ ⟨rfl, ?_⟩
    refine Keep.trans ?_ K3
    ((repeat (first | (with_reducible exact HK2.out) | (with_reducible refine Keep.drew ?_) | (with_reducible refine Keep.drewN ?_ _) | (with_reducible refine Keep.alloc ?_ _) | ((with_reducible refine Keep.setCell ?_ ?_ _); rotate_left; focus (first | (simp; done) | (simp; omega) | (left; dsimp only; omega))))); done)
  | some W =>
    dsimp only at hwd
    push_cast at hwd
    have hHW := (hheap W rfl).1
    have hnb := (hheap W rfl).2
    have hH1 := HR1 W rfl
    have HHW := Lib.hid hHW
    have HWD := Lib.hid hwd
    have HH1 := Lib.hid hH1
    clear hwd hheap hh hHW hn hb0 hH1 HR1
    go_enter Try.func10, Try.ntmps10
    go_wp2_with fail
    refine (HWD.out _ (by repeat (first | (with_reducible exact Keep.refl _ _) | (with_reducible refine Keep.drew ?_) | (with_reducible refine Keep.drewN ?_ _) | (with_reducible refine Keep.alloc ?_ _) | (with_reducible refine Keep.setCell ?_ (by first | (simp; done) | (simp; omega) | (left; dsimp only; omega)) _)))).mono ?_
    rintro e w2 ⟨g0, rfl, hg0, hgb, K2⟩
    have hg0w : w.heap.size ≤ g0 := by simp at hgb; omega
    have HG0 := Lib.hid hg0; have HK2 := Lib.hid (show Keep [] w w2 from by refine Keep.trans ?_ K2; ((repeat (first | (with_reducible exact Keep.refl _ _) | (with_reducible refine Keep.drew ?_) | (with_reducible refine Keep.drewN ?_ _) | (with_reducible refine Keep.alloc ?_ _) | ((with_reducible refine Keep.setCell ?_ ?_ _); rotate_left; focus (first | (simp; done) | (simp; omega) | (left; dsimp only; omega))))); done))
    clear hg0 hgb K2
    go_wp2_with fail
    obtain ⟨z, hz⟩ : ∃ z, z = w2.heap.size := ⟨_, rfl⟩
    simp only [← hz]
    generalize hw3 : World.alloc _ _ = w3
    have b5 : w3.heap[z]? = some (.cells #[.slice (some ⟨g0, 0, none⟩) (6 + 33 * n) (6 + 33 * n)] 28 (0, 0)) := by rw [← hw3]; exact alloc_keeps (alloc_new _ _ _ hz) _
    have b6 : w3.heap[z + 1]? = some (.cells #[.int .i64 1, .int .i64 2, .int .i64 n] 88 (0, 0)) := by rw [← hw3]; exact alloc_new _ _ _ (by simp [hz])
    have K3 : Keep [] w2 w3 := by rw [← hw3]; exact (by repeat (first | (with_reducible exact Keep.refl _ _) | (with_reducible refine Keep.drew ?_) | (with_reducible refine Keep.drewN ?_ _) | (with_reducible refine Keep.alloc ?_ _) | (with_reducible refine Keep.setCell ?_ (by first | (simp; done) | (simp; omega) | (left; dsimp only; omega)) _)))
    have hlen := HHW.out.len
    have hg03 := K3.get HG0.out (by simp)
    have hr0 : Rd w3 (.slice (some ⟨g0, 0, none⟩) (6 + 33 * n) (6 + 33 * n)) W.length (u64s W) := by
      have h := rd_of_u64 hg03 (by rw [hlen]; omega)
      rw [hlen] at h ⊢
      exact h
    have hmade := law21_made n hnb W hlen _ w3 hr0
    unfold Lay.val at hmade
    dsimp only at hmade
    push_cast at hmade
    have hzw : w.heap.size ≤ z := by have := HK2.out.size; omega
    have hgz : g0 < z := by have := lt_of_block HG0.out; omega
    have HB5 := Lib.hid b5; have HB6 := Lib.hid b6; have HR0 := Lib.hid hr0; have HK3 := Lib.hid (HK2.out.trans K3); have HM := Lib.hid hmade; have HG03 := Lib.hid hg03; have HLEN := Lib.hid hlen
    clear hw3 b5 b6 hr0 K3 hmade hz hg03 hlen
    refine HM.out.mono ?_
    rintro e w4 ⟨b, g, rfl, hA4, K4, hb4, hg4⟩
    have HA4 := Lib.hid hA4; have HK4 := Lib.hid (HK3.out.trans K4); have HB54 := Lib.hid (K4.get HB5.out (by simp)); have HB64 := Lib.hid (K4.get HB6.out (by simp)); have HG4 := Lib.hid (K4.get HG03.out (by simp))
    have hzb : z + 1 < b ∧ z + 1 < g := by have := lt_of_block HB6.out; omega
    have HR4 := Lib.hid (HR0.out.keep K4 (fun _ _ => by simp))
    clear hA4 K4 hb4 hg4 HM HB5 HB6 HR0 HG03 HG0
    have c5 := cell_at HB54.out; have c6 := cell_at HB64.out; have l5 := lt_of_block HB54.out; have l6 := lt_of_block HB64.out
    go_wp2_with fail
    obtain ⟨z9, hz9⟩ : ∃ z, z = w4.heap.size := ⟨_, rfl⟩
    simp only [← hz9]
    generalize hw5 : World.alloc _ _ = w5
    have b9 : w5.heap[z9]? = some (.cells #[.int .i64 1, .int .i64 2, .int .i64 n] 53 (0, 0)) := by rw [← hw5]; exact alloc_new _ _ _ hz9
    have K5 : Keep [] w4 w5 := by rw [← hw5]; exact (by repeat (first | (with_reducible exact Keep.refl _ _) | (with_reducible refine Keep.drew ?_) | (with_reducible refine Keep.drewN ?_ _) | (with_reducible refine Keep.alloc ?_ _) | (with_reducible refine Keep.setCell ?_ (by first | (simp; done) | (simp; omega) | (left; dsimp only; omega)) _)))
    have hbg9 : b < z9 ∧ g < z9 := by obtain ⟨t, la, h⟩ := HA4.out; have h1 := lt_of_block h.head; have h2 := lt_of_block h.row; omega
    have hhd := ref21_heads n hnb.2 bl HB0.out W HHW.out _ w5 (HR4.out.keep K5 (fun _ _ => by simp))
    unfold Lay.val at hhd
    dsimp only at hhd
    push_cast at hhd
    have HHD := Lib.hid hhd; have HB9 := Lib.hid b9; have HK5 := Lib.hid (HK4.out.trans K5)
    have HA5 : Hid (∃ t la, Arn w5 b g W t la) := by obtain ⟨t, la, h⟩ := HA4.out; exact ⟨t, la, h.keep K5 (by simp) (by simp)⟩
    have HB55 := Lib.hid (K5.get HB54.out (by simp)); have HB65 := Lib.hid (K5.get HB64.out (by simp)); have HG5 := Lib.hid (K5.get HG4.out (by simp)); have HR5 := Lib.hid (HR4.out.keep K5 (fun _ _ => by simp))
    have hw5s : w5.heap.size = z9 + 1 := by rw [← hw5]; simp [hz9]
    have HW5S := Lib.hid hw5s
    clear hhd b9 K5 hw5 hz9 hw5s c5 c6 l5 l6 HA4 HB54 HB64 HG4 HR4
    refine HHD.out.mono ?_
    rintro e w6 ⟨vh, rfl, hoh, K6⟩
    have hal := allS_len (Lay.mk 1 2 n) bl n
    obtain ⟨hs, hhs⟩ : ∃ hs, hs = allS ⟨1, 2, n⟩ bl n := ⟨_, rfl⟩
    rw [← hhs] at hoh hal
    have HHS := Lib.hid hhs
    have hvb := owns_block hoh
    obtain ⟨ah, caph, rfl, hM1, hM2⟩ := owns_val hoh
    have HOH := Lib.hid hoh; have HVB := Lib.hid hvb
    have HB56 := Lib.hid (K6.get HB55.out (by simp)); have HB66 := Lib.hid (K6.get HB65.out (by simp)); have HB96 := Lib.hid (K6.get HB9.out (by simp)); have HG6 := Lib.hid (K6.get HG5.out (by simp)); have HR6 := Lib.hid (HR5.out.keep K6 (fun _ _ => by simp))
    have HA6 : Hid (∃ t la, Arn w6 b g W t la) := by obtain ⟨t, la, h⟩ := HA5.out; exact ⟨t, la, h.keep K6 (by simp) (by simp)⟩
    have HK6 := Lib.hid (HK5.out.trans K6)
    have hs6 : z9 + 1 ≤ w6.heap.size := by have h1 := K6.size; have h2 := HW5S.out; omega
    have c5 := cell_at HB56.out; have c6 := cell_at HB66.out; have l5 := lt_of_block HB56.out; have l6 := lt_of_block HB66.out; have c9 := cell_at HB96.out; have l9 := lt_of_block HB96.out
    have HS6 := Lib.hid hs6
    have l91 : z9 < w6.heap.size + 1 := by omega
    have l92 : z9 < w6.heap.size + 1 + 1 := by omega
    clear hs6 hoh hvb hhs K6 HHD HB55 HB65 HB9 HG5 HR5 HA5 HK5
    go_wp2_with fail
    obtain ⟨y, hy⟩ : ∃ y, y = w6.heap.size := ⟨_, rfl⟩
    simp only [← hy] at l5 l6 l9 l91 l92 ⊢
    generalize hw7 : World.alloc _ _ = w7
    have b10 : w7.heap[y]? = some (.cells #[.slice ah hs.length caph] 22 (0, 0)) := by rw [← hw7]; exact alloc_keeps (alloc_keeps (alloc_new _ _ _ hy) _) _
    have b11 : w7.heap[y + 1]? = some (.cells #[.int .i64 0] 3 (0, 0)) := by rw [← hw7]; exact alloc_keeps (alloc_new _ _ _ (by simp [hy])) _
    have b12 : w7.heap[y + 1 + 1]? = some (.cells #[.bool true] 4 (0, 0)) := by rw [← hw7]; exact alloc_new _ _ _ (by simp [hy])
    have K7 : Keep [] w6 w7 := by rw [← hw7]; exact (by repeat (first | (with_reducible exact Keep.refl _ _) | (with_reducible refine Keep.drew ?_) | (with_reducible refine Keep.drewN ?_ _) | (with_reducible refine Keep.alloc ?_ _) | (with_reducible refine Keep.setCell ?_ (by first | (simp; done) | (simp; omega) | (left; dsimp only; omega)) _)))
    have hfit : (Lay.mk 1 2 n).fits := ⟨by show (1 : Nat) ≤ 64; omega, by show (2 : Nat) ≤ 8; omega, by show n ≤ 64; omega⟩
    have hA7 : ∃ t la, Arn w7 b g W t la := by obtain ⟨t, la, h⟩ := HA6.out; exact ⟨t, la, h.keep K7 (by simp) (by simp)⟩
    have hvh : ∀ q, (Value.slice ah hs.length caph).ownBlock = some q → z9 < q ∧ q < y := fun q hq => by have h1 := HVB.out q hq; have h2 := HW5S.out; omega
    have hI0 : TellsI n hs W (y + 1 + 1) (y + 1) y z z9 (.slice ah hs.length caph) (.slice (some ⟨g0, 0, none⟩) (6 + 33 * n) (6 + 33 * n)) [] W w7 := by
      have hrh : Rd w7 (.slice ah hs.length caph) hs.length (intsV hs) := (Rd.of_owns HOH.out (by intro u hu; obtain ⟨x, _, rfl⟩ := List.mem_map.1 hu; rfl)).keep K7 (fun _ _ => by simp)
      refine ⟨rfl, b12, by show w7.heap[y + 1]? = some (.cells #[.int .i64 (wrap64 ((0 : Nat) : Int))] 3 (0, 0)); rw [wrap64_zero]; exact b11, b10, K7.get HB56.out (by simp), K7.get HB96.out (by simp), hrh, HR6.out.keep K7 (fun _ _ => by simp), fun x hx => ?_, fun x hx => ?_⟩
      · obtain ⟨-, h⟩ := HOH.out
        rcases h with ⟨h1, -⟩ | ⟨gg, cp, cur, h1, -, h2, -⟩
        · rw [h1] at hx; cases hx
        · rw [h1] at hx; cases hx; exact ⟨_, _, _, K7.get h2 (by simp)⟩
      · cases hx; exact ⟨_, _, _, K7.get HG6.out (by simp)⟩
    have hown : ∀ x, x ∈ tellsOwn (y + 1 + 1) (y + 1) y z z9 (.slice ah hs.length caph) (.slice (some ⟨g0, 0, none⟩) (6 + 33 * n) (6 + 33 * n)) → x = g0 ∨ x = z ∨ z9 ≤ x := fun x hx => by
      rw [mem_tellsOwn] at hx
      rcases hx with rfl | rfl | rfl | rfl | rfl | hx | hx
      · omega
      · omega
      · omega
      · omega
      · omega
      · have := hvh x hx; omega
      · have hx' : g0 = x := Option.some.inj hx
        omega
    have hwk := fun hap => trace_walk hfit (tells_walker b g n hnb.2 bl hs W HB0.out HHW.out (by omega) (y + 1 + 1) (y + 1) y z z9 (.slice ah hs.length caph) (.slice (some ⟨g0, 0, none⟩) (6 + 33 * n) (6 + 33 * n)) (by omega) ⟨fun h => by have := hvh _ h; omega, fun h => by have := hvh _ h; omega⟩ ⟨fun h => by have h' : g0 = y + 1 + 1 := Option.some.inj h; omega, fun h => by have h' : g0 = y + 1 := Option.some.inj h; omega⟩ hap) hA7.choose_spec.choose_spec hI0
    have hwk := hwk ⟨fun h => by have := hown b h; omega, fun h => by have := hown g h; omega⟩
    have hho := headsOf_all ⟨1, 2, n⟩ bl HB0.out n
    have hhl := headsOf_len n bl HB0.out
    rw [← HHS.out] at hho hhl
    unfold Lay.val at hwk
    dsimp only at hwk
    push_cast at hwk
    have HWK := Lib.hid hwk; have HK7 := Lib.hid (HK6.out.trans K7); have HOWN := Lib.hid hown; have HVHB := Lib.hid hvh; have HHO := Lib.hid hho; have HHL := Lib.hid hhl; have HFIT := Lib.hid hfit
    have HB67 := Lib.hid (K7.get HB66.out (by simp))
    clear hw7 b10 b11 b12 K7 hA7 hI0 hwk hown hvh hho hhl c5 c6 l5 l6 l9 l91 l92 c9 HG6 HR6 HB56 HB66 HB96 HA6 HK6 hy
    refine HWK.out.mono ?_
    rintro e w8 ⟨rfl, W8, hA8, hI8, K8⟩
    obtain ⟨rfl, i12, i11, i10, i5, i9, irh, irw, -, -⟩ := hI8
    rw [HHO.out, List.isPrefixOf_iff_prefix.2 (List.prefix_refl hs)] at i12
    rw [HHL.out] at i11
    have hx8 : ∀ x ∈ b :: g :: tellsOwn (y + 1 + 1) (y + 1) y z z9 (.slice ah hs.length caph) (.slice (some ⟨g0, 0, none⟩) (6 + 33 * n) (6 + 33 * n)), w.heap.size ≤ x ∧ x ≠ z + 1 := fun x hx => by
      simp only [List.mem_cons] at hx
      rcases hx with rfl | rfl | hx
      · omega
      · omega
      · have := HOWN.out x hx; omega
    have i6 := K8.get HB67.out (fun h => (hx8 _ h).2 rfl)
    have HK8 := Lib.hid (HK7.out.fresh K8 (fun x hx => .inl (hx8 x hx).1))
    have hlen8 : hs.length ≤ 1000 := by omega
    have hmw := wrap64_sm hs.length hlen8
    rw [hmw] at i11
    have HA8 := Lib.hid hA8; have HI5 := Lib.hid i5; have HI6 := Lib.hid i6; have HI9 := Lib.hid i9; have HIW := Lib.hid irw
    have c12 := cell_at i12; have c11 := cell_at i11; have c10 := cell_at i10; have c5 := cell_at i5; have c6 := cell_at i6; have c9 := cell_at i9
    have hsame := law21_same W8 (by have := HLEN.out; omega) _ b g w8 hA8 irw
    have HSAME := Lib.hid hsame
    have q0 : ((hs.length : Int) != (hs.length : Int)) = false := by simp
    clear hA8 i12 i11 i10 i5 i6 i9 irh irw K8 hx8 hmw hsame HWK HK7 HB67
    go_wp2_with fail
    refine HSAME.out.mono ?_
    rintro e w9 ⟨rfl, K9⟩
    have HB59 := Lib.hid (K9.get HI5.out (by simp)); have HB69 := Lib.hid (K9.get HI6.out (by simp)); have HB99 := Lib.hid (K9.get HI9.out (by simp)); have HRW9 := Lib.hid (HIW.out.keep K9 (fun _ _ => by simp))
    have HA9 : Hid (∃ t la, Arn w9 b g W8 t la) := by obtain ⟨t, la, h⟩ := HA8.out; exact ⟨t, la, h.keep K9 (by simp) (by simp)⟩
    have HK9 := Lib.hid (HK8.out.trans K9)
    have c9 := cell_at HB99.out
    have hroots := trace_roots HA9.out HHW.out.words (Lay.mk 1 2 n) HFIT.out c hc
    unfold Lay.val at hroots
    dsimp only at hroots
    push_cast at hroots
    have HTR := Lib.hid hroots
    clear K9 HI5 HI6 HI9 HIW HA8 HK8 c12 c11 c10 c5 c6 HSAME hroots
    go_wp2_with fail
    refine HTR.out.mono ?_
    rintro e w10 ⟨rfl, hA10, K10⟩
    have hz1 : z ∉ [b, g] ∧ z + 1 ∉ [b, g] ∧ z9 ∉ [b, g] ∧ g0 ∉ [b, g] := by simp; omega
    have HB5a := Lib.hid (K10.get HB59.out hz1.1); have HB6a := Lib.hid (K10.get HB69.out hz1.2.1); have HB9a := Lib.hid (K10.get HB99.out hz1.2.2.1)
    have HRWa := Lib.hid (HRW9.out.keep K10 (fun q hq => by have h' : g0 = q := Option.some.inj hq; rw [← h']; exact hz1.2.2.2))
    have HKa := Lib.hid (HK9.out.fresh K10 (by simp; omega))
    have HAa := Lib.hid hA10
    have c5 := cell_at HB5a.out; have c6 := cell_at HB6a.out; have f5 := frozen_at HB5a.out; have l5 := lt_of_block HB5a.out
    have hrr := ref21_roots HRWa.out HHW.out.words (Lay.mk 1 2 n) HFIT.out (by show 3 + 1 + 2 ≤ _; have := HLEN.out; omega) (by have := HLEN.out; omega) c hc
    unfold Lay.val at hrr
    dsimp only at hrr
    push_cast at hrr
    have HRR := Lib.hid hrr
    clear K10 hA10 HB59 HB69 HB99 HRW9 HA9 HK9 c9 hrr HTR
    go_wp2_with fail
    refine HRR.out.mono ?_
    rintro e w11 ⟨v11, rfl, R11, K11, F11⟩
    rw [HLEN.out] at R11
    obtain ⟨a1, cap1, rfl, -, -⟩ := R11.shape
    have hfar : ∀ q, (Value.slice a1 (6 + 33 * n) cap1).ownBlock = some q → q ≠ b ∧ q ≠ g ∧ q ≠ z := fun q hq => by
      rcases F11 q hq with h | h
      · have h' : g0 = q := Option.some.inj h
        omega
      · have h1 := hAa_lt HAa.out; have h2 := lt_of_block HB5a.out; omega
    have HB5b := Lib.hid (K11.get HB5a.out (by simp)); have HB6b := Lib.hid (K11.get HB6a.out (by simp)); have HB9b := Lib.hid (K11.get HB9a.out (by simp))
    have HKb := Lib.hid (HKa.out.trans K11)
    have HAb : Hid (∃ t la, Arn w11 b g (rootsW c ⟨1, 2, n⟩ 2 W8) t la) := by obtain ⟨t, la, h⟩ := HAa.out; exact ⟨t, la, h.keep K11 (by simp) (by simp)⟩
    have c5 := cell_at HB5b.out; have f5 := frozen_at HB5b.out; have l5 := lt_of_block HB5b.out
    have HR11 := Lib.hid R11; have HFAR := Lib.hid hfar
    clear R11 K11 F11 hfar HB5a HB6a HB9a HRWa HKa HAa c6 HRR
    go_wp2_with fail
    generalize hw12 : World.setCell _ _ _ = w12
    have K12 : Keep [z] w11 w12 := by rw [← hw12]; exact (by repeat (first | (with_reducible exact Keep.refl _ _) | (with_reducible refine Keep.drew ?_) | (with_reducible refine Keep.drewN ?_ _) | (with_reducible refine Keep.alloc ?_ _) | (with_reducible refine Keep.setCell ?_ (by first | (simp; done) | (simp; omega) | (left; dsimp only; omega)) _)))
    have hTT : TT w w12 b g z z9 n bl (rootsW c ⟨1, 2, n⟩ 2 W8) a1 cap1 := by
      refine ⟨HH1.out, ?_, ?_, HR11.out.keep K12 (fun q hq => by have := (HFAR.out q hq).2.2; simpa using this), HFAR.out, K12.get HB6b.out (by simp), K12.get HB9b.out (by simp; omega), HKb.out.fresh K12 (by simp; omega)⟩
      · obtain ⟨t, la, h⟩ := HAb.out
        exact ⟨t, la, h.keep K12 (by simp; omega) (by simp; omega)⟩
      · rw [← hw12]; exact put_at HB5b.out 0 _
    have HTT := Lib.hid hTT
    have c5 := cell_at hTT.box; have l5 := lt_of_block hTT.box
    have hsame := law21_same (rootsW c ⟨1, 2, n⟩ 2 W8) (by rw [hTT.heap.len]; omega) _ b g w12 hTT.arn (by rw [hTT.heap.len]; exact hTT.rd)
    have HSAME := Lib.hid hsame
    clear hw12 K12 HB5b HB6b HB9b HKb HAb f5 HR11 HFAR hTT hsame
    go_wp2_with fail
    refine HSAME.out.mono ?_
    rintro e w13 ⟨rfl, K13⟩
    have HT13 := Lib.hid (HTT.out.far K13)
    clear K13 HTT HSAME c5 l5
    go_wp2_with fail
    go_loopg [13] 3 (fun j v13 wr => ∃ (i : Nat) (V : List Int) (ao : Option Addr) (cap : Nat), i + j = 3 ∧ v13 = .int .i64 i ∧ TT w wr b g z z9 n bl V ao cap)
    case atStart => exact ⟨0, _, _, _, by omega, rfl, HT13.out⟩
    case round =>
      obtain ⟨i, V, ao, cap, hij, rfl, ht⟩ := hrel
      have c5 := cell_at ht.box; have c6 := cell_at ht.lay; have c9 := cell_at ht.lay9; have f5 := frozen_at ht.box; have l5 := lt_of_block ht.box
      have HT := Lib.hid ht
      clear ht
      by_cases hi3 : i < 3
      · have i1 : (i : Int) < 3 := by omega
        have hrp := ref21_pass n hnb.2 bl HB0.out V HT.out.heap hnb.1 c hc _ wr (by rw [HT.out.heap.len]; exact HT.out.rd)
        have hpass := fun (w' : World) (k : ∃ t la, Arn w' b g V t la) => trace_pass k (Lay.mk 1 2 n) HFIT.out c hc (stays_heap n hnb.2 bl HB0.out c hc) HT.out.heap
        have hho := headsOf_all ⟨1, 2, n⟩ bl HB0.out n
        unfold Lay.val at hrp hpass
        dsimp only at hrp hpass
        rw [hho] at hpass
        push_cast at hrp hpass
        rw [HT.out.heap.len] at hrp
        obtain ⟨mt, hmt⟩ : ∃ mt, mt = (passS c (allS ⟨1, 2, n⟩ bl n) V).2 := ⟨_, rfl⟩
        obtain ⟨V2, hV2⟩ : ∃ V2, V2 = (passS c (allS ⟨1, 2, n⟩ bl n) V).1 := ⟨_, rfl⟩
        rw [← hmt, ← hV2] at hrp hpass
        have HRP := Lib.hid hrp; have HPASS := Lib.hid hpass
        clear hrp hpass hho hmt hV2
        go_wp2_with fail
        refine HRP.out.mono ?_
        rintro e w14 ⟨v14, rfl, R14, K14, F14⟩
        obtain ⟨a4, cap4, rfl, -, -⟩ := R14.shape
        have HT14 := Lib.hid (HT.out.far K14)
        have hfar : ∀ q, (Value.slice a4 (6 + 33 * n) cap4).ownBlock = some q → q ≠ b ∧ q ≠ g ∧ q ≠ z := fun q hq => by
          rcases F14 q hq with h | h
          · exact HT.out.apart q h
          · have h1 := hAa_lt HT.out.arn; have h2 := lt_of_block HT.out.box; omega
        have c5 := cell_at HT14.out.box; have c9 := cell_at HT14.out.lay9; have f5 := frozen_at HT14.out.box; have l5 := lt_of_block HT14.out.box
        have HR14 := Lib.hid R14; have HFAR := Lib.hid hfar
        clear R14 K14 F14 hfar c6 HRP
        go_wp2_with fail
        generalize hw15 : World.setCell _ _ _ = w15
        have K15 : Keep [z] w14 w15 := by rw [← hw15]; exact (by repeat (first | (with_reducible exact Keep.refl _ _) | (with_reducible refine Keep.drew ?_) | (with_reducible refine Keep.drewN ?_ _) | (with_reducible refine Keep.alloc ?_ _) | (with_reducible refine Keep.setCell ?_ (by first | (simp; done) | (simp; omega) | (left; dsimp only; omega)) _)))
        have hbox : w15.heap[z]? = some (.cells #[.slice a4 (6 + 33 * n) cap4] 28 (0, 0)) := by rw [← hw15]; exact put_at HT14.out.box 0 _
        have hA15 : ∃ t la, Arn w15 b g V t la := by
          obtain ⟨t, la, h⟩ := HT14.out.arn
          exact ⟨t, la, h.keep K15 (by simp; omega) (by simp; omega)⟩
        have HBOX := Lib.hid hbox; have HK15 := Lib.hid K15; have HA15 := Lib.hid hA15
        clear hw15 K15 hbox hA15 c5 c9 f5 l5
        refine (HPASS.out w15 HA15.out).mono ?_
        rintro e w16 ⟨rfl, hA16, hH16, K16⟩
        have hzbg : z ∉ [b, g] ∧ z + 1 ∉ [b, g] ∧ z9 ∉ [b, g] := by simp; omega
        have hTT : TT w w16 b g z z9 n bl V2 a4 cap4 := by
          refine ⟨hH16, hA16, K16.get HBOX.out hzbg.1, (HR14.out.keep HK15.out (fun q hq => by have := (HFAR.out q hq).2.2; simpa using this)).keep K16 (fun q hq => by have h1 := HFAR.out q hq; simp; exact ⟨h1.1, h1.2.1⟩), HFAR.out,
            K16.get (HK15.out.get HT14.out.lay (by simp)) hzbg.2.1, K16.get (HK15.out.get HT14.out.lay9 (by simp; omega)) hzbg.2.2, (HT14.out.keep.fresh HK15.out (by simp; omega)).fresh K16 (by simp; omega)⟩
        have HTT := Lib.hid hTT
        have c5 := cell_at hTT.box; have l5 := lt_of_block hTT.box
        have hsame := law21_same V2 (by rw [hTT.heap.len]; omega) _ b g w16 hTT.arn (by rw [hTT.heap.len]; exact hTT.rd)
        have HSAME := Lib.hid hsame
        have q1 : (mt != mt) = false := by simp
        clear hA16 hH16 K16 hTT hsame HPASS HBOX HK15 HA15 HR14 HFAR HT14 HT
        go_wp2_with fail
        refine HSAME.out.mono ?_
        rintro e w17 ⟨rfl, K17⟩
        have HT17 := Lib.hid (HTT.out.far K17)
        clear K17 HTT HSAME c5 l5
        go_wp2_with fail
        go_roundg (3 - (i + 1))
        case measure => omega
        case rel => exact ⟨i + 1, _, _, _, by omega, by go_num, HT17.out⟩
      · obtain rfl : i = 3 := by omega
        go_wp2_with fail
        refine (law21_wakes _).mono ?_
        rintro e w20 ⟨rfl, K20⟩
        go_wp2_with fail
        exact hR.out _ _ ⟨rfl, HT.out.keep.trans K20⟩
end Go.Proofs.Ytnadiddaeolanaa
