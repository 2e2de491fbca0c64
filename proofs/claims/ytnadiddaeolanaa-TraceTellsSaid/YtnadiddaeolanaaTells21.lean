/- The walker of TraceTells. -/
import Derived.Test.YtnadiddaeolanaaRef21c
namespace Go.Proofs.Ytnadiddaeolanaa
open Go.RowKit
set_option linter.unusedVariables false
set_option linter.unusedSimpArgs false

/-- Does the next one fit? -/
def fitsB (hs : List Int) (ok : Bool) (m : Nat) (a : Int) : Bool := ok && (decide (m < hs.length) && hs.getD m 0 == a)
theorem okP_snoc : ∀ (pre hs : List Int) (a : Int), (pre ++ [a]).isPrefixOf hs = fitsB hs (pre.isPrefixOf hs) pre.length a
  | [], [], a => by simp [fitsB, List.isPrefixOf]
  | [], h :: hs, a => by simp [fitsB, List.isPrefixOf, BEq.comm]
  | p :: pre, [], a => by simp [fitsB, List.isPrefixOf]
  | p :: pre, h :: hs, a => by
    have ih := okP_snoc pre hs a
    simp only [fitsB, List.cons_append, List.isPrefixOf, List.length_cons, List.getD_cons_succ, Nat.add_lt_add_iff_right] at ih ⊢
    rw [ih, Bool.and_assoc]
theorem okP_len (pre hs : List Int) (h : pre.isPrefixOf hs = true) : pre.length ≤ hs.length := (List.isPrefixOf_iff_prefix.1 h).length_le
theorem wrap64_sm (m : Nat) (h : m ≤ 1000) : wrap64 (m : Int) = (m : Int) := by unfold wrap64; omega
theorem wrap64_smn (m : Nat) (h : m ≤ 1000) : wrap64 ((m + 1 : Nat) : Int) = (m : Int) + 1 := by unfold wrap64; omega
theorem wrap64_incT (n : Nat) : wrap64 (wrap64 (n : Int) + 1) = wrap64 ((n + 1 : Nat) : Int) := by unfold wrap64; omega

set_option maxRecDepth 100000 in
set_option maxHeartbeats 8000000 in
theorem tells_fn (n : Nat) (hn : n ≤ 6) (W : List Int) (hl : 1 ≤ W.length ∧ W.length ≤ 4096) (hs : List Int) (hsl : hs.length ≤ 1000) (A : Nat) (hA : A < W.length) (k : Nat) (er eo ec : Int) (st : Int) (hst : (Lay.mk 1 2 n).start k = st) (hsb : 0 ≤ st ∧ st ≤ 4000) (ha : st ≤ A ∧ (A : Int) < st + 32)
    (ok : Bool) (m : Nat) (hm : ok = true → m ≤ hs.length) (pk pn ph pw pp : Nat) (hd : pk ≠ pn ∧ ph ≠ pk ∧ ph ≠ pn ∧ pw ≠ pk ∧ pw ≠ pn ∧ pp ≠ pk ∧ pp ≠ pn) (vh vw : Value) (w : World)
    (h1 : w.heap[pk]? = some (.cells #[.bool ok] 4 (0, 0))) (h2 : w.heap[pn]? = some (.cells #[.int .i64 (wrap64 m)] 3 (0, 0))) (h3 : w.heap[ph]? = some (.cells #[vh] 22 (0, 0))) (h4 : w.heap[pw]? = some (.cells #[vw] 28 (0, 0)))
    (h5 : w.heap[pp]? = some (.cells #[.int .i64 1, .int .i64 2, .int .i64 n] 53 (0, 0))) (hrh : Rd w vh hs.length (intsV hs)) (hrw : Rd w vw W.length (u64s W)) :
    Calls Try.prog 64 #[.int .i64 A, .int .i64 k, .agg #[.int .u8 1, .int .u8 ec, .int .u8 er, .int .u8 eo], .int .u64 (rdz W A), .pointer (some ⟨pk, 0, none⟩), .pointer (some ⟨pn, 0, none⟩), .pointer (some ⟨ph, 0, none⟩), .pointer (some ⟨pw, 0, none⟩), .pointer (some ⟨pp, 0, none⟩)] w fun x w' =>
      x = .returned (.tuple #[]) ∧ w'.heap[pk]? = some (.cells #[.bool (fitsB hs ok m A)] 4 (0, 0)) ∧ w'.heap[pn]? = some (.cells #[.int .i64 (wrap64 (m + 1 : Nat))] 3 (0, 0)) ∧ Keep [pk, pn] w w' := by
  refine calls_abs fun R hR => ?_
  obtain ⟨aoh, caph, rfl, hch1, hch2⟩ := hrh.shape
  obtain ⟨aow, capw, rfl, hcw1, hcw2⟩ := hrw.shape
  have hwi := wrap64_next
  have c1 := cell_at h1; have c2 := cell_at h2; have c3 := cell_at h3; have c4 := cell_at h4; have c5 := cell_at h5
  have f1 := frozen_at h1; have f2 := frozen_at h2; have l1 := lt_of_block h1; have l2 := lt_of_block h2; have l3 := lt_of_block h3; have l4 := lt_of_block h4; have l5 := lt_of_block h5
  have H1 := Lib.hid h1; have H2 := Lib.hid h2; have H3 := Lib.hid h3; have H4 := Lib.hid h4; have H5 := Lib.hid h5; have HH := Lib.hid hrh; have HW := Lib.hid hrw
  clear h1 h2 h3 h4 h5 hrh hrw hwi
  cases ok with
  | false =>
    have hf : fitsB hs false m A = false := rfl
    rw [hf] at hR
    go_enter Try.func64, Try.ntmps64
    go_wp2_with fail
    refine bodyPost_end (v := .tuple #[]) ?_ rfl ?_
    · kernel_rfl
    rw [wrap64_incT m]
    refine hR.out _ _ ⟨rfl, ?_, ?_, ?_⟩
    · refine alloc_keeps (put_other (a := ⟨pn, 0, none⟩) (put_at H1.out 0 _) ?_ _) _
      exact hd.1
    · refine alloc_keeps (put_at (put_other (a := ⟨pk, 0, none⟩) H2.out ?_ _) 0 _) _
      exact fun e => hd.1 e.symm
    · ((repeat (first | (with_reducible exact Keep.refl _ _) | (with_reducible refine Keep.drew ?_) | (with_reducible refine Keep.drewN ?_ _) | (with_reducible refine Keep.alloc ?_ _) | ((with_reducible refine Keep.setCell ?_ ?_ _); rotate_left; focus (first | (simp; done) | (simp; omega) | (left; dsimp only; omega))))); done)
  | true =>
    have hm := hm rfl
    have hms : m ≤ 1000 := by omega
    have i0 : (0 : Int) ≤ (m : Int) := by omega
    have i1 : (m : Int) ≤ 1000 := by omega
    have a0 : (0 : Int) ≤ (A : Int) := by omega
    have a1 : (A : Int) < W.length := by omega
    have hmw := wrap64_sm m hms
    have hwm := wrap64_smn m hms
    rw [hmw] at c2
    rw [hwm] at hR
    rw [hmw] at H2
    have HWMN := Lib.hid hwm
    clear hmw hwm
    by_cases hlt : m < hs.length
    · have hcell0 : hs[m]? = some (hs.getD m 0) := by rw [List.getD_eq_getElem?_getD, List.getElem?_eq_getElem hlt]; rfl
      obtain ⟨gh, oh, rfl, hghl, hghc⟩ := HH.out.some (by rw [intsV_len]; omega)
      have hch := hghc m _ (by rw [intsV_get, hcell0]; rfl)
      have hf : fitsB hs true m A = (hs.getD m 0 == (A : Int)) := by simp [fitsB, hlt]
      rw [hf] at hR
      have j1 : (m : Int) < hs.length := by omega
      have j2 : decide ((m : Int) < hs.length) = true := by simpa using hlt
      clear hcell0 hghc hf
      generalize hs.getD m 0 = x at *
      have HHS := Lib.hid hsl
      have HM := Lib.hid hm
      by_cases hx : x = A
      · subst hx
        have q0 : ((A : Int) == (A : Int)) = true := by simp
        rw [q0] at hR
        obtain ⟨gw, ow, rfl, hgwl, hgwc⟩ := HW.out.some (by rw [u64s_len]; omega)
        have hrd : rdz W A = W.getD A 0 := by rw [rdz_nat hA, List.getD_eq_getElem?_getD, List.getElem?_eq_getElem hA]; rfl
        have hcw := hgwc A (.int .u64 (rdz W A)) (by rw [hrd]; simp [u64s, hA])
        generalize rdz W A = y at *
        have hstc := fun w => layout_start ⟨1, 2, n⟩ ⟨by show (1 : Nat) ≤ 64; omega, by show (2 : Nat) ≤ 8; omega, by show n ≤ 64; omega⟩ k w
        rw [hst] at hstc
        unfold Lay.val at hstc
        dsimp only at hstc
        push_cast at hstc
        have HST := Lib.hid hstc
        have s1 : decide (st ≤ (A : Int)) = true := by simp; omega
        have s2 : decide ((A : Int) < st + 32) = true := by simp; omega
        have sw : IntKind.i64.wrap (st + 32) = st + 32 := by rw [IntKind.wrap_i64]; omega
        have HCW := Lib.hid hcw; have HCH := Lib.hid hch
        have D5 := Lib.hid c5
        clear hstc hgwc hrd hst q0
        go_enter Try.func64, Try.ntmps64
        go_wp2_with fail
        refine (HST.out _).mono ?_
        rintro e w2 ⟨rfl, K2⟩
        have hk2 : Keep [] w w2 := by refine Keep.trans ?_ K2; ((repeat (first | (with_reducible exact Keep.refl _ _) | (with_reducible refine Keep.drew ?_) | (with_reducible refine Keep.drewN ?_ _) | (with_reducible refine Keep.alloc ?_ _) | ((with_reducible refine Keep.setCell ?_ ?_ _); rotate_left; focus (first | (simp; done) | (simp; omega) | (left; dsimp only; omega))))); done)
        have b1 := hk2.get H1.out (by simp); have b2 := hk2.get H2.out (by simp); have b3 := hk2.get H3.out (by simp); have b4 := hk2.get H4.out (by simp); have b5 := hk2.get H5.out (by simp)
        have be := K2.get (alloc_new w (.cells #[.int .u8 1, .int .u8 ec, .int .u8 er, .int .u8 eo] 74) _ rfl) (by simp)
        have c1 := cell_at b1; have c2 := cell_at b2; have c3 := cell_at b3; have c4 := cell_at b4; have c5 := cell_at b5; have ce := cell_at be
        have f1 := frozen_at b1; have f2 := frozen_at b2; have l1 := lt_of_block b1; have l2 := lt_of_block b2
        have hcw := hk2.cell HCW.out (by simp); have hch := hk2.cell HCH.out (by simp)
        have HB1 := Lib.hid b1; have HB2 := Lib.hid b2; have HK2 := Lib.hid hk2; have HB5 := Lib.hid b5; have HBE := Lib.hid be
        clear b1 b2 b3 b4 b5 be K2 hk2
        go_wp2_with fail
        refine (HST.out _).mono ?_
        rintro e w3 ⟨rfl, K3⟩
        have hk3 : Keep [] w w3 := HK2.out.trans K3
        have b1 := hk3.get H1.out (by simp); have b2 := hk3.get H2.out (by simp); have b5 := hk3.get H5.out (by simp); have be := K3.get HBE.out (by simp)
        have c1 := cell_at b1; have c2 := cell_at b2; have c5 := cell_at b5; have ce := cell_at be
        have f1 := frozen_at b1; have f2 := frozen_at b2; have l1 := lt_of_block b1; have l2 := lt_of_block b2
        have HB1 := Lib.hid b1; have HB2 := Lib.hid b2; have HK3 := Lib.hid hk3
        clear b1 b2 b5 be K3 hk3
        go_wp2_with fail
        refine bodyPost_end (v := .tuple #[]) ?_ rfl ?_
        · kernel_rfl
        refine hR.out _ _ ⟨rfl, ?_, ?_, ?_⟩
        · refine put_other (a := ⟨pn, 0, none⟩) (put_at HB1.out 0 _) ?_ _
          exact hd.1
        · refine put_at (put_other (a := ⟨pk, 0, none⟩) HB2.out ?_ _) 0 _
          exact fun e => hd.1 e.symm
        · ((repeat (first | (with_reducible exact HK3.out.mono (by simp)) | (with_reducible refine Keep.drew ?_) | (with_reducible refine Keep.drewN ?_ _) | (with_reducible refine Keep.alloc ?_ _) | ((with_reducible refine Keep.setCell ?_ ?_ _); rotate_left; focus (first | (simp; done) | (simp; omega) | (left; dsimp only; omega))))); done)
      · have q0 : (x == (A : Int)) = false := by simpa using hx
        have q1 : ((A : Int) == x) = false := by rw [BEq.comm]; exact q0
        rw [q0] at hR
        go_enter Try.func64, Try.ntmps64
        go_wp2_with fail
        refine bodyPost_end (v := .tuple #[]) ?_ rfl ?_
        · kernel_rfl
        refine hR.out _ _ ⟨rfl, ?_, ?_, ?_⟩
        · refine alloc_keeps (put_other (a := ⟨pn, 0, none⟩) (put_at H1.out 0 _) ?_ _) _
          exact hd.1
        · refine alloc_keeps (put_at (put_other (a := ⟨pk, 0, none⟩) H2.out ?_ _) 0 _) _
          exact fun e => hd.1 e.symm
        · ((repeat (first | (with_reducible exact Keep.refl _ _) | (with_reducible refine Keep.drew ?_) | (with_reducible refine Keep.drewN ?_ _) | (with_reducible refine Keep.alloc ?_ _) | ((with_reducible refine Keep.setCell ?_ ?_ _); rotate_left; focus (first | (simp; done) | (simp; omega) | (left; dsimp only; omega))))); done)
    · obtain rfl : m = hs.length := by omega
      have hf : fitsB hs true hs.length A = false := by simp [fitsB]
      rw [hf] at hR
      clear hlt hf
      have HS := Lib.hid hsl; have HM := Lib.hid hm
      clear hm
      go_enter Try.func64, Try.ntmps64
      go_wp2_with fail
      refine bodyPost_end (v := .tuple #[]) ?_ rfl ?_
      · kernel_rfl
      refine hR.out _ _ ⟨rfl, ?_, ?_, ?_⟩
      · refine alloc_keeps (put_other (a := ⟨pn, 0, none⟩) (put_at H1.out 0 _) ?_ _) _
        exact hd.1
      · refine alloc_keeps (put_at (put_other (a := ⟨pk, 0, none⟩) H2.out ?_ _) 0 _) _
        exact fun e => hd.1 e.symm
      · ((repeat (first | (with_reducible exact Keep.refl _ _) | (with_reducible refine Keep.drew ?_) | (with_reducible refine Keep.drewN ?_ _) | (with_reducible refine Keep.alloc ?_ _) | ((with_reducible refine Keep.setCell ?_ ?_ _); rotate_left; focus (first | (simp; done) | (simp; omega) | (left; dsimp only; omega))))); done)
end Go.Proofs.Ytnadiddaeolanaa
