/- What trace's passes do to words: contracts of into, Roots. -/
import Derived.Test.YtnadiddaeolanaaTrace
import Derived.Test.YtnadiddaeolanaaWordsPut
namespace Go.Proofs.Ytnadiddaeolanaa
open Go.RowKit
set_option linter.unusedVariables false
set_option linter.unusedSimpArgs false

theorem word_bd {h : Hd} (hu : h.u8) (hm : h.may = true) : 0 ≤ h.word ∧ h.word < 18446744073709551616 := by
  obtain ⟨b1, b2, b3, b4, b5⟩ := Hd.may_bounds hm
  obtain ⟨h1, h2, h3, h4, h5⟩ := hu
  unfold Hd.word
  split <;> split <;> omega
theorem turned_bd (x c : Int) (g : Bool) (hx : 0 ≤ x) (hc : 0 ≤ c ∧ c ≤ 255) : 0 ≤ turnedOf x c g ∧ turnedOf x c g < 18446744073709551616 := by
  unfold turnedOf
  split
  · rename_i hm; exact word_bd (turnedH_u8 x c g hx hc) hm
  · decide
theorem shaded_bd (x c : Int) (hx : 0 ≤ x ∧ x < 18446744073709551616) (hc : 0 ≤ c ∧ c ≤ 255) : 0 ≤ shadeOf x c ∧ shadeOf x c < 18446744073709551616 := by
  unfold shadeOf
  split
  · exact turned_bd x c true hx.1 hc
  · exact hx
theorem black_bd (x : Int) (hx : 0 ≤ x ∧ x < 18446744073709551616) : 0 ≤ blackOf x ∧ blackOf x < 18446744073709551616 := by
  unfold blackOf
  split
  · exact turned_bd x _ false hx.1 (by have := (hdOf_u8 x hx.1).2.1; exact this)
  · exact hx
theorem tell_high (x c : Int) (hc : 1 < c) : tellOf x c = 0 := by unfold tellOf; rw [if_neg (by omega)]
theorem shade_high (x c : Int) (hc : 1 < c) : shadeOf x c = x := by unfold shadeOf; rw [tell_high x c hc, if_neg (by decide)]
theorem refs_bd (x : Int) (hx : 0 ≤ x) : 0 ≤ (takeH x).refs ∧ (takeH x).refs ≤ 127 := by
  unfold takeH
  split
  · simp only [hdOf]; omega
  · simp [Hd.zero]

/-- All words behind shading what lies at a place. -/
def shadeW (W : List Int) (v c : Int) : List Int := putz W v (shadeOf (rdz W v) c)
theorem shadeW_len (W : List Int) (v c : Int) : (shadeW W v c).length = W.length := putz_length _ _ _
theorem shadeW_words {W : List Int} (hW : Words W) (v c : Int) (hc : 0 ≤ c ∧ c ≤ 255) : Words (shadeW W v c) := hW.put _ _ (shaded_bd _ c (hW v) hc)
theorem shadeW_wrap (W : List Int) (v c : Int) (hv : 0 ≤ v ∧ v < 18446744073709551616) (hl : W.length ≤ 4096) : shadeW W (wrap64 v) c = shadeW W v c := by
  by_cases h : v < 9223372036854775808
  · have : wrap64 v = v := by unfold wrap64; omega
    rw [this]
  · have h1 : inr W.length (wrap64 v) = false := by unfold inr wrap64; simp; omega
    have h2 : inr W.length v = false := by unfold inr; simp; omega
    simp [shadeW, putz, h1, h2]
theorem shade_any {w : World} {b g : Nat} {W : List Int} (h : ∃ t la, Arn w b g W t la) (hW : Words W) (n c : Int) (hc : 0 ≤ c) :
    Calls Try.prog 19 #[.iface 25 (.pointer (some ⟨b, 0, none⟩)), .int .i64 n, .int .u8 c] w fun e w' => (∃ r, e = .returned (.bool r)) ∧ (∃ t la, Arn w' b g (shadeW W n c) t la) ∧ Keep [b, g] w w' := by
  obtain ⟨t, la, h⟩ := h
  by_cases h1 : c ≤ 1
  · refine (shade_shade h hW n c hc h1).mono ?_
    rintro e w' ⟨rfl, A, K⟩
    exact ⟨⟨_, rfl⟩, ⟨_, _, A⟩, K⟩
  · refine (shade_shade_high (.pointer (some ⟨b, 0, none⟩)) n c (by omega) w).mono ?_
    rintro e w' ⟨rfl, K⟩
    refine ⟨⟨_, rfl⟩, ⟨t, la, ?_⟩, K.mono (by simp)⟩
    unfold shadeW
    rw [shade_high _ c (by omega), putz_rdz]
    exact h.keep K (by simp) (by simp)

/-- One field that is looked at. -/
def lookW (c a : Int) (W : List Int) (i : Nat) : List Int := if rdz W (a + 1 + i) = 0 then W else shadeW W (rdz W (a + 1 + i)) c
def looksW (c a : Int) (m : Nat) (W : List Int) : List Int := (List.range m).foldl (lookW c a) W
theorem looksW_succ (c a : Int) (m : Nat) (W : List Int) : looksW c a (m + 1) W = lookW c a (looksW c a m W) m := by
  unfold looksW; rw [List.range_succ, List.foldl_append]; rfl
theorem lookW_len (c a : Int) (W : List Int) (i : Nat) : (lookW c a W i).length = W.length := by unfold lookW; split; rfl; exact shadeW_len _ _ _
theorem looksW_len (c a : Int) (m : Nat) (W : List Int) : (looksW c a m W).length = W.length := by
  induction m with
  | zero => rfl
  | succ m ih => rw [looksW_succ, lookW_len, ih]
theorem lookW_words {W : List Int} (hW : Words W) (c a : Int) (i : Nat) (hc : 0 ≤ c ∧ c ≤ 255) : Words (lookW c a W i) := by unfold lookW; split; exact hW; exact shadeW_words hW _ c hc
theorem looksW_words {W : List Int} (hW : Words W) (c a : Int) (m : Nat) (hc : 0 ≤ c ∧ c ≤ 255) : Words (looksW c a m W) := by
  induction m with
  | zero => exact hW
  | succ m ih => rw [looksW_succ]; exact lookW_words ih c a m hc
/-- What stands behind looking into the object at a. -/
def intoW (c : Int) (W : List Int) (a : Int) : List Int := putz (looksW c a (takeH (rdz W a)).refs.toNat W) a (blackOf (rdz (looksW c a (takeH (rdz W a)).refs.toNat W) a))
theorem intoW_words {W : List Int} (hW : Words W) (c a : Int) (hc : 0 ≤ c ∧ c ≤ 255) : Words (intoW c W a) := (looksW_words hW c a _ hc).put _ _ (black_bd _ (looksW_words hW c a _ hc a))
theorem intoW_len (W : List Int) (c a : Int) : (intoW c W a).length = W.length := by unfold intoW; rw [putz_length, looksW_len]

set_option maxRecDepth 100000 in
set_option maxHeartbeats 4000000 in
theorem trace_into {w : World} {b g : Nat} {W : List Int} (h : ∃ t la, Arn w b g W t la) (hW : Words W) (a c : Int) (ha : 0 ≤ a ∧ a ≤ 5000) (hc : 0 ≤ c ∧ c ≤ 255) :
    Calls Try.prog 112 #[.iface 25 (.pointer (some ⟨b, 0, none⟩)), .int .i64 a, .int .u64 (rdz W a), .int .u8 c] w fun e w' => e = .returned (.tuple #[]) ∧ (∃ t la, Arn w' b g (intoW c W a) t la) ∧ Keep [b, g] w w' := by
  refine calls_abs fun R hR => ?_
  have hinr := mem_read
  simp [go_sem] at hinr
  have hx := hW a
  have H := Lib.hid h; have HWW := Lib.hid hW
  have lbg : b < w.heap.size ∧ g < w.heap.size := by obtain ⟨t, la, h⟩ := h; exact ⟨lt_of_block h.head, lt_of_block h.row⟩
  have HLB := Lib.hid lbg
  have hsm : W.length ≤ 4096 := by obtain ⟨t, la, h⟩ := h; exact h.small
  have HSM := Lib.hid hsm
  clear hsm
  have htk := fun w => word_take (rdz W a) hx w
  have hrf := refs_bd (rdz W a) hx.1
  have hm : ∃ m : Nat, (takeH (rdz W a)).refs = m ∧ m ≤ 127 ∧ intoW c W a = putz (looksW c a m W) a (blackOf (rdz (looksW c a m W) a)) := ⟨(takeH (rdz W a)).refs.toNat, by omega, by omega, rfl⟩
  clear h hW lbg
  generalize intoW c W a = WF at *
  generalize rdz W a = x at *
  obtain ⟨m, hm1, hm2, hm3⟩ := hm
  have HM3 := Lib.hid hm3
  clear hm3
  obtain ⟨er, her⟩ : ∃ er : Int, er = if isHd x then 0 else 3 := ⟨_, rfl⟩
  rw [← her] at htk
  clear her
  generalize takeH x = d at *
  obtain ⟨dk, dc, dg, dm, dow, dr, ds⟩ := d
  dsimp only at hm1
  subst hm1
  unfold Hd.val at htk
  dsimp only at htk
  have HTK := Lib.hid htk
  clear htk hrf
  go_enter Try.func112, Try.ntmps112
  go_wp2_with fail
  refine (HTK.out w).mono ?_
  rintro e w1 ⟨rfl, K1⟩
  have HA1 : Hid (∃ t la, Arn w1 b g W t la) := by obtain ⟨t, la, h⟩ := H.out; exact ⟨t, la, h.keep K1 (by simp) (by simp)⟩
  have HK1 := Lib.hid K1
  clear K1
  go_wp2_with fail
  obtain ⟨z, hz⟩ : ∃ z, z = w1.heap.size := ⟨_, rfl⟩
  simp only [← hz]
  generalize hw2 : World.alloc w1 _ = w2
  have b2 : w2.heap[z]? = some (.cells #[.int .u8 dk, .int .u8 dc, .bool dg, .bool dm, .int .u8 dow, .int .u8 m, .int .u8 ds] 100 (0, 0)) := by rw [← hw2]; exact alloc_new _ _ _ hz
  have K2 : Keep [] w1 w2 := by rw [← hw2]; exact (by repeat (first | (with_reducible exact Keep.refl _ _) | (with_reducible refine Keep.drew ?_) | (with_reducible refine Keep.drewN ?_ _) | (with_reducible refine Keep.alloc ?_ _) | (with_reducible refine Keep.setCell ?_ (by first | (simp; done) | (simp; omega) | (left; dsimp only; omega)) _)))
  have c2 := cell_at b2
  have HA2 : Hid (∃ t la, Arn w2 b g W t la) := by obtain ⟨t, la, h⟩ := HA1.out; exact ⟨t, la, h.keep K2 (by simp) (by simp)⟩
  have HK2 := Lib.hid (HK1.out.trans K2)
  have hw127 : IntKind.i64.wrap (m : Int) = m := by rw [IntKind.wrap_i64]; omega
  clear hw2 hz b2 K2
  go_wp2_with fail
  go_loopg [20] m (fun j i wr => ∃ q : Nat, q + j = m ∧ i = .int .i64 q ∧ (∃ t la, Arn wr b g (looksW c a q W) t la) ∧ Keep [b, g] w wr)
  case atStart => exact ⟨0, by omega, rfl, HA2.out, HK2.out.mono (by simp)⟩
  case round =>
    obtain ⟨q, hqj, rfl, hA, hK⟩ := hrel
    have hwq := looksW_words HWW.out c a q hc
    have hlq := looksW_len c a q W
    have hsu := looksW_succ c a q W
    unfold lookW at hsu
    have HSU := Lib.hid hsu; have HWQ := Lib.hid hwq; have HLQ := Lib.hid hlq; have HKQ := Lib.hid hK; have HAQ := Lib.hid hA
    clear hA hK hwq hlq hsu
    by_cases hqm : q < m
    · have i1 : (q : Int) < m := by omega
      have w1' : IntKind.i64.wrap (a + 1) = a + 1 := by rw [IntKind.wrap_i64]; omega
      have w2' : IntKind.i64.wrap (a + 1 + q) = a + 1 + q := by rw [IntKind.wrap_i64]; omega
      generalize looksW c a q W = V at *
      obtain ⟨t, la, hA⟩ := HAQ.out
      have hrd := arena_read_any hA (a + 1 + q)
      have hxb := HWQ.out (a + 1 + q)
      have hVl : V.length ≤ 4096 := by rw [HLQ.out]; exact HSM.out
      have HRD := Lib.hid hrd
      have HVL := Lib.hid hVl
      clear hA hrd hVl
      generalize rdz V (a + 1 + q) = y at *
      go_wp2_with fail
      refine HRD.out.mono ?_
      rintro e w5 ⟨rfl, A5, K5⟩
      have HA5 : Hid (∃ t la, Arn w5 b g V t la) := ⟨_, _, A5⟩
      have HK5 := Lib.hid (HKQ.out.trans K5)
      clear A5 K5
      by_cases hv : y = 0
      · have hv1 : (y == 0) = true := by simp [hv]
        have hs2 : Hid (looksW c a (q + 1) W = V) := by have := HSU.out; rwa [if_pos hv] at this
        subst hv
        go_wp2_with fail
        go_roundg (m - (q + 1))
        case measure => omega
        case rel => exact ⟨q + 1, by omega, by go_num, by rw [hs2.out]; exact HA5.out, HK5.out⟩
      · have hv1 : (y == 0) = false := by simp [hv]
        have hv2 : (y != 0) = true := by simp [hv]
        have hs2 : Hid (looksW c a (q + 1) W = shadeW V (wrap64 y) c) := by have := HSU.out; rw [if_neg hv, ← shadeW_wrap V y c hxb HVL.out] at this; exact this
        clear hv
        go_wp2_with fail
        refine (shade_any HA5.out HWQ.out (wrap64 y) c hc.1).mono ?_
        rintro e w6 ⟨⟨r, rfl⟩, A6, K6⟩
        have HA6 := Lib.hid A6; have HK6 := Lib.hid (HK5.out.trans K6)
        clear A6 K6
        go_wp2_with fail
        go_roundg (m - (q + 1))
        case measure => omega
        case rel => exact ⟨q + 1, by omega, by go_num, by rw [hs2.out]; exact HA6.out, HK6.out⟩
    · obtain rfl : q = m := by omega
      generalize looksW c a q W = V at *
      obtain ⟨t, la, hA⟩ := HAQ.out
      have hbl := shade_blacken hA HWQ.out a
      rw [← HM3.out] at hbl
      have HBL := Lib.hid hbl
      clear hbl hA
      go_wp2_with fail
      refine HBL.out.mono ?_
      rintro e w6 ⟨rfl, A6, K6⟩
      have HK6 := Lib.hid (HKQ.out.trans K6)
      have HA6 : Hid (∃ t la, Arn w6 b g WF t la) := ⟨_, _, A6⟩
      clear A6 K6
      go_wp2_with fail
      refine bodyPost_end (v := .tuple #[]) ?_ rfl ?_
      · kernel_rfl
      exact hR.out _ _ ⟨rfl, HA6.out, HK6.out⟩
end Go.Proofs.Ytnadiddaeolanaa
