/- The walk of PublishTells. -/
import Derived.Test.YtnadiddaeolanaaShp16
import Derived.Test.YtnadiddaeolanaaOpenTh
import Derived.Test.YtnadiddaeolanaaBulk
import Derived.WalkSmall
namespace Go.Proofs.Ytnadiddaeolanaa
open Go.RowKit Go.ChangeShapes Go.WideShapes
set_option linter.unusedVariables false
set_option linter.unusedSimpArgs false

set_option maxRecDepth 100000 in
theorem law16_place_any (n : Int) (hn : 0 ≤ n ∧ n ≤ 255) (w : World) :
    Calls Try.prog 22 #[.int .i64 n] w fun e w' => e = .returned (.int .i64 (4 * n - 3)) ∧ w' = w := by
  refine calls_abs fun R hR => ?_
  go_enter Try.func22, Try.ntmps22
  go_wp2_with fail
  exact hR.out _ _ ⟨by simp, rfl⟩

theorem pub_none (c : Int) (W : List Int) (n : Int) (h : isLoc (rdz W n) = false) : turnWs W n c = W ∧ turnQ W [] n = [] := by
  refine ⟨?_, by simp [turnQ, h]⟩
  unfold turnWs turnW
  rw [h]; simp [putz_rdz]

set_option maxRecDepth 100000 in
set_option maxHeartbeats 4000000 in
theorem publish_tells_law {w : World} {v0 : Value} {l : List Th} (h : Ths w v0 l) (hl : l.length ≤ 1048576) (n c : Int) (hn : 0 ≤ n ∧ n ≤ 255) (hc : 0 ≤ c ∧ c ≤ 255) :
    Calls Try.prog 5 #[v0, .int .u8 n, .int .u8 c] w fun e w' => e = .returned (.bool true) ∧ Keep [] w w' := by
  refine calls_abs fun R hR => ?_
  obtain ⟨ao, cap, rfl, _, _⟩ := h.rd.shape
  have H := Lib.hid h
  clear h
  have hsh := @shp_words l H.out.ok
  have HSH := Lib.hid hsh
  clear hsh
  generalize hL : l.length = m at *
  have HL := Lib.hid hL
  clear hL
  go_enter Try.func5, Try.ntmps5
  go_wp2_with fail
  have hW := law16_words H.out (by rw [HL.out]; exact hl)
  refine hW.mono ?_
  clear hW
  rintro e w1 ⟨v1, rfl, K1, hown⟩
  have HOWN := Lib.hid hown; have HK1 := Lib.hid K1
  clear K1 hown
  cases hok : okAll l with
  | false =>
    go_wp2_with fail
    refine (law16_wakes w1).mono ?_
    rintro e w2 ⟨rfl, K2⟩
    go_wp2_with fail
    exact hR.out _ _ ⟨rfl, HK1.out.trans K2⟩
  | true =>
    by_cases h20 : 20 < m
    · have j1 : (20 : Int) < (m : Int) := by omega
      go_wp2_with fail
      refine (law16_wakes w1).mono ?_
      rintro e w2 ⟨rfl, K2⟩
      go_wp2_with fail
      exact hR.out _ _ ⟨rfl, HK1.out.trans K2⟩
    have j1 : ¬ (20 : Int) < (m : Int) := by omega
    by_cases h1 : m < 1
    · have j2 : (m : Int) < 1 := by omega
      go_wp2_with fail
      refine (law16_wakes w1).mono ?_
      rintro e w2 ⟨rfl, K2⟩
      go_wp2_with fail
      exact hR.out _ _ ⟨rfl, HK1.out.trans K2⟩
    have j2 : ¬ (m : Int) < 1 := by omega
    have hlen := wordsOf_len l
    rw [HL.out] at hlen
    have hs := HSH.out hok (by omega)
    have ho := HOWN.out hok
    clear hok HOWN HSH
    have HS := Lib.hid hs; have HO := Lib.hid ho
    clear hs ho
    generalize hWW : wordsOf l = W at *
    clear hWW
    obtain ⟨s, hsl⟩ : ∃ s, W.length = s := ⟨_, rfl⟩
    have HSL := Lib.hid hsl
    rw [hsl] at HO hlen
    have HLEN := Lib.hid hlen
    have hs1 : 1 ≤ s := by omega
    have hs2 : s ≤ 81 := by omega
    clear hsl hlen
    obtain ⟨a1, c1, rfl, hc1, hmx⟩ := owns_val HO.out
    have HRD := Lib.hid (Rd.of_owns HO.out (by simp [u64s, Value.oneCell']))
    have hb1 := owns_block HO.out
    have HB1 := Lib.hid hb1
    clear hb1
    go_wp2_with fail
    refine (law16_made HRD.out HSL.out (by omega) (by omega)).mono ?_
    rintro e w3 ⟨b, g, t, la, rfl, A3, K3, hb, hg⟩
    have HA3 := Lib.hid A3; have HK3 := Lib.hid (HK1.out.trans K3)
    have HRD3 := Lib.hid (HRD.out.keep K3 (fun _ _ => by simp))
    have hbl := lt_of_block A3.head
    have hgl := lt_of_block A3.row
    have HBG : Hid (w.heap.size ≤ b ∧ w.heap.size ≤ g ∧ w1.heap.size ≤ b ∧ w1.heap.size ≤ g) := by have := HK1.out.size; exact ⟨by omega, by omega, by omega, by omega⟩
    clear A3 K3 hb hg
    go_wp2_with fail
    refine (law16_place_any n hn w3).mono ?_
    rintro e w3' ⟨rfl, hw3⟩
    subst hw3
    go_wp2_with fail
    refine (arena_touched HA3.out).mono ?_
    rintro e w3'' ⟨rfl, hw3⟩
    subst hw3
    go_wp2_with fail
    generalize hw4 : World.alloc _ _ = w4
    obtain ⟨k, hk⟩ : ∃ k, k = w3''.heap.size := ⟨_, rfl⟩
    simp only [← hk] at hbl hgl ⊢
    have b4 : w4.heap[k]? = some (.cells #[.slice none 0 0] 22 (0, 0)) := by rw [← hw4, hk]; exact alloc_new _ _ _ rfl
    have K4 : Keep [] w3'' w4 := by rw [← hw4]; exact (by repeat (first | (with_reducible exact Keep.refl _ _) | (with_reducible refine Keep.drew ?_) | (with_reducible refine Keep.drewN ?_ _) | (with_reducible refine Keep.alloc ?_ _) | (with_reducible refine Keep.setCell ?_ (by first | (simp; done) | (simp; omega) | (left; dsimp only; omega)) _)))
    have hs4 : w4.heap.size = k + 1 := by rw [← hw4, hk]; simp
    have HK := Lib.hid hk
    clear hw4 hk
    have HK4 := Lib.hid (HK3.out.trans K4)
    have HRD4 := Lib.hid (HRD3.out.keep K4 (fun _ _ => by simp))
    have hP : Pub w4 b g k (k + 1) (.slice none 0 0) W [] := ⟨⟨t, la, HA3.out.keep K4 (by simp) (by simp)⟩, HS.out.words, b4, Offs.nil _ _ _, by omega, by omega⟩
    have HA4 := Lib.hid (HA3.out.keep K4 (by simp) (by simp))
    have HP := Lib.hid hP
    have HB4 := Lib.hid b4
    have hkl := lt_of_block b4
    have hn4 : (4 * n - 3) % 4 = 1 := by omega
    have HN4 := Lib.hid hn4
    have HS4 := Lib.hid hs4
    have hkw : Hid (w.heap.size ≤ k) := by have := HK3.out.size; have := HK.out; exact (by omega : w.heap.size ≤ k)
    clear hP b4 K4 hn4 hs4
    by_cases hc1 : c ≤ 1
    · have hc2 : c < 2 := by omega
      refine (publish_publish HP.out c ⟨hc.1, hc1⟩ (4 * n - 3) (by have := HS4.out; omega)).mono ?_
      rintro e w5 ⟨v5, W5, rfl, P5, hto, hl5, PK5⟩
      obtain ⟨⟨t5, l5, A5⟩, hW5, hk5, ho5, _, _⟩ := P5
      have hv5 : ∃ ao cap, v5 = .slice ao 0 cap := by obtain ⟨ao, cap, h, _⟩ := ho5.shape; exact ⟨ao, cap, h⟩
      obtain ⟨ao5, cap5, rfl⟩ := hv5
      have HA5 := Lib.hid A5
      have HK5 : Hid (Keep [] w w5) := HK4.out.fresh PK5.1 (by have := HBG.out; have := hkw.out; simp [Value.ownBlock]; omega)
      have HRD5 := Lib.hid (HRD4.out.keep PK5.1 (fun x hx => by
        have h1 := HB1.out x hx
        have h2 := HBG.out
        have h3 := HK.out
        have h4 := hbl; have h5 := hgl
        simp [Value.ownBlock]
        omega))
      have HP5 := Lib.hid hk5
      have HTO := Lib.hid hto
      clear A5 hW5 hk5 ho5 hto PK5
      go_wp2_with fail
      refine (ref16_published HRD5.out HSL.out (by omega) (by omega) HS.out.words (4 * n - 3) c hc).mono ?_
      rintro e w6 ⟨v6, B, rfl, hO6, hBl, hBR, K6⟩
      have hW5 : W5 = pubTo W c B s := by
        have := publish_plain HS.out HN4.out ⟨hc.1, hc1⟩ HTO.out (by rw [hBl, HSL.out]) (fun i hi => hBR i (by rw [HSL.out] at hi; exact hi))
        rwa [HSL.out] at this
      obtain ⟨a6, c6, rfl, _, _⟩ := owns_val hO6
      have hR6 := Rd.of_owns hO6 (by simp [u64s, Value.oneCell'])
      rw [← hW5] at hR6
      have HR6 := Lib.hid hR6; have HK6 := Lib.hid (HK5.out.trans K6); have HP6 := Lib.hid (K6.get HP5.out (by simp)); have HA6 := Lib.hid (HA5.out.keep K6 (by simp) (by simp))
      have c6 := cell_at HP6.out
      have l6 := lt_of_block HP6.out
      clear hR6 hO6 hBl hBR K6 hW5
      go_wp2_with fail
      refine (law16_same HA6.out HR6.out (by rw [hl5]; exact HSL.out)).mono ?_
      rintro e w7 ⟨rfl, K7⟩
      rw [show decide (W5 = W5) = true from by simp]
      have HK7 := Lib.hid (HK6.out.trans K7)
      clear K7 c6
      go_wp2_with fail
      refine (law16_wakes w7).mono ?_
      rintro e w8 ⟨rfl, K8⟩
      go_wp2_with fail
      exact hR.out _ _ ⟨rfl, HK7.out.trans K8⟩
    · have hc2 : ¬ c < 2 := by omega
      refine (publish_no_colour (4 * n - 3) c (by omega) _ _ w4).mono ?_
      rintro e w5 ⟨rfl, hw5⟩
      subst hw5
      have c4 := cell_at HB4.out
      go_wp2_with fail
      refine (arena_touched HA4.out).mono ?_
      rintro e w6 ⟨rfl, hw6⟩
      subst hw6
      go_wp2_with fail
      refine (law16_same HA4.out HRD4.out HSL.out).mono ?_
      rintro e w7 ⟨rfl, K7⟩
      rw [show decide (W = W) = true from by simp]
      have HK7 := Lib.hid (HK4.out.trans K7)
      clear K7 c4
      go_wp2_with fail
      refine (law16_wakes w7).mono ?_
      rintro e w8 ⟨rfl, K8⟩
      go_wp2_with fail
      exact hR.out _ _ ⟨rfl, HK7.out.trans K8⟩

set_option maxRecDepth 100000 in
theorem lawPublishTells_walk {H : Type} {enc : TypeId × Value → H} {base : Nat} (W : World) {v0 v1 v2 : Value} {d0 d1 d2 : DataW H} {p0 p1 p2 : List MemPlace}
    (ok0 : Value.okWide Try.prog W .any base 34 v0) (h0 : DataW.Trod enc Try.prog W 0 (fun _ => true) true 34 v0 d0 p0)
    (ok1 : Value.okWide Try.prog W .any base 5 v1) (h1 : DataW.Trod enc Try.prog W 0 (fun _ => true) true 5 v1 d1 p1)
    (ok2 : Value.okWide Try.prog W .any base 5 v2) (h2 : DataW.Trod enc Try.prog W 0 (fun _ => true) true 5 v2 d2 p2)
    (hk : Rows.uptoSmall H [d0, d1, d2] = true) :
    Calls Try.prog 5 #[v0, v1, v2] W fun e w' => e = .returned (.bool true) ∧ Below W.heap.size W w' := by
  obtain ⟨a1, rfl, rfl, rfl, w1⟩ := open_int Try.underlying5 ok1 h1
  obtain ⟨a2, rfl, rfl, rfl, w2⟩ := open_int Try.underlying5 ok2 h2
  obtain ⟨ao, len, cap, rfl⟩ := okWide_slice Try.underlying34 ok0
  have hlen := bulks.slice_len Try.underlying34 h0 hk (by simp)
  obtain ⟨fuel, h0⟩ := h0
  rw [show (Value.slice ao len cap).cells = #[.slice ao len cap] from rfl] at h0
  obtain ⟨⟨v, l⟩, hv, hrd, hu, _⟩ := opens_things _ _ _ h0
  simp at hv
  subst hv
  dsimp only at hrd hu
  obtain ⟨rfl, _⟩ := hrd.len
  refine (publish_tells_law ⟨hrd, hu⟩ hlen a1 a2 (lit_wf_u8 w1) (lit_wf_u8 w2)).mono ?_
  rintro e w' ⟨rfl, K⟩
  exact ⟨rfl, K.below (Nat.le_refl _) (by simp)⟩
end Go.Proofs.Ytnadiddaeolanaa
