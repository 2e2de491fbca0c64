/- The contract of demesneref16.Published. -/
import Derived.Test.YtnadiddaeolanaaReach16
namespace Go.Proofs.Ytnadiddaeolanaa
open Go.RowKit
set_option linter.unusedVariables false
set_option linter.unusedSimpArgs false

def pubTo (W : List Int) (c : Int) (B : List Bool) (k : Nat) : List Int := W.mapIdx fun i x => if i < k ∧ B[i]? = some true then ({ takeH x with kind := 3, colour := c, marked := false } : Hd).word else x
theorem pubTo_len (W : List Int) (c : Int) (B : List Bool) (k : Nat) : (pubTo W c B k).length = W.length := by simp [pubTo]
theorem pubTo_zero (W : List Int) (c : Int) (B : List Bool) : pubTo W c B 0 = W := by
  apply List.ext_getElem?; intro i; simp [pubTo, List.getElem?_mapIdx]
theorem pubTo_succ (W : List Int) (c : Int) (B : List Bool) (k : Nat) (hk : k < W.length) :
    pubTo W c B (k + 1) = if B[k]? = some true then (pubTo W c B k).set k ({ takeH W[k] with kind := 3, colour := c, marked := false } : Hd).word else pubTo W c B k := by
  apply List.ext_getElem?
  intro i
  have hl : k < (pubTo W c B k).length := by rw [pubTo_len]; exact hk
  split
  · rename_i h
    rw [List.getElem?_set]
    by_cases e : k = i
    · subst e
      rw [if_pos rfl, if_pos hl]
      simp [pubTo, List.getElem?_mapIdx, hk, h]
    · rw [if_neg e]
      simp only [pubTo, List.getElem?_mapIdx]
      congr 1
      funext x
      have : (i < k + 1 ∧ B[i]? = some true) ↔ (i < k ∧ B[i]? = some true) := ⟨fun h => ⟨by omega, h.2⟩, fun h => ⟨by omega, h.2⟩⟩
      simp only [this]
  · rename_i h
    simp only [pubTo, List.getElem?_mapIdx]
    congr 1
    funext x
    have : (i < k + 1 ∧ B[i]? = some true) ↔ (i < k ∧ B[i]? = some true) := ⟨fun q => ⟨by rcases Nat.lt_or_ge i k with h1 | h1; exact h1; exfalso; exact h (by rw [show k = i from by omega]; exact q.2), q.2⟩, fun h => ⟨by omega, h.2⟩⟩
    simp only [this]

theorem BRow.keep1 {w : World} {g : Nat} {B : List Bool} (h : w.heap[g]? = some (.cells (cellsB B) 4 (0, 0))) {a : Addr} (hne : g ≠ a.block) (u : Value) : BRow (w.setCell a u) g B := put_other h hne u
theorem owns_put {w : World} {base : Nat} {e : TypeId} {g n cap : Nat} {xs : List Value} (h : w.ownsRow base e 1 (.slice (some ⟨g, 0, none⟩) n cap) n xs) {k : Nat} (hk : k < n) (u : Value) :
    (w.setCell ⟨g, k, none⟩ u).ownsRow base e 1 (.slice (some ⟨g, 0, none⟩) n cap) n (xs.set k u) := by
  obtain ⟨hl, h2⟩ := h
  refine ⟨by simpa using hl, .inr ?_⟩
  rcases h2 with ⟨h2, _⟩ | ⟨g', cap', cur, hv, hb, hg, hn, hm, hs, ht⟩
  · cases h2
  · cases hv
    refine ⟨g, cap, cur.setIfInBounds k u, rfl, hb, put_at hg k u, hn, hm, by simpa using hs, ?_⟩
    rw [← ht]
    apply List.ext_getElem?
    intro j
    simp only [List.getElem?_take, Array.toList_setIfInBounds, List.getElem?_set, Nat.mul_one]
    by_cases e : k = j
    · subst e
      have hn' : n ≤ cur.size := by omega
      simp [hk, Nat.min_eq_left hn', show k < cur.size from by omega]
    · by_cases hj : j < n <;> simp [e, hj]

set_option maxRecDepth 100000 in
set_option maxHeartbeats 4000000 in
theorem ref16_published {w : World} {v0 : Value} {m : Nat} {W : List Int} (h : Rd w v0 m (u64s W)) (hm : W.length = m) (hm0 : 1 ≤ m) (hsm : m ≤ 4096) (hW : Words W) (n c : Int) (hc : 0 ≤ c ∧ c ≤ 255) :
    Calls Try.prog 24 #[v0, .int .i64 n, .int .u8 c] w fun e w' => ∃ (v : Value) (B : List Bool), e = .returned v ∧ w'.ownsRow w.heap.size 27 1 v m (u64s (pubTo W c B m)) ∧ B.length = m ∧ (∀ i : Nat, i < m → (B[i]? = some true ↔ Reach W n i)) ∧ Keep [] w w' := by
  refine calls_abs fun R hR => ?_
  obtain ⟨ao, cap, rfl, hcap, hmax⟩ := h.shape
  have H := Lib.hid h
  have HW := Lib.hid hW
  have HM := Lib.hid hm
  clear h hW
  go_enter Try.func24, Try.ntmps24
  go_wp2_with fail
  refine (ref16_reached H.out hm hsm HW.out n).mono ?_
  rintro e w1 ⟨g, B, rfl, B1, hBl, hBR, hg, K1⟩
  have HB1 := Lib.hid B1; have HBL := Lib.hid hBl; have HBR := Lib.hid hBR; have HK1 := Lib.hid K1
  have HG := Lib.hid hg
  have hr1 := H.out.keep K1 (fun _ _ => by simp)
  have HR1 := Lib.hid hr1
  clear B1 hBl hBR K1 hr1 hg
  go_wp2_with (at_builtin; go_loud (refine wpList_append_nil _ rfl _ _ _ rfl elem_u64 w1.heap.size rfl _ m (u64s W) rfl HR1.out (by rw [u64s_len]; omega) (by simp only [maxLen]; omega) (by omega) (by omega) ?_); intro ao' cap' w2 ho hg; go_loud (have hK2 : Keep [] w1 w2 := Keep.grown (Keep.refl _ _) hg (by simp); have HO2 := Lib.hid ho; have HK2 := Lib.hid hK2; clear ho hK2 hg))
  obtain ⟨q, cap2, hao, hc1, hc2, hq1, hq2, hcell, hfr⟩ := owns_some HO2.out (by omega)
  cases hao
  have HQ1 := Lib.hid hq1
  clear hq1 hq2 hcell hfr
  have hgq : g < w1.heap.size := lt_of_block HB1.out
  go_loopg [9] m (fun j iv wr => ∃ k : Nat, k + j = m ∧ iv = .int .i64 k ∧ wr.ownsRow w1.heap.size 27 1 (.slice (some ⟨q, 0, none⟩) m cap') m (u64s (pubTo W c B k)) ∧ BRow wr g B ∧ Keep [] w1 wr)
  case atStart => exact ⟨0, by omega, rfl, by rw [pubTo_zero]; exact HO2.out, HK2.out.get HB1.out (by simp), HK2.out⟩
  case round =>
    obtain ⟨k, hk, rfl, ho, hb, hkw⟩ := hrel
    have HO := Lib.hid ho; have HB := Lib.hid hb; have HKW := Lib.hid hkw
    clear ho hb hkw
    by_cases hkm : k < m
    · have k0 : (0 : Int) ≤ (k : Int) := by omega
      have k1 : (k : Int) < (m : Int) := by omega
      have hkB : k < B.length := by rw [HBL.out]; exact hkm
      have hkW : k < W.length := by rw [HM.out]; exact hkm
      have cb := HB.out.cell k hkB
      have hbk : Hid (B[k]? = some B[k]) := List.getElem?_eq_getElem hkB
      have hsucc := pubTo_succ W c B k hkW
      have HSU := Lib.hid hsucc
      clear hsucc
      generalize B[k] = bk at cb hbk
      cases bk with
      | false =>
        go_wp2_with fail
        go_roundg (m - (k + 1))
        case measure => omega
        case rel => exact ⟨k + 1, by omega, by go_num, by rw [HSU.out, hbk.out, if_neg (by simp)]; exact HO.out, HB.out, HKW.out⟩
      | true =>
        obtain ⟨b4, o4, rfl, hb4, hc4⟩ := (HR1.out.keep HKW.out (fun _ _ => by simp)).some (by rw [u64s_len]; omega)
        have e4 := hc4 k (.int .u64 W[k]) (by rw [u64s_get, List.getElem?_eq_getElem hkW]; rfl)
        have hx := HW.out k
        rw [rdz_nat hkW] at hx
        have hsu2 : Hid (pubTo W c B (k + 1) = (pubTo W c B k).set k ({ takeH W[k] with kind := 3, colour := c, marked := false } : Hd).word) := by
          have := HSU.out; rw [hbk.out, if_pos rfl] at this; exact this
        clear hc4 HSU
        generalize W[k] = x at e4 hx hsu2
        go_wp2_with fail
        refine (ref01_take x hx wr).mono ?_
        rintro e w3 ⟨rfl, K3⟩
        have hu := takeH_u8 x hx.1
        have hO3 := K3.owns HO.out (fun _ _ => by simp)
        have HO3 := Lib.hid hO3; have HB3 := Lib.hid (show BRow w3 g B from K3.get HB.out (by simp)); have HK3 := Lib.hid (HKW.out.trans K3)
        clear K3 e4 hO3
        have hwd : Hid (∀ y, y = ({ takeH x with kind := 3, colour := c, marked := false } : Hd).word → pubTo W c B (k + 1) = (pubTo W c B k).set k y) := fun y hy => by rw [hy]; exact hsu2.out
        clear hsu2
        unfold Hd.val
        generalize (if isHd x = true then (0 : Int) else 3) = er
        generalize takeH x = d at *
        obtain ⟨kind, colour, grey, marked, owner, refs, size⟩ := d
        obtain ⟨⟨u1, u2⟩, ⟨u3, u4⟩, ⟨u5, u6⟩, ⟨u7, u8⟩, ⟨u9, u10⟩⟩ := hu
        dsimp only at u1 u2 u3 u4 u5 u6 u7 u8 u9 u10 hwd ⊢
        go_wp2_with fail
        refine (ref01_word ⟨3, c, grey, false, owner, refs, size⟩ ⟨by dsimp only; omega, by dsimp only; omega, ⟨u5, u6⟩, ⟨u7, u8⟩, ⟨u9, u10⟩⟩ _).mono ?_
        rintro e w4 ⟨rfl, K4⟩
        have HK4 := Lib.hid (show Keep [] w3 w4 from Keep.trans (b := World.alloc _ _) (by repeat (first | (with_reducible exact Keep.refl _ _) | (with_reducible refine Keep.drew ?_) | (with_reducible refine Keep.drewN ?_ _) | (with_reducible refine Keep.alloc ?_ _) | (with_reducible refine Keep.setCell ?_ (by first | (simp; done) | (simp; omega) | (left; dsimp only; omega)) _))) K4)
        have ho4 := HK4.out.owns HO3.out (fun _ _ => by simp)
        obtain ⟨q', cap2', hao', hc1', hc2', hq1', hq2', hcell, hfr⟩ := owns_some ho4 (by omega)
        cases hao'
        have hpl : k < (pubTo W c B k).length := by rw [pubTo_len, HM.out]; exact hkm
        have cq := hcell k _ (by rw [u64s_get, List.getElem?_eq_getElem hpl]; rfl)
        have HO4 := Lib.hid ho4
        have hbne : ¬ q = g := by have := HQ1.out; omega
        clear hcell ho4 K4
        generalize (pubTo W c B k)[k] = old at cq
        have hwy := hwd.out _ rfl
        have HWY := Lib.hid hwy
        clear hwy hwd
        generalize (Hd.mk 3 c grey false owner refs size).word = y at *
        go_wp2_with fail
        go_roundg (m - (k + 1))
        case measure => omega
        case rel =>
          refine ⟨k + 1, by omega, by go_num, ?_, BRow.keep1 (HK4.out.get HB3.out (by simp)) (fun e => hbne e.symm) _, ?_⟩
          · rw [HWY.out, show u64s ((pubTo W c B k).set k y) = (u64s (pubTo W c B k)).set k (.int .u64 y) from by simp [u64s, List.map_set]]
            exact owns_put HO4.out hkm _
          · exact (HK3.out.trans HK4.out).setCell (.inl HQ1.out) _
    · have hke : k = m := by omega
      go_wp2_with fail
      exact hR.out _ _ ⟨_, B, rfl, by have := owns_base HO.out HK1.out.size; rw [hke] at this; exact this, HBL.out, HBR.out, HK1.out.trans HKW.out⟩
end Go.Proofs.Ytnadiddaeolanaa
