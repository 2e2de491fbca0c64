/- The contract of demesneref07's Drop. -/
import Derived.Test.YtgdbccficcgbdaaRef07c
namespace Go.Proofs.Ytgdbccficcgbdaa
open Go.RowKit Go.Shelf
set_option linter.unusedVariables false
set_option linter.unusedSimpArgs false

def dropTo (lo hi : Int) (R : Nat → List Int) (k : Nat) : Nat → List Int := fun c => if c < k then left lo hi (R c) else R c
theorem dropTo_succ (lo hi : Int) (R : Nat → List Int) (k : Nat) : dropTo lo hi R (k + 1) = upd (dropTo lo hi R k) k (left lo hi (R k)) := by
  funext c
  unfold dropTo upd
  by_cases e : c = k
  · subst e; simp
  · rw [if_neg e]
    by_cases h : c < k
    · simp [h, show c < k + 1 from by omega]
    · simp [h, show ¬ c < k + 1 from by omega]
theorem dropTo_at (lo hi : Int) (R : Nat → List Int) (k : Nat) : dropTo lo hi R k k = R k := by simp [dropTo]

set_option maxRecDepth 100000 in
set_option maxHeartbeats 4000000 in
theorem ref07_drop {w : World} {U : Nat → Value} {R : Nat → List Int} (h : RL w U R) (hl4 : Lo4 w U) (hs : total R ≤ 100000) (lo hi : Int) :
    Calls Try.prog 58 #[rlVal U, .int .i64 lo, .int .i64 hi] w fun e w' => ∃ U', e = .returned (.tuple #[rlVal U', .int .i64 ((total R - total (fun c => left lo hi (R c)) : Nat) : Int)]) ∧ RL w' U' (fun c => left lo hi (R c)) ∧ Keep [] w w' ∧ Fresh4 w w' U U' := by
  refine calls_abs fun R' hR => ?_
  have H := Lib.hid h
  obtain ⟨a0, q0, a1, q1, a2, q2, a3, q3, hu0, hu1, hu2, hu3⟩ := h.shapes2
  have hU : (#[Value.slice a0 (R 0).length q0, .slice a1 (R 1).length q1, .slice a2 (R 2).length q2, .slice a3 (R 3).length q3] : Array Value) = #[U 0, U 1, U 2, U 3] := by rw [hu0, hu1, hu2, hu3]
  clear h hu0 hu1 hu2 hu3
  unfold rlVal
  rw [← hU]
  go_enter Try.func58, Try.ntmps58
  go_wp2_with fail
  rw [hU]
  obtain ⟨z, hz⟩ : ∃ z, z = w.heap.size := ⟨_, rfl⟩
  simp only [← hz]
  generalize hw1 : World.alloc (World.alloc w _) _ = w1
  have hb1 : w1.heap[z]? = some (.cells #[U 0, U 1, U 2, U 3] 93 (0, 0)) := by rw [← hw1]; exact alloc_keeps (alloc_new w _ _ hz) _
  have hb2 : w1.heap[z + 1]? = some (.cells #[.slice none 0 0, .slice none 0 0, .slice none 0 0, .slice none 0 0] 93 (0, 0)) := by rw [← hw1]; exact alloc_new (w.alloc _) _ _ (by simp [hz])
  have K1 : Keep [] w w1 := by rw [← hw1]; exact (by repeat (first | (with_reducible exact Keep.refl _ _) | (with_reducible refine Keep.drew ?_) | (with_reducible refine Keep.drewN ?_ _) | (with_reducible refine Keep.alloc ?_ _) | (with_reducible refine Keep.setCell ?_ (by first | (simp; done) | (simp; omega) | (left; dsimp only; omega)) _)))
  have hzw : w.heap.size ≤ z := by omega
  have HZ := Lib.hid hz
  clear hw1 hU hz
  have HB1 := Lib.hid hb1; have HB2 := Lib.hid hb2; have HK1 := Lib.hid K1
  clear hb1 hb2 K1
  go_loopg [8, 9] 4 (fun j nn i wr => ∃ (k : Nat) (Uk : Nat → Value), k + j = 4 ∧ i = .int .i64 k ∧ nn = .int .i64 ((total R - total (dropTo lo hi R k) : Nat) : Int) ∧ total (dropTo lo hi R k) ≤ total R ∧ wr.heap[z]? = some (.cells #[Uk 0, Uk 1, Uk 2, Uk 3] 93 (0, 0)) ∧
    wr.heap[z + 1]? = some (.cells #[.slice none 0 0, .slice none 0 0, .slice none 0 0, .slice none 0 0] 93 (0, 0)) ∧ RL wr Uk (dropTo lo hi R k) ∧ Fresh4 w wr U Uk ∧ (∀ c g, c < 4 → (Uk c).ownBlock = some g → g ≠ z ∧ g ≠ z + 1) ∧ Keep [] w wr)
  case atStart =>
    refine ⟨0, U, by omega, rfl, ?_, by simp [dropTo, total], HB1.out, HB2.out, ?_, Fresh4.refl _ _ _, fun c g hc hg => ?_, HK1.out⟩
    · simp [dropTo, total]
    · have := H.out.keep0 HK1.out
      exact fun c hc => by simpa [dropTo] using this c hc
    · have := hl4 c g hc hg; omega
  case round =>
    obtain ⟨k, Uk, hk, rfl, rfl, htle, hbz, hbz1, hrl, hfr, hne, hkw⟩ := hrel
    obtain ⟨W0, rfl⟩ : ∃ W0, W0 = wr := ⟨wr, rfl⟩
    have HBZ := Lib.hid hbz; have HBZ1 := Lib.hid hbz1; have HRL := Lib.hid hrl; have HFR := Lib.hid hfr; have HNE := Lib.hid hne; have HKW := Lib.hid hkw
    clear hbz hbz1 hrl hfr hne hkw
    by_cases hk4 : k < 4
    · have i0 : (k : Int) < 4 := by omega
      have i1 : (0 : Int) ≤ (k : Int) := by omega
      have hrk := HRL.out k hk4
      rw [dropTo_at] at hrk
      obtain ⟨ao, cap, hv, hcap, hmax⟩ := hrk.shape
      have hcell : W0.cell? ⟨z, k, none⟩ = some (.slice ao (R k).length cap) := by rw [cell_at HBZ.out, box4 hk4, hv]
      rw [hv] at hrk
      have HRK := Lib.hid hrk; have HV := Lib.hid hv; have HCE := Lib.hid hcell
      clear hrk hv hcell
      have hlen := total_row R k hk4
      have htu := total_upd (dropTo lo hi R k) k hk4 (left lo hi (R k))
      rw [dropTo_at, ← dropTo_succ] at htu
      generalize hN : total R - total (dropTo lo hi R k) = N at *
      go_wp2_with fail
      go_loopg [8, 10, 11] (R k).length (fun j nn lf i wz => ∃ p : Nat, p + j = (R k).length ∧ i = .int .i64 p ∧ (left lo hi ((R k).take p)).length ≤ p ∧ nn = .int .i64 ((N + (p - (left lo hi ((R k).take p)).length) : Nat) : Int) ∧
        wz.ownsRow W0.heap.size 3 1 lf (left lo hi ((R k).take p)).length (ints (left lo hi ((R k).take p))) ∧ Keep [] W0 wz)
      case atStart => exact ⟨0, by omega, rfl, by simp [left], by simp [left], World.ownsRow_nil _ _ _ _, Keep.refl _ _⟩
      case round =>
        obtain ⟨p, hp, rfl, hlp, rfl, hown, hkz⟩ := hrel
        have HOW := Lib.hid hown; have HKZ := Lib.hid hkz
        have hcell := HKZ.out.cell HCE.out (by simp)
        have hsh := owns_val hown
        clear hown hkz
        obtain ⟨al, cl, rfl, hcl, hml⟩ := hsh
        by_cases hpl : p < (R k).length
        · obtain ⟨b4, o4, rfl, hb4, hc4⟩ := (HRK.out.keep HKZ.out (fun _ _ => by simp)).some (by rw [ints_len]; omega)
          have e4 := hc4 p (.int .i64 (R k)[p]) (by rw [ints_get]; simp [hpl])
          have j0 : (0 : Int) ≤ (p : Int) := by omega
          have j1 : (p : Int) < ((R k).length : Int) := by omega
          have hsucc := left_take_succ (lo := lo) (hi := hi) hpl
          have HSU := Lib.hid hsucc
          have HC4 := Lib.hid hc4
          clear hc4 hsucc
          generalize hy : (R k)[p] = y at e4 HSU
          generalize hQ : (left lo hi ((R k).take p)).length = q at *
          have hpq : p - q + q = p := by omega
          generalize hM : N + (p - q) = M at *
          have hM1 : M < 1000000 := by omega
          cases hbt : btw lo hi y with
          | true =>
            have hb2 : lo ≤ y ∧ y < hi := by simpa [btw] using hbt
            obtain ⟨t1, t2⟩ := hb2
            clear hbt
            go_wp2_with fail
            go_roundg ((R k).length - (p + 1))
            case measure => omega
            case rel =>
              have hs2 := HSU.out
              rw [show btw lo hi y = true from by simp [btw, t1, t2], if_pos rfl] at hs2
              refine ⟨p + 1, by omega, by go_num, by rw [hs2, hQ]; omega, ?_, ?_, HKZ.out⟩
              · rw [hs2, hQ, show N + (p + 1 - q) = M + 1 from by omega]; go_num
              · rw [hs2, hQ]; exact HOW.out
          | false =>
            have hs2 : Hid (left lo hi ((R k).take (p + 1)) = left lo hi ((R k).take p) ++ [y]) := by
              have hs2 := HSU.out
              rwa [hbt, if_neg (by simp)] at hs2
            have hq2 : Hid (wr.ownsRow W0.heap.size 3 1 (.slice al q cl) q (ints (left lo hi ((R k).take p)))) := HOW.out
            have hb2 : lo ≤ y → ¬ y < hi := fun h1 h2 => by simp [btw, h1, h2] at hbt
            have hsz := HKZ.out.size
            clear hbt
            by_cases t1 : lo ≤ y
            · have t2 := hb2 t1
              clear hb2
              go_wp2_with (at_builtin; go_loud (refine wpList_append_rd _ rfl _ _ _ rfl elem_int W0.heap.size (.slice al q cl) q (ints (left lo hi ((R k).take p))) rfl (((by repeat (first | (with_reducible exact Keep.refl _ _) | (with_reducible refine Keep.drew ?_) | (with_reducible refine Keep.drewN ?_ _) | (with_reducible refine Keep.alloc ?_ _) | (with_reducible refine Keep.setCell ?_ (by first | (simp; done) | (simp; omega) | (left; dsimp only; omega)) _))) : Keep [] wr _).owns hq2.out (fun _ _ => by simp)) _ 1 [.int .i64 y] rfl (Rd.lit _ _ _ rfl) (by simp) (by simp only [maxLen]; omega) (by omega) (by simp; omega) ?_); intro ao' cap' w3 ho hg; go_loud (have hK3 : Keep [] W0 w3 := Keep.grown (w := wr.alloc _) (by repeat (first | (with_reducible exact HKZ.out) | (with_reducible refine Keep.drew ?_) | (with_reducible refine Keep.drewN ?_ _) | (with_reducible refine Keep.alloc ?_ _) | (with_reducible refine Keep.setCell ?_ (by first | (simp; done) | (simp; omega) | (left; dsimp only; omega)) _))) hg (fun g hg => .inl (owns_block hq2.out g hg).1); have HW := Lib.hid ho; have HK3 := Lib.hid hK3; clear ho hK3 hg))
              go_roundg ((R k).length - (p + 1))
              case measure => omega
              case rel =>
                have hl2 : (left lo hi ((R k).take p) ++ [y]).length = q + 1 := by simp [hQ]
                refine ⟨p + 1, by omega, by go_num, by rw [hs2.out, hl2]; omega, ?_, ?_, HK3.out⟩
                · rw [hs2.out, hl2, show N + (p + 1 - (q + 1)) = M from by omega]
                · rw [hs2.out, hl2]
                  have := HW.out
                  simpa [ints] using this
            · clear hb2
              go_wp2_with (at_builtin; go_loud (refine wpList_append_rd _ rfl _ _ _ rfl elem_int W0.heap.size (.slice al q cl) q (ints (left lo hi ((R k).take p))) rfl (((by repeat (first | (with_reducible exact Keep.refl _ _) | (with_reducible refine Keep.drew ?_) | (with_reducible refine Keep.drewN ?_ _) | (with_reducible refine Keep.alloc ?_ _) | (with_reducible refine Keep.setCell ?_ (by first | (simp; done) | (simp; omega) | (left; dsimp only; omega)) _))) : Keep [] wr _).owns hq2.out (fun _ _ => by simp)) _ 1 [.int .i64 y] rfl (Rd.lit _ _ _ rfl) (by simp) (by simp only [maxLen]; omega) (by omega) (by simp; omega) ?_); intro ao' cap' w3 ho hg; go_loud (have hK3 : Keep [] W0 w3 := Keep.grown (w := wr.alloc _) (by repeat (first | (with_reducible exact HKZ.out) | (with_reducible refine Keep.drew ?_) | (with_reducible refine Keep.drewN ?_ _) | (with_reducible refine Keep.alloc ?_ _) | (with_reducible refine Keep.setCell ?_ (by first | (simp; done) | (simp; omega) | (left; dsimp only; omega)) _))) hg (fun g hg => .inl (owns_block hq2.out g hg).1); have HW := Lib.hid ho; have HK3 := Lib.hid hK3; clear ho hK3 hg))
              go_roundg ((R k).length - (p + 1))
              case measure => omega
              case rel =>
                have hl2 : (left lo hi ((R k).take p) ++ [y]).length = q + 1 := by simp [hQ]
                refine ⟨p + 1, by omega, by go_num, by rw [hs2.out, hl2]; omega, ?_, ?_, HK3.out⟩
                · rw [hs2.out, hl2, show N + (p + 1 - (q + 1)) = M from by omega]
                · rw [hs2.out, hl2]
                  have := HW.out
                  simpa [ints] using this
        · have hpe : p = (R k).length := by omega
          have htake : (R k).take p = R k := by rw [hpe]; exact List.take_length
          have how := HOW.out
          rw [htake] at how hlp ⊢
          have HOW2 := Lib.hid how
          have hle := left_len_le lo hi (R k)
          have hnn : total R - total (dropTo lo hi R (k + 1)) = N + (p - (left lo hi (R k)).length) := by omega
          clear how HOW
          have hzz := HKZ.out.get HBZ.out (by simp)
          have hzz1 := HKZ.out.get HBZ1.out (by simp)
          have fz := frozen_at hzz
          have hzlt := lt_of_block HBZ1.out
          have HZZ := Lib.hid hzz; have HZZ1 := Lib.hid hzz1
          clear hzz hzz1
          go_wp2_with fail
          go_roundg (4 - (k + 1))
          case measure => omega
          case rel =>
            refine ⟨k + 1, upd Uk k (.slice al (left lo hi (R k)).length cl), by omega, by go_num, ?_, by omega, ?_, ?_, ?_, fun c g hc hg => ?_, fun c g hc hg => ?_, ?_⟩
            · rw [hnn]
            · rw [put_at HZZ.out, put4 hk4]
            · exact put_other HZZ1.out (by simp) _
            · rw [dropTo_succ]
              refine RL.keep (S := [z]) ((HRL.out.keep0 HKZ.out).upd k _ (left lo hi (R k)) (Rd.of_owns HOW2.out (by simp [ints, Value.oneCell']))) (by repeat (first | (with_reducible exact Keep.refl _ _) | (with_reducible refine Keep.drew ?_) | (with_reducible refine Keep.drewN ?_ _) | (with_reducible refine Keep.alloc ?_ _) | (with_reducible refine Keep.setCell ?_ (by first | (simp; done) | (simp; omega) | (left; dsimp only; omega)) _))) (fun c g hc hg => ?_)
              by_cases e : c = k
              · subst e
                rw [upd_same] at hg
                have := owns_block HOW2.out g hg
                simp; omega
              · rw [upd_other _ _ _ _ e] at hg
                have := HNE.out c g hc hg
                simp; omega
            · by_cases e : c = k
              · subst e
                rw [upd_same] at hg
                have := owns_block HOW2.out g hg
                have := HKW.out.size
                exact .inr (by simp; omega)
              · rw [upd_other _ _ _ _ e] at hg
                rcases HFR.out c g hc hg with h | h
                · exact .inl h
                · exact .inr (by have := HKZ.out.size; simp; omega)
            · by_cases e : c = k
              · subst e
                rw [upd_same] at hg
                have := owns_block HOW2.out g hg
                omega
              · rw [upd_other _ _ _ _ e] at hg
                exact HNE.out c g hc hg
            · have hk2 := HKW.out.trans HKZ.out
              ((repeat (first | (with_reducible exact hk2) | (with_reducible refine Keep.drew ?_) | (with_reducible refine Keep.drewN ?_ _) | (with_reducible refine Keep.alloc ?_ _) | ((with_reducible refine Keep.setCell ?_ ?_ _); rotate_left; focus (first | (simp; done) | (simp; omega) | (left; dsimp only; omega))))); done)
    · obtain rfl : k = 4 := by omega
      obtain ⟨a0, q0, a1, q1, a2, q2, a3, q3, hu0, hu1, hu2, hu3⟩ := HRL.out.shapes2
      have hU : Hid ((#[Uk 0, Uk 1, Uk 2, Uk 3] : Array Value) = #[Value.slice a0 (dropTo lo hi R 4 0).length q0, .slice a1 (dropTo lo hi R 4 1).length q1, .slice a2 (dropTo lo hi R 4 2).length q2, .slice a3 (dropTo lo hi R 4 3).length q3]) := by rw [hu0, hu1, hu2, hu3]; rfl
      clear hu0 hu1 hu2 hu3
      have hzz := HBZ.out
      rw [hU.out] at hzz
      have cz := cell_at hzz
      have cz1 := cell_at HBZ1.out
      have fz1 := frozen_at HBZ1.out
      have hfin : dropTo lo hi R 4 = fun c => if c < 4 then left lo hi (R c) else R c := rfl
      have htot : total (dropTo lo hi R 4) = total (fun c => left lo hi (R c)) := by simp [total, dropTo]
      clear hzz hfin
      generalize hN : total R - total (dropTo lo hi R 4) = N at *
      go_wp2_with fail
      refine bodyPost_ret (v := .tuple #[rlVal Uk, .int .i64 N]) ?_ rfl ?_
      · simp [rlVal, hU.out, results, Try.results58, go_sem, cz1]
      refine hR.out _ _ ⟨Uk, by rw [← htot, hN], ?_, ?_, fun c g hc hg => ?_⟩
      · intro c hc
        have h1 := HRL.out c hc
        rw [show dropTo lo hi R 4 c = left lo hi (R c) from by simp [dropTo, hc]] at h1
        exact h1.keep (S := [z + 1]) (by repeat (first | (with_reducible exact Keep.refl _ _) | (with_reducible refine Keep.drew ?_) | (with_reducible refine Keep.drewN ?_ _) | (with_reducible refine Keep.alloc ?_ _) | (with_reducible refine Keep.setCell ?_ (by first | (simp; done) | (simp; omega) | (left; dsimp only; omega)) _))) (fun g hg => by have := HNE.out c g hc hg; simp; omega)
      · have hk2 := HKW.out
        ((repeat (first | (with_reducible exact hk2) | (with_reducible refine Keep.drew ?_) | (with_reducible refine Keep.drewN ?_ _) | (with_reducible refine Keep.alloc ?_ _) | ((with_reducible refine Keep.setCell ?_ ?_ _); rotate_left; focus (first | (simp; done) | (simp; omega) | (left; dsimp only; omega))))); done)
      · rcases HFR.out c g hc hg with h | h
        · exact .inl h
        · exact .inr (by simp; omega)
end Go.Proofs.Ytgdbccficcgbdaa
