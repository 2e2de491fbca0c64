/- The walk of ArenaLast. -/
import Derived.Test.YtgdbccficcgbdaaArenaLaw
import Derived.Test.YtgdbccficcgbdaaMapU
import Derived.Test.YtgdbccficcgbdaaOpen2
import Derived.WalkSmall
import Derived.BigQuiet
import Derived.OpenShut
import Derived.Deep.LoopGhost
import Derived.Deep.DeepCutAuto
import Derived.Deep.CutBlock
import Derived.Deep.RegionHeld3
import Derived.Deep.DrawnRows
namespace Go.Proofs.Ytgdbccficcgbdaa
open Go.RowKit Go.ChangeShapes Go.WideShapes
attribute [local go_sem ↓] Go.wp_at_zero Go.wp_at_succ
set_option linter.unusedVariables false
set_option linter.unusedSimpArgs false

theorem arena_last_fn (x v : Int) (d a : Int) (q : Nat) (w : World)
    (hq : w.heap[q]? = some (.cells #[.int .u8 d, .int .i64 a, .int .u64 v] 54 (0, 0))) :
    Calls Try.prog 37 #[.int .u64 x, .pointer (some ⟨q, 0, none⟩)] w fun e w' => e = .returned (.int .u64 (bits BinOp.xor IntKind.u64 x v)) ∧ w' = w := by
  refine calls_abs fun R hR => ?_
  have c2 := cell_at hq
  clear hq
  go_enter Try.func37, Try.ntmps37
  go_wp2
  exact hR.out _ _ ⟨rfl, rfl⟩

theorem rdz_putz (W : List Int) (a v j : Int) : rdz (putz W a v) j = if inr W.length a = true ∧ j = a then v else rdz W j := by
  cases hi : inr W.length a with
  | false => simp [putz, hi]
  | true =>
    obtain ⟨i, rfl, hlt⟩ := inr_true hi
    rw [putz_nat hlt]
    by_cases e : j = i
    · subst e
      rw [rdz_nat (by simpa using hlt)]
      simp
    · simp only [e, and_false, if_false]
      unfold rdz
      rw [List.length_set]
      cases hj : inr W.length j with
      | false => simp
      | true =>
        obtain ⟨q, rfl, hq⟩ := inr_true hj
        have : ¬ i = q := fun h => e (by rw [h])
        simp [List.getElem?_set, this]

/-- What stands behind an act: the arena at b, g; the map at c. -/
def LastAt (w : World) (b g c m k : Nat) (wr : World) : Prop :=
  ∃ (W : List Int) (t l : Int), W.length = m ∧ Arn wr b g W t l ∧ OwnM wr c k (fun j => rdz W j) ∧ (∀ j : Int, (Lit.int .u64 (rdz W j)).wf = true) ∧ Keep [] w wr

set_option maxRecDepth 100000 in
set_option maxHeartbeats 4000000 in
theorem arena_last_law (words : Int) (ao : Option Addr) (n cap : Nat) (F : Nat → Nat → Int) (w : World) (h0 : 0 ≤ words) (h1 : words ≤ 65535)
    (hA : Recs w (.slice ao n cap) n [.u8, .i64, .u64] F) : Calls Try.prog 8 #[.int .u16 words, .slice ao n cap] w fun e w' => e = .returned (.bool true) ∧ Below w.heap.size w w' := by
  refine calls_abs fun R hR => ?_
  have HA := Lib.hid hA
  have hnm : n ≤ 9223372036854775807 := by
    obtain ⟨cs, hr, _⟩ := hA
    obtain ⟨_, _, hv, h1, h2, _⟩ := hr
    simp only [maxLen] at h2
    omega
  clear hA
  by_cases hbig : 100 < n
  · have hb1 : (100 : Int) < (n : Int) := by omega
    go_enter Try.func8, Try.ntmps8
    go_wp2_with (go_at_call 24; refine (arena_wakes _).mono ?_; rintro e w' ⟨rfl, hk⟩)
    exact hR.out _ _ ⟨rfl, hk.below (Nat.le_refl _) (by simp)⟩
  have hb1 : ¬ (100 : Int) < (n : Int) := by omega
  by_cases hlow : words < 1
  · go_enter Try.func8, Try.ntmps8
    go_wp2_with (go_at_call 24; refine (arena_wakes _).mono ?_; rintro e w' ⟨rfl, hk⟩)
    exact hR.out _ _ ⟨rfl, hk.below (Nat.le_refl _) (by simp)⟩
  by_cases hhigh : 300 < words
  · go_enter Try.func8, Try.ntmps8
    go_wp2_with (go_at_call 24; refine (arena_wakes _).mono ?_; rintro e w' ⟨rfl, hk⟩)
    exact hR.out _ _ ⟨rfl, hk.below (Nat.le_refl _) (by simp)⟩
  obtain ⟨m, rfl⟩ : ∃ m : Nat, words = m := ⟨words.toNat, by omega⟩
  have hmm := @run_makeMap Try.prog
  go_enter Try.func8, Try.ntmps8
  go_wp2_with fail
  refine Calls.mono (arena_new m m rfl (by omega) (by omega) _) ?_
  rintro e w1 ⟨b, g, rfl, A1, K1, hb, hg⟩
  have hbl := lt_of_block A1.head
  have hgl := lt_of_block A1.row
  have HA1 := Lib.hid A1; have HK1 := Lib.hid K1; clear A1 K1
  go_wp2_with fail
  have hc1 : w.heap.size ≤ w1.heap.size := HK1.out.size
  have hA0 : LastAt w b g w1.heap.size m 0 (w1.alloc (.map #[] 0)) := by
    refine ⟨List.replicate m 0, 0, -1, by simp, HA1.out.keep (S := []) (by repeat (first | (with_reducible exact Keep.refl _ _) | (with_reducible refine Keep.drew ?_) | (with_reducible refine Keep.drewN ?_ _) | (with_reducible refine Keep.alloc ?_ _) | (with_reducible refine Keep.setCell ?_ (by first | (simp; done) | (simp; omega) | (left; dsimp only; omega)) _))) (by simp) (by simp), (OwnM.made w1).congr (fun k hk => ?_), fun j => ?_, HK1.out.trans (by repeat (first | (with_reducible exact Keep.refl _ _) | (with_reducible refine Keep.drew ?_) | (with_reducible refine Keep.drewN ?_ _) | (with_reducible refine Keep.alloc ?_ _) | (with_reducible refine Keep.setCell ?_ (by first | (simp; done) | (simp; omega) | (left; dsimp only; omega)) _)))⟩
    · cases hi : inr (List.replicate m (0 : Int)).length k with
      | false => rw [rdz_out hi]
      | true => obtain ⟨i, rfl, hlt⟩ := inr_true hi; rw [rdz_nat hlt]; simp
    · cases hi : inr (List.replicate m (0 : Int)).length j with
      | false => rw [rdz_out hi]; decide
      | true => obtain ⟨i, rfl, hlt⟩ := inr_true hi; rw [rdz_nat hlt]; simp; decide
  have HA0 := Lib.hid hA0; clear hA0
  have HB := Lib.hid hb; have HG := Lib.hid hg; have HBL := Lib.hid hbl; have HGL := Lib.hid hgl
  go_loopg [8] n (fun j i wr => ∃ k : Nat, k + j = n ∧ i = .int .i64 k ∧ LastAt w b g w1.heap.size m k wr)
  case atStart => exact ⟨0, by omega, rfl, HA0.out⟩
  case round =>
    obtain ⟨k, hkj, rfl, hP⟩ := hrel
    have HP := Lib.hid hP; clear hP
    by_cases hkn : k < n
    · obtain ⟨ab, aof, rfl, hab, hcells⟩ := HA.out.cell hkn (by simp)
      obtain ⟨W, t, l, hW, hAr, hM, hwf, hKw⟩ := HP.out
      have d0 := hKw.cell (hcells 0 .u8 rfl).1 (by simp)
      have d1 := hKw.cell (hcells 1 .i64 rfl).1 (by simp)
      have d2 := hKw.cell (hcells 2 .u64 rfl).1 (by simp)
      have wf1 := (hcells 1 .i64 rfl).2
      have wf2 := (hcells 2 .u64 rfl).2
      simp only [Nat.add_zero, List.length_cons, List.length_nil, ← Nat.add_assoc] at d0 d1 d2
      clear hcells
      have HW := Lib.hid hW; have HAr := Lib.hid hAr; have HM := Lib.hid hM; have HWF := Lib.hid hwf; have HKW := Lib.hid hKw
      have WF1 := Lib.hid wf1; have WF2 := Lib.hid wf2
      have lc := hM.lt
      have lb := lt_of_block hAr.head
      have lg := lt_of_block hAr.row
      clear hW hAr hM hwf hKw wf1 wf2
      go_upto_region 11 with (fail)
      go_cut [10] (fun th wx => th = .bool (inr m (F k 1)) ∧ wx.heap[wr.heap.size]? = some (.cells #[.int .u8 (F k 0), .int .i64 (F k 1), .int .u64 (F k 2)] 54 (0, 0)) ∧ Keep [] wr wx)
      case first =>
        by_cases q0 : F k 1 < 0
        · have q1 : ¬ 0 ≤ F k 1 := by omega
          go_wp2_with fail
          go_meet
          case rel => exact ⟨by simp [inr]; omega, alloc_new _ _ _ rfl, (by repeat (first | (with_reducible exact Keep.refl _ _) | (with_reducible refine Keep.drew ?_) | (with_reducible refine Keep.drewN ?_ _) | (with_reducible refine Keep.alloc ?_ _) | (with_reducible refine Keep.setCell ?_ (by first | (simp; done) | (simp; omega) | (left; dsimp only; omega)) _)))⟩
        · have q1 : 0 ≤ F k 1 := by omega
          by_cases q2 : F k 1 < m
          · go_wp2_with fail
            go_meet
            case rel => exact ⟨by simp [inr]; omega, alloc_new _ _ _ rfl, (by repeat (first | (with_reducible exact Keep.refl _ _) | (with_reducible refine Keep.drew ?_) | (with_reducible refine Keep.drewN ?_ _) | (with_reducible refine Keep.alloc ?_ _) | (with_reducible refine Keep.setCell ?_ (by first | (simp; done) | (simp; omega) | (left; dsimp only; omega)) _)))⟩
          · go_wp2_with fail
            go_meet
            case rel => exact ⟨by simp [inr]; omega, alloc_new _ _ _ rfl, (by repeat (first | (with_reducible exact Keep.refl _ _) | (with_reducible refine Keep.drew ?_) | (with_reducible refine Keep.drewN ?_ _) | (with_reducible refine Keep.alloc ?_ _) | (with_reducible refine Keep.setCell ?_ (by first | (simp; done) | (simp; omega) | (left; dsimp only; omega)) _)))⟩
      case rest =>
        obtain ⟨hth, hx, hkc⟩ := hcut
        subst hth
        have HX := Lib.hid hx; have HKC := Lib.hid hkc
        clear hx hkc d0 d1 d2
        go_wp2_with fail
        refine Calls.mono (arena_all (b := b) (g := g) (W := W) (t := t) (l := l) (HAr.out.keep HKC.out (by simp) (by simp))) ?_
        rintro e w3 ⟨a3, c3, rfl, R3, K3, F3⟩
        rw [HW.out] at R3
        have HR3 := Lib.hid R3; have HK3 := Lib.hid (HKC.out.trans K3); have HF3 := Lib.hid F3
        have b3 := K3.get HX.out (by simp)
        have cx3 := cell_at b3
        have HX3 := Lib.hid b3
        clear R3 K3 F3 b3
        rw [HW.out]
        have hc3 := HM.out.keep HK3.out (by simp)
        have HM3 := Lib.hid hc3
        have ha3 := HAr.out.keep HK3.out (by simp) (by simp)
        have HA3 := Lib.hid ha3
        clear hc3 ha3
        go_upto_block 2 with (fail)
        go_cut [10] (fun _ wx => ∃ (W' : List Int) (t' l' : Int), W'.length = m ∧ Arn wx b g W' t' l' ∧ OwnM wx w1.heap.size (k + 1) (fun j => rdz W' j) ∧ (∀ j : Int, (Lit.int .u64 (rdz W' j)).wf = true) ∧ (∀ j : Int, j ≠ F k 1 → rdz W' j = rdz W j) ∧ Keep [b, g, w1.heap.size] w3 wx)
        case first =>
          by_cases q0 : F k 0 = 0
          · have t0 : (F k 0 == 0) = true := by simp [q0]
            clear q0
            have e1 : w3.cell? ⟨wr.heap.size, 1, none⟩ = some (.int .i64 (F k 1)) := cx3 1
            have lk0 := (HM3.out.keep (S := []) (w' := w3.drew) (by repeat (first | (with_reducible exact Keep.refl _ _) | (with_reducible refine Keep.drew ?_) | (with_reducible refine Keep.drewN ?_ _) | (with_reducible refine Keep.alloc ?_ _) | (with_reducible refine Keep.setCell ?_ (by first | (simp; done) | (simp; omega) | (left; dsimp only; omega)) _))) (by simp)).look WF1.out
            go_wp2_with fail
            go_region_held3 (fun w' => w'.cell? ⟨wr.heap.size, 1, none⟩ = some (.int .i64 (F k 1)))
              (first
                | (refine Keep.cell (S := []) (w := w3) ?_ e1 (by simp); ((repeat (first | (with_reducible exact Keep.refl _ _) | (with_reducible refine Keep.drew ?_) | (with_reducible refine Keep.drewN ?_ _) | (with_reducible refine Keep.alloc ?_ _) | ((with_reducible refine Keep.setCell ?_ ?_ _); rotate_left; focus (first | (simp; done) | (simp; omega) | (left; dsimp only; omega))))); done))
                | (refine Keep.cell (S := [b, g]) (w := w3) ?_ e1 (by simp; omega); ((repeat (first | (with_reducible exact HK4.out) | (with_reducible refine Keep.drew ?_) | (with_reducible refine Keep.drewN ?_ _) | (with_reducible refine Keep.alloc ?_ _) | ((with_reducible refine Keep.setCell ?_ ?_ _); rotate_left; focus (first | (simp; done) | (simp; omega) | (left; dsimp only; omega))))); done)))
              ((first
                | (go_at_call 28; refine (arena_read_any (b := b) (g := g) (W := W) (t := t) (l := l) (w := w3.drew) (HA3.out.keep (S := []) (by repeat (first | (with_reducible exact Keep.refl _ _) | (with_reducible refine Keep.drew ?_) | (with_reducible refine Keep.drewN ?_ _) | (with_reducible refine Keep.alloc ?_ _) | (with_reducible refine Keep.setCell ?_ (by first | (simp; done) | (simp; omega) | (left; dsimp only; omega)) _))) (by simp) (by simp)) (F k 1)).mono ?_
                   rintro e w4 ⟨rfl, A4, K4⟩
                   have HA4 := Lib.hid A4; have HK4 := Lib.hid K4.off_drew
                   have HM4 := Lib.hid (HM3.out.keep HK4.out (by simp; omega))
                   have lk4 := HM4.out.look WF1.out
                   clear A4 K4)))
            all_goals (
              go_wp2_with fail
              go_meet
              case rel => exact ⟨W, _, _, HW.out, HA4.out.keep (S := []) (by repeat (first | (with_reducible exact Keep.refl _ _) | (with_reducible refine Keep.drew ?_) | (with_reducible refine Keep.drewN ?_ _) | (with_reducible refine Keep.alloc ?_ _) | (with_reducible refine Keep.setCell ?_ (by first | (simp; done) | (simp; omega) | (left; dsimp only; omega)) _))) (by simp) (by simp), (HM4.out.mono (Nat.le_succ _)).keep (S := []) (by repeat (first | (with_reducible exact Keep.refl _ _) | (with_reducible refine Keep.drew ?_) | (with_reducible refine Keep.drewN ?_ _) | (with_reducible refine Keep.alloc ?_ _) | (with_reducible refine Keep.setCell ?_ (by first | (simp; done) | (simp; omega) | (left; dsimp only; omega)) _))) (by simp), HWF.out, fun _ _ => rfl, by ((repeat (first | (with_reducible exact HK4.out.mono (by simp)) | (with_reducible refine Keep.drew ?_) | (with_reducible refine Keep.drewN ?_ _) | (with_reducible refine Keep.alloc ?_ _) | ((with_reducible refine Keep.setCell ?_ ?_ _); rotate_left; focus (first | (simp; done) | (simp; omega) | (left; dsimp only; omega))))); done)⟩)
          have t0 : (F k 0 == 0) = false := by simp [q0]
          have hput : ∀ v j : Int, inr m (F k 1) = true → (if j = F k 1 then v else rdz W j) = rdz (putz W (F k 1) v) j := fun v j hin => by
            rw [rdz_putz, HW.out, hin]; simp
          have hout : ∀ v : Int, inr m (F k 1) = false → putz W (F k 1) v = W := fun v hin => by
            unfold putz; rw [HW.out, hin]; simp
          have hwfp : ∀ v : Int, (Lit.int .u64 v).wf = true → ∀ j : Int, (Lit.int .u64 (rdz (putz W (F k 1) v) j)).wf = true := fun v hv j => by
            rw [rdz_putz]; split
            · exact hv
            · exact HWF.out j
          have hoth : ∀ v j : Int, j ≠ F k 1 → rdz (putz W (F k 1) v) j = rdz W j := fun v j hj => by
            rw [rdz_putz]; simp [hj]
          by_cases q1 : F k 0 = 1
          · have t1 : (F k 0 == 1) = true := by simp [q1]
            clear q1 q0
            go_wp2_with fail
            refine (arena_write_any (b := b) (g := g) (W := W) (t := t) (l := l) (w := w3) HA3.out (F k 1) (F k 2)).mono ?_
            rintro e w4 ⟨rfl, A4, K4⟩
            have HA4 := Lib.hid A4; have HK4 := Lib.hid K4
            have HM4 := Lib.hid (HM3.out.keep K4 (by simp; omega))
            have cx4 := cell_at (K4.get HX3.out (by simp; omega))
            clear A4 K4
            cases hi : inr m (F k 1) with
            | true =>
              obtain ⟨w5, hup, M5, K5⟩ := HM4.out.put WF1.out WF2.out (by simp only [maxLen]; omega)
              go_wp2_with fail
              go_meet
              case rel => exact ⟨putz W (F k 1) (F k 2), _, _, (putz_length _ _ _).trans HW.out, HA4.out.keep K5 (by simp; omega) (by simp; omega), M5.congr (fun j hj => hput _ _ hi), hwfp _ WF2.out, hoth _, (HK4.out.mono (by simp)).trans (K5.mono (by simp))⟩
            | false =>
              go_wp2_with fail
              go_meet
              case rel => exact ⟨putz W (F k 1) (F k 2), _, _, (putz_length _ _ _).trans HW.out, HA4.out, by rw [hout _ hi]; exact (HM4.out.mono (Nat.le_succ _)), hwfp _ WF2.out, hoth _, (HK4.out.mono (by simp))⟩
          · have t1 : (F k 0 == 1) = false := by simp [q1]
            clear q1 q0
            have hF31 : ∀ args w, (callFunc 37 args).run Try.prog w = .ok (.enter 37 args) w := fun _ _ => rfl
            go_wp2_with fail
            refine (arena_update_any (b := b) (g := g) (W := W) (t := t) (l := l) (w := w3) HA3.out (F k 1) 37 hF31 #[.pointer (some ⟨wr.heap.size, 0, none⟩)] [] (fun _ => .map #[] 0) (bits BinOp.xor IntKind.u64 (rdz W (F k 1)) (F k 2)) (by simp) (by simp) (by simp) ?_).mono ?_
            · intro hin wz kz
              refine Calls.mono (arena_last_fn _ (F k 2) (F k 0) (F k 1) wr.heap.size wz ?_) ?_
              · exact kz.get HX3.out (by simp; omega)
              · rintro e w6 ⟨rfl, rfl⟩
                exact ⟨rfl, Keep.refl _ _, by simp⟩
            rintro e w4 ⟨rfl, A4, K4, -, -⟩
            have HA4 := Lib.hid A4; have HK4 := Lib.hid K4
            have HM4 := Lib.hid (HM3.out.keep K4 (by simp; omega))
            have cx4 := cell_at (K4.get HX3.out (by simp; omega))
            have lk4 := HM4.out.look WF1.out
            have wfx := wf_bits BinOp.xor IntKind.u64 (rdz W (F k 1)) (F k 2)
            clear A4 K4
            cases hi : inr m (F k 1) with
            | true =>
              obtain ⟨w5, hup, M5, K5⟩ := HM4.out.put WF1.out wfx (by simp only [maxLen]; omega)
              go_wp2_with fail
              go_meet
              case rel => exact ⟨putz W (F k 1) _, _, _, (putz_length _ _ _).trans HW.out, HA4.out.keep K5 (by simp; omega) (by simp; omega), M5.congr (fun j hj => hput _ _ hi), hwfp _ wfx, hoth _, (HK4.out.mono (by simp)).trans (K5.mono (by simp))⟩
            | false =>
              go_wp2_with fail
              go_meet
              case rel => exact ⟨putz W (F k 1) _, _, _, (putz_length _ _ _).trans HW.out, HA4.out, by rw [hout _ hi]; exact (HM4.out.mono (Nat.le_succ _)), hwfp _ wfx, hoth _, (HK4.out.mono (by simp))⟩
        case rest =>
          obtain ⟨W', t', l', hW', hA', hM', hwf', hoth', hK'⟩ := hcut
          have HW' := Lib.hid hW'; have HA' := Lib.hid hA'; have HM' := Lib.hid hM'; have HWF' := Lib.hid hwf'; have HO' := Lib.hid hoth'
          have bxc := hK'.get HX3.out (by simp; omega)
          have HXC := Lib.hid bxc
          have RC3 := Lib.hid (HR3.out.keep hK' (fun x hx => by
            have hf := HF3.out
            cases a3 with
            | none => simp [Value.ownBlock] at hx
            | some a =>
              simp only [Value.ownBlock] at hx
              cases hx
              have h2 := hf a rfl
              have h4 := HKC.out.size
              simp; omega))
          have HK' := Lib.hid hK'
          clear hA' hM' hwf' hoth' hK' bxc cx3
          go_wp2_with fail
          refine Calls.mono (arena_all (b := b) (g := g) (W := W') (t := t') (l := l') HA'.out) ?_
          rintro e w5 ⟨a5, c5, rfl, R5, K5, F5⟩
          rw [hW'] at R5
          rw [hW']
          have cx5 := cell_at (K5.get HXC.out (by simp))
          have RC5 := Lib.hid (RC3.out.keep K5 (fun _ _ => by simp))
          have HR5 := Lib.hid R5; have HK5 := Lib.hid K5
          have HA5 := Lib.hid (HA'.out.keep K5 (by simp) (by simp))
          have HM5 := Lib.hid (HM'.out.keep K5 (by simp))
          clear R5 K5 F5
          go_wp2_with fail
          go_loopg [14] m (fun j i wx => ∃ q : Nat, q + j = m ∧ i = .int .i64 q ∧ ∃ nq, wx = w5.drewN nq)
          case atStart => exact ⟨0, by omega, rfl, 0, rfl⟩
          case round =>
            obtain ⟨q, hq, rfl, nq, rfl⟩ := hrel
            by_cases hql : q < m
            · obtain ⟨b4, o4, rfl, hb4, hc4⟩ := RC5.out.some (by rw [List.length_map, HW.out]; omega)
              obtain ⟨b5, o5, rfl, hb5, hc5⟩ := HR5.out.some (by rw [List.length_map, HW'.out]; omega)
              have hqw : q < W.length := by rw [HW.out]; exact hql
              have hqw' : q < W'.length := by rw [HW'.out]; exact hql
              have e4 := hc4 q (.int .u64 W[q]) (by simp [hqw])
              have e5 := hc5 q (.int .u64 W'[q]) (by simp [hqw'])
              have wfq : (Lit.int .i64 (q : Int)).wf = true := WalkArith.wf_i64 (by omega)
              have lk := fun z : Nat => (HM5.out.keep (S := []) (w' := (w5.drewN nq).drewN z) (by repeat (first | (with_reducible exact Keep.refl _ _) | (with_reducible refine Keep.drew ?_) | (with_reducible refine Keep.drewN ?_ _) | (with_reducible refine Keep.alloc ?_ _) | (with_reducible refine Keep.setCell ?_ (by first | (simp; done) | (simp; omega) | (left; dsimp only; omega)) _))) (by simp)).look wfq
              have lk' := fun z : Nat => (HM5.out.keep (S := []) (w' := (w5.drewN z)) (by repeat (first | (with_reducible exact Keep.refl _ _) | (with_reducible refine Keep.drew ?_) | (with_reducible refine Keep.drewN ?_ _) | (with_reducible refine Keep.alloc ?_ _) | (with_reducible refine Keep.setCell ?_ (by first | (simp; done) | (simp; omega) | (left; dsimp only; omega)) _))) (by simp)).look wfq
              simp only [rdz_nat hqw'] at lk lk'
              have heq : (q : Int) ≠ F k 1 → W'[q] = W[q] := fun hne => by
                have := HO'.out q hne
                rwa [rdz_nat hqw', rdz_nat hqw] at this
              have i0 : (0 : Int) ≤ (q : Int) := by omega
              have i1 : (q : Int) < (m : Int) := by omega
              clear hc4 hc5
              generalize W'[q] = y at e5 lk lk' heq
              generalize W[q] = z at e4 heq
              clear hqw hqw'
              by_cases hqa : (q : Int) = F k 1
              · have q0 : ((q : Int) == F k 1) = true := by simp [hqa]
                have q1 : ((q : Int) != F k 1) = false := by simp [hqa]
                clear hqa heq
                go_wp2_with fail
                go_quiet (fail)
                go_wp2_with fail
                go_roundg (m - (q + 1))
                case measure => omega
                case rel => exact ⟨q + 1, by omega, by go_num, _, rfl⟩
              · have q0 : ((q : Int) == F k 1) = false := by simp [hqa]
                have q1 : ((q : Int) != F k 1) = true := by simp [hqa]
                obtain rfl := heq hqa
                clear hqa heq
                go_wp2_with fail
                go_quiet (fail)
                go_wp2_with fail
                go_roundg (m - (q + 1))
                case measure => omega
                case rel => exact ⟨q + 1, by omega, by go_num, _, rfl⟩
            · have hqe : q = m := by omega
              go_wp2_with fail
              go_roundg (n - (k + 1))
              case measure => omega
              case rel =>
                have h1 := HB.out; have h2 := HG.out
                exact ⟨k + 1, by omega, by go_num, W', t', l', HW'.out, HA5.out.keep (S := []) (by repeat (first | (with_reducible exact Keep.refl _ _) | (with_reducible refine Keep.drew ?_) | (with_reducible refine Keep.drewN ?_ _) | (with_reducible refine Keep.alloc ?_ _) | (with_reducible refine Keep.setCell ?_ (by first | (simp; done) | (simp; omega) | (left; dsimp only; omega)) _))) (by simp) (by simp), HM5.out.keep (S := []) (by repeat (first | (with_reducible exact Keep.refl _ _) | (with_reducible refine Keep.drew ?_) | (with_reducible refine Keep.drewN ?_ _) | (with_reducible refine Keep.alloc ?_ _) | (with_reducible refine Keep.setCell ?_ (by first | (simp; done) | (simp; omega) | (left; dsimp only; omega)) _))) (by simp), HWF'.out, by
                  have hk6 := ((HKW.out.trans HK3.out).fresh HK'.out (by simp; omega)).trans HK5.out
                  ((repeat (first | (with_reducible exact hk6) | (with_reducible refine Keep.drew ?_) | (with_reducible refine Keep.drewN ?_ _) | (with_reducible refine Keep.alloc ?_ _) | ((with_reducible refine Keep.setCell ?_ ?_ _); rotate_left; focus (first | (simp; done) | (simp; omega) | (left; dsimp only; omega))))); done)⟩
    · have nx : ¬ (k : Int) < (n : Int) := by omega
      obtain ⟨W, t, l, hW, hAr, hM, hwf, hKw⟩ := HP.out
      go_wp2_with (go_at_call 24; refine (arena_wakes _).mono ?_; rintro e w' ⟨rfl, hk⟩)
      exact hR.out _ _ ⟨rfl, (hKw.trans hk).below (Nat.le_refl _) (by simp)⟩

set_option maxRecDepth 100000 in
theorem lawArenaLast_walk {H : Type} {enc : TypeId × Value → H} {base : Nat} (W : World) {v0 v1 : Value} {d0 d1 : DataW H} {p0 p1 : List MemPlace}
    (ok0 : Value.okWide Try.prog W .any base 65 v0) (h0 : DataW.Trod enc Try.prog W 0 (fun _ => true) true 65 v0 d0 p0)
    (ok1 : Value.okWide Try.prog W .any base 44 v1) (h1 : DataW.Trod enc Try.prog W 0 (fun _ => true) true 44 v1 d1 p1) :
    Calls Try.prog 8 #[v0, v1] W fun e w' => e = .returned (.bool true) ∧ Below W.heap.size W w' := by
  obtain ⟨a0, rfl, rfl, rfl, w0⟩ := open_int Try.underlying65 ok0 h0
  obtain ⟨ao, len, cap, rfl⟩ := okWide_slice Try.underlying44 ok1
  obtain ⟨n, F, hA⟩ := open_recs (ks := [.u8, .i64, .u64]) Try.underlying44 Try.underlying54 (by kernel_rfl) (by kernel_rfl) (by kernel_rfl) h1 rfl
  have hn : len = n := by obtain ⟨_, ⟨_, _, hv, _⟩, _⟩ := hA; cases hv; rfl
  subst hn
  have hb := lit_wf_u16 w0
  exact arena_last_law a0 ao len cap F W hb.1 hb.2 hA
end Go.Proofs.Ytgdbccficcgbdaa
