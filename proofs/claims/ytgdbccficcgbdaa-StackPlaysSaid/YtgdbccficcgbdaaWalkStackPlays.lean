/- The walk of StackPlays. -/
import Derived.Test.YtgdbccficcgbdaaRef08
import Derived.Test.YtgdbccficcgbdaaOpen
import Derived.WalkSmall
import Derived.Deep.LoopGhost
import Derived.Deep.DeepCutAuto
import Derived.Deep.CutBlock
namespace Go.Proofs.Ytgdbccficcgbdaa
open Go.RowKit Go.ChangeShapes Go.WideShapes
attribute [local go_sem ↓] Go.wp_at_zero Go.wp_at_succ
set_option linter.unusedVariables false

/-- What stands behind an act: the stack, the reference at block g. -/
def PlaysAt (w0 : World) (b f s g r : Nat) (wr : World) : Prop :=
  ∃ (L : List Int) (over : Bool) (ao : Option Addr) (cap : Nat), Stk wr b f s r L over ∧ wr.heap[g]? = some (.cells #[.int .i64 r, .slice ao L.length cap, .bool over] 37 (0, 0)) ∧
    Rd wr (.slice ao L.length cap) L.length (L.map (Value.int .i64)) ∧ (∀ a, ao = some a → g < a.block) ∧ Below w0.heap.size w0 wr

set_option maxRecDepth 100000 in
set_option maxHeartbeats 2000000 in
theorem stack_plays_law (room : Int) (ao : Option Addr) (n cap : Nat) (F : Nat → Nat → Int) (w : World)
    (hA : Recs w (.slice ao n cap) n [.u8, .i64] F) : Calls Try.prog 4 #[.int .i64 room, .slice ao n cap] w fun e w' => e = .returned (.bool true) ∧ Below w.heap.size w w' := by
  refine calls_abs fun R hR => ?_
  have HA := Lib.hid hA
  have hnm : n ≤ 9223372036854775807 := by
    obtain ⟨cs, hr, _⟩ := hA
    obtain ⟨_, _, hv, h1, h2, _⟩ := hr
    simp only [maxLen] at h2
    omega
  clear hA
  by_cases hbig : 200 < n
  · go_enter Try.func4, Try.ntmps4
    go_wp2_with (go_at_call 15; refine (stack_wakes _).mono ?_; rintro e w' ⟨rfl, hk⟩)
    exact hR.out _ _ ⟨rfl, hk.below (Nat.le_refl _) (by simp)⟩
  by_cases hlow : room < 1
  · go_enter Try.func4, Try.ntmps4
    go_wp2_with (first | (go_at_call 16; refine (stack_new_bad room (.inl hlow) _).mono ?_; rintro e w' ⟨rfl, rfl⟩) | (go_at_call 15; refine (stack_wakes _).mono ?_; rintro e w' ⟨rfl, hk⟩))
    exact hR.out _ _ ⟨rfl, hk.below (Nat.le_refl _) (by simp)⟩
  by_cases hhigh : 64 < room
  · go_enter Try.func4, Try.ntmps4
    go_wp2_with (first | (go_at_call 16; refine (stack_new_bad room (.inr hhigh) _).mono ?_; rintro e w' ⟨rfl, rfl⟩) | (go_at_call 15; refine (stack_wakes _).mono ?_; rintro e w' ⟨rfl, hk⟩))
    exact hR.out _ _ ⟨rfl, hk.below (Nat.le_refl _) (by simp)⟩
  obtain ⟨r, rfl⟩ : ∃ r : Nat, room = r := ⟨room.toNat, by omega⟩
  go_enter Try.func4, Try.ntmps4
  go_wp2_with fail
  refine (stack_new r r rfl (by omega) (by omega) _).mono ?_
  rintro e w1 ⟨b, f, s, rfl, S1, K1, hb, hf, hs⟩
  have hbl := lt_of_block S1.head
  have hfl := lt_of_block S1.flood
  have hsl : s < w1.heap.size := by obtain ⟨_, h, _⟩ := S1.row; exact lt_of_block h
  have HS1 := Lib.hid S1; have HK1 := Lib.hid K1; clear S1 K1
  go_wp2_with fail
  go_loopg [8] n (fun m i wr => ∃ k : Nat, k + m = n ∧ i = .int .i64 k ∧ PlaysAt w b f s w1.heap.size r wr)
  case atStart => exact ⟨0, by omega, rfl, [], false, none, 0, HS1.out.keep (S := []) (by repeat (first | (with_reducible exact Keep.refl _ _) | (with_reducible refine Keep.drew ?_) | (with_reducible refine Keep.drewN ?_ _) | (with_reducible refine Keep.alloc ?_ _) | (with_reducible refine Keep.setCell ?_ (by first | (simp; done) | (simp; omega) | (left; dsimp only; omega)) _))) (by simp) (by simp) (by simp), alloc_new _ _ _ rfl, Rd.nil _, by simp, (Keep.below (S := []) (HK1.out.alloc _) (Nat.le_refl _) (by simp))⟩
  case round =>
    obtain ⟨k, hkm, rfl, hP⟩ := hrel
    have HP := Lib.hid hP; clear hP
    by_cases hkn : k < n
    · obtain ⟨ab, aof, rfl, hab, hcells⟩ := HA.out.cell hkn (by simp)
      have c0 := (hcells 0 .u8 rfl).1
      have c1 := (hcells 1 .i64 rfl).1
      simp only [Nat.add_zero, List.length_cons, List.length_nil] at c0 c1
      clear hcells
      rw [← Nat.add_assoc] at c1
      have HC0 := Lib.hid c0; have HC1 := Lib.hid c1; clear c0 c1
      have cell0 := fun (wx : World) (h : Below w.heap.size w wx) => (h.cell (p := ⟨ab, aof + k * 2, none⟩) hab).trans HC0.out
      have cell1 := fun (wx : World) (h : Below w.heap.size w wx) => (h.cell (p := ⟨ab, aof + k * 2 + 1, none⟩) hab).trans HC1.out
      have HX0 := Lib.hid cell0; have HX1 := Lib.hid cell1; clear cell0 cell1
      obtain ⟨L, over, ao', cap', h1, h2, h3, h4, h5⟩ := HP.out
      have c0 := HX0.out _ h5
      go_upto_block 2 with (fail)
      go_cut [] (fun wx => PlaysAt w b f s w1.heap.size r wx)
      case first =>
        have cW := cell_at h2
        have fW := frozen_at h2
        have hroom := h1.small
        have hfit := h1.fits
        have H1 := Lib.hid h1; have H2 := Lib.hid h2; have H3 := Lib.hid h3; have H4 := Lib.hid h4; have H5 := Lib.hid h5
        clear h1 h2 h3 h4 h5
        by_cases hd0 : F k 0 = 0
        · have t0 : (F k 0 == 0) = true := by simp [hd0]
          clear hd0
          rcases List.eq_nil_or_concat L with rfl | ⟨L', x, hL⟩
          · go_wp2_with fail
            refine (stack_pop_empty H1.out).mono ?_
            rintro e w2 ⟨rfl, rfl⟩
            go_wp2_with fail
            refine (ref08_pop_empty r ao' cap' over _).mono ?_
            rintro e w3 ⟨rfl, K3⟩
            have b3 := K3.get H2.out (by simp)
            have cW3 := cell_at b3
            have fW3 := frozen_at b3
            have l3 := lt_of_block b3
            have B3 := Lib.hid b3; have HK3 := Lib.hid K3; clear K3 cW fW b3
            go_wp2_with fail
            go_meet
            case rel =>
              have hs3 := HK3.out.size
              have hw : Keep [w1.heap.size] w2 w3 := HK3.out.mono (by simp)
              have hg3 := B3.out
              have hne : w1.heap.size ≠ w3.heap.size := by omega
              exact ⟨[], over, ao', cap', H1.out.keep (S := [w1.heap.size]) (by repeat (first | (with_reducible exact hw) | (with_reducible refine Keep.drew ?_) | (with_reducible refine Keep.drewN ?_ _) | (with_reducible refine Keep.alloc ?_ _) | (with_reducible refine Keep.setCell ?_ (by first | (simp; done) | (simp; omega) | (left; dsimp only; omega)) _))) (by simp; omega) (by simp; omega) (by simp; omega), (by simp [World.alloc, World.setCell, World.drew, World.drewN, Array.getElem?_push, Array.getElem?_modify, hg3, hne]), H3.out.keep (S := [w1.heap.size]) (by repeat (first | (with_reducible exact hw) | (with_reducible refine Keep.drew ?_) | (with_reducible refine Keep.drewN ?_ _) | (with_reducible refine Keep.alloc ?_ _) | (with_reducible refine Keep.setCell ?_ (by first | (simp; done) | (simp; omega) | (left; dsimp only; omega)) _))) (fun g hg hm => by simp at hm; subst hm; cases ao' with | none => simp [Value.ownBlock] at hg | some a => have := H4.out a rfl; simp [Value.ownBlock] at hg; omega), H4.out, H5.out.trans (Keep.below (S := [w1.heap.size]) (by repeat (first | (with_reducible exact hw) | (with_reducible refine Keep.drew ?_) | (with_reducible refine Keep.drewN ?_ _) | (with_reducible refine Keep.alloc ?_ _) | (with_reducible refine Keep.setCell ?_ (by first | (simp; done) | (simp; omega) | (left; dsimp only; omega)) _))) H5.out.size (by simp; omega))⟩
          · rw [List.concat_eq_append] at hL
            subst hL
            simp only [List.length_append, List.length_singleton, List.map_append, List.map_cons, List.map_nil] at H2 H3 cW hfit
            obtain ⟨gb, go, rfl, hgl, hgc⟩ := H3.out.some (by simp)
            have hl3 := H3.out.len
            have cx := hgc L'.length (.int .i64 x) (by simp)
            have hgn := H4.out _ rfl
            have hmx : cap' ≤ 9223372036854775807 := by have := hl3.2.2; simp only [maxLen] at this; omega
            have hcp : L'.length + 1 ≤ cap' := by have := hl3.2.1; simpa using this
            clear hgc hl3
            go_wp2_with fail
            refine (stack_pop_some H1.out).mono ?_
            rintro e w2 ⟨rfl, S2, K2⟩
            have b2 := K2.get H2.out (by simp; omega)
            have cW2 := cell_at b2
            have l2 := lt_of_block b2
            have cx2 := K2.cell cx (by simp; omega)
            have B2 := Lib.hid b2; have HK2 := Lib.hid K2; have HS2 := Lib.hid S2; clear K2 cW fW b2 S2 cx
            go_wp2_with fail
            refine (ref08_pop_some r x gb go L'.length cap' over _ hcp hmx cx2).mono ?_
            rintro e w3 ⟨rfl, K3⟩
            have b3 := K3.get B2.out (by simp)
            have cW3 := cell_at b3
            have fW3 := frozen_at b3
            have l3 := lt_of_block b3
            have B3 := Lib.hid b3; have HK3 := Lib.hid K3; clear K3 cW2 b3 cx2
            go_wp2_with fail
            go_meet
            case rel =>
              have hs2 := HK2.out.size
              have hs3 := HK3.out.size
              have hw2 : Keep [w1.heap.size] w2 w3 := HK3.out.mono (by simp)
              have hw : Keep [b, f, s, w1.heap.size] wr w3 := (HK2.out.mono (by simp)).trans (HK3.out.mono (by simp))
              have hg3 := B3.out
              have hne : w1.heap.size ≠ w3.heap.size := by omega
              have hlg := lt_of_block H2.out
              have hrd := H3.out.take (k := L'.length) (by omega)
              rw [List.take_left' (by simp)] at hrd
              exact ⟨L', over, _, cap', HS2.out.keep (S := [w1.heap.size]) (by repeat (first | (with_reducible exact hw2) | (with_reducible refine Keep.drew ?_) | (with_reducible refine Keep.drewN ?_ _) | (with_reducible refine Keep.alloc ?_ _) | (with_reducible refine Keep.setCell ?_ (by first | (simp; done) | (simp; omega) | (left; dsimp only; omega)) _))) (by simp; omega) (by simp; omega) (by simp; omega), (by simp [World.alloc, World.setCell, World.drew, World.drewN, Array.getElem?_push, Array.getElem?_modify, hg3, hne]), hrd.keep (S := [b, f, s, w1.heap.size]) (by repeat (first | (with_reducible exact hw) | (with_reducible refine Keep.drew ?_) | (with_reducible refine Keep.drewN ?_ _) | (with_reducible refine Keep.alloc ?_ _) | (with_reducible refine Keep.setCell ?_ (by first | (simp; done) | (simp; omega) | (left; dsimp only; omega)) _))) (fun g hg hm => by simp [Value.ownBlock] at hg; subst hg; simp at hm; (try dsimp only at hgn); omega), H4.out, H5.out.trans (Keep.below (S := [b, f, s, w1.heap.size]) (by repeat (first | (with_reducible exact hw) | (with_reducible refine Keep.drew ?_) | (with_reducible refine Keep.drewN ?_ _) | (with_reducible refine Keep.alloc ?_ _) | (with_reducible refine Keep.setCell ?_ (by first | (simp; done) | (simp; omega) | (left; dsimp only; omega)) _))) H5.out.size (by simp; omega))⟩
        · by_cases hd1 : F k 0 = 1
          · have t1 : (F k 0 == 1) = true := by simp [hd1]
            have t0 : (F k 0 == 0) = false := by simp [hd0]
            clear hd0 hd1
            go_wp2_with fail
            go_region_held3 (fun w' => w'.cell? ⟨w1.heap.size, 2, none⟩ = some (.bool over)) (first | go_keep | (exact e2))
              ((go_at_call 18; refine (stack_over (H1.out.keep (S := []) (w' := wr.drew) (by repeat (first | (with_reducible exact Keep.refl _ _) | (with_reducible refine Keep.drew ?_) | (with_reducible refine Keep.drewN ?_ _) | (with_reducible refine Keep.alloc ?_ _) | (with_reducible refine Keep.setCell ?_ (by first | (simp; done) | (simp; omega) | (left; dsimp only; omega)) _))) (by simp) (by simp) (by simp))).mono ?_; rintro e w2 ⟨rfl, S2, K2⟩; have e2 := cell_at (K2.get H2.out (by simp; omega)) 2; simp at e2))
            have b2 := K2.get H2.out (by simp; omega)
            have cW2 := cell_at b2
            have fW2 := frozen_at b2
            have B2 := Lib.hid b2; have HK2 := Lib.hid K2; have HS2 := Lib.hid S2; clear K2 cW fW b2 S2
            go_wp2_with fail
            go_meet
            case rel =>
              have hs2 := HK2.out.size
              have hg2 := B2.out
              have hlg := lt_of_block H2.out
              have hw2 : Keep [b, f, s, w1.heap.size] wr w2 := Keep.mono (S' := [b, f, s, w1.heap.size]) HK2.out.off_drew (by simp)
              exact ⟨L, false, ao', cap', HS2.out.keep (S := [w1.heap.size]) (by repeat (first | (with_reducible exact (Keep.refl _ w2)) | (with_reducible refine Keep.drew ?_) | (with_reducible refine Keep.drewN ?_ _) | (with_reducible refine Keep.alloc ?_ _) | (with_reducible refine Keep.setCell ?_ (by first | (simp; done) | (simp; omega) | (left; dsimp only; omega)) _))) (by simp; omega) (by simp; omega) (by simp; omega), (by simp [World.alloc, World.setCell, World.drew, World.drewN, Array.getElem?_push, Array.getElem?_modify, hg2]), H3.out.keep (S := [b, f, s, w1.heap.size]) (by repeat (first | (with_reducible exact hw2) | (with_reducible refine Keep.drew ?_) | (with_reducible refine Keep.drewN ?_ _) | (with_reducible refine Keep.alloc ?_ _) | (with_reducible refine Keep.setCell ?_ (by first | (simp; done) | (simp; omega) | (left; dsimp only; omega)) _))) (fun g hg hm => by cases ao' with | none => simp [Value.ownBlock] at hg | some a => have := H4.out a rfl; simp [Value.ownBlock] at hg; simp at hm; omega), H4.out, H5.out.trans (Keep.below (S := [b, f, s, w1.heap.size]) (by repeat (first | (with_reducible exact hw2) | (with_reducible refine Keep.drew ?_) | (with_reducible refine Keep.drewN ?_ _) | (with_reducible refine Keep.alloc ?_ _) | (with_reducible refine Keep.setCell ?_ (by first | (simp; done) | (simp; omega) | (left; dsimp only; omega)) _))) H5.out.size (by simp; omega))⟩
          · have t1 : (F k 0 == 1) = false := by simp [hd1]
            have t0 : (F k 0 == 0) = false := by simp [hd0]
            clear hd0 hd1
            have c1 := HX1.out _ H5.out
            go_wp2_with fail
            by_cases hfull : r ≤ L.length
            · have ht : (r : Int) ≤ (L.length : Int) := by omega
              go_region_held3 (fun w' => w'.cell? ⟨w1.heap.size, 0, none⟩ = some (.int .i64 r) ∧ w'.cell? ⟨w1.heap.size, 1, none⟩ = some (.slice ao' L.length cap') ∧ w'.cell? ⟨w1.heap.size, 2, none⟩ = some (.bool over) ∧ w'.cell? ⟨ab, aof + k * 2 + 1, none⟩ = some (.int .i64 (F k 1)))
                (go_keep)
                (first
                  | (go_at_call 22; refine (ref08_push_full r (F k 1) ao' L.length cap' over wr.drew ht).mono ?_; rintro e w3 ⟨rfl, K3⟩
                     have b3 := K3.get H2.out (by simp); have cW3 := cell_at b3; have fW3 := frozen_at b3; have l3 := lt_of_block b3; have ca3 := K3.cell c1 (by simp); have n1 : w3.heap.size ≠ w1.heap.size := by omega
                     have n2 : w3.heap.size ≠ ab := by have := World.block_lt_of_cell? w3 _ ca3; dsimp only at this; omega
                     have B3 := Lib.hid b3; have HK3 := Lib.hid K3; have HS3 := Lib.hid K3.size; have HW3 : Hid (Keep [w1.heap.size] wr w3) := Keep.mono (S' := [w1.heap.size]) K3.off_drew (by simp); have HW5 : Hid (Keep [w1.heap.size] w3 w3) := Keep.refl _ _; clear b3 K3)
                  | (go_at_call 22; refine (ref08_push_full r (F k 1) ao' L.length cap' over (wr.alloc (.cells #[.int .i64 0, .slice none 0 0, .bool false] 37)).drew ht).mono ?_; rintro e w3 ⟨rfl, K3⟩
                     have b3 := K3.get (alloc_keeps H2.out _) (by simp); have cW3 := cell_at b3; have fW3 := frozen_at b3; have l3 := lt_of_block b3; have ca3 := K3.cell (b := ab) (i := aof + k * 2 + 1) (u := .int .i64 (F k 1)) (by go_keep) (by simp)
                     have n1 : wr.heap.size ≠ w1.heap.size := by have := lt_of_block H2.out; omega
                     have n2 : wr.heap.size ≠ ab := by have := World.block_lt_of_cell? wr _ c1; dsimp only at this; omega
                     have bn3 := K3.get (alloc_new wr (.cells #[.int .i64 0, .slice none 0 0, .bool false] 37) _ rfl) (by simp); have cn3 := cell_at bn3; have fn3 := frozen_at bn3
                     have B3 := Lib.hid b3; have HK3 := Lib.hid K3; have BN3 := Lib.hid bn3; have HS3 : Hid (wr.heap.size ≤ w3.heap.size) := Nat.le_trans (by simp) K3.size; have HW3 : Hid (Keep [w1.heap.size] wr w3) := ((Keep.refl _ wr).alloc _).trans (Keep.mono (S' := [w1.heap.size]) K3.off_drew (by simp)); clear b3 K3 bn3))
              all_goals
                have hs3 := HS3.out
                have hlg := lt_of_block H2.out
                have hlr : L.length = r := by omega
                have hk1 := HK1.out.size
                have hbs := H5.out.size
                have n3 : w1.heap.size ≠ ab := by omega
                have la3 : ab < w3.heap.size := by omega
                have HLR := Lib.hid hlr; clear hlr
                go_wp2_with fail
                refine Calls.mono (stack_push_full (b := b) (f := f) (s := s) (room := r) (L := L) (over := over) ?_ HLR.out (F k 1)) ?_
                · exact H1.out.keep (S := [w1.heap.size]) (by repeat (first | (with_reducible exact HW3.out) | (with_reducible refine Keep.drew ?_) | (with_reducible refine Keep.drewN ?_ _) | (with_reducible refine Keep.alloc ?_ _) | (with_reducible refine Keep.setCell ?_ (by first | (simp; done) | (simp; omega) | (left; dsimp only; omega)) _))) (by simp; omega) (by simp; omega) (by simp; omega)
                rintro e w5 ⟨rfl, S5, K5⟩
                have hg3 := B3.out
                have hg5 := K5.get (b := w1.heap.size) (o := .cells #[.int .i64 r, .slice ao' L.length cap', .bool true] 37 (0, 0)) (by simp [World.alloc, World.setCell, World.drew, World.drewN, Array.getElem?_push, Array.getElem?_modify, hg3, n1, n1.symm]) (by simp; omega)
                have hf3 : ∀ g, (Value.slice ao' L.length cap').ownBlock = some g → w1.heap.size < g := fun g hg => by
                  cases ao' with
                  | none => simp [Value.ownBlock] at hg
                  | some a => have := H4.out a rfl; simp [Value.ownBlock] at hg this; omega
                have hr5 : Rd w5 (.slice ao' L.length cap') L.length (L.map (Value.int .i64)) := by
                  refine Rd.keep (S := [b, f, s]) (Rd.keep (S := [w1.heap.size]) H3.out ?_ ?_) K5 (fun g hg hm => by have := hf3 g hg; simp at hm; omega)
                  · ((repeat (first | (with_reducible exact HW3.out) | (with_reducible refine Keep.drew ?_) | (with_reducible refine Keep.drewN ?_ _) | (with_reducible refine Keep.alloc ?_ _) | ((with_reducible refine Keep.setCell ?_ ?_ _); rotate_left; focus (first | (simp; done) | (simp; omega) | (left; dsimp only; omega))))); done)
                  · intro g hg hm; have := hf3 g hg; simp at hm; omega
                have hb4 : Below w.heap.size w w5 := by
                  refine H5.out.trans (Below.trans (b := w3) (HW3.out.below hbs (by simp; omega)) ?_)
                  refine Below.trans ?_ (K5.below (B := w.heap.size) ?_ (by simp; omega))
                  · refine Keep.below (S := [w1.heap.size, wr.heap.size]) ?_ (by omega) (by simp; omega)
                    ((repeat (first | (with_reducible exact Keep.refl _ _) | (with_reducible refine Keep.drew ?_) | (with_reducible refine Keep.drewN ?_ _) | (with_reducible refine Keep.alloc ?_ _) | ((with_reducible refine Keep.setCell ?_ ?_ _); rotate_left; focus (first | (simp; done) | (simp; omega) | (left; dsimp only; omega))))); done)
                  · simp; omega
                go_wp2_with fail
                go_meet
                case rel => exact ⟨L, true, ao', cap', S5, hg5, hr5, H4.out, hb4⟩
            · have ht : ¬ ((r : Int) ≤ (L.length : Int)) := by omega
              go_region_held3 (fun w' => w'.cell? ⟨w1.heap.size, 0, none⟩ = some (.int .i64 r) ∧ w'.cell? ⟨w1.heap.size, 1, none⟩ = some (.slice ao' L.length cap') ∧ w'.cell? ⟨w1.heap.size, 2, none⟩ = some (.bool over) ∧ w'.cell? ⟨ab, aof + k * 2 + 1, none⟩ = some (.int .i64 (F k 1)))
                (go_keep)
                (first
                  | (go_at_call 22; refine (ref08_push r (F k 1) ao' L.length cap' (L.map (Value.int .i64)) over wr.drew ht H3.out (by simp) (by omega)).mono ?_; rintro e w3 ⟨ao3, cap3, rfl, R3, K3, fr3⟩
                     have b3 := K3.get H2.out (by simp); have cW3 := cell_at b3; have fW3 := frozen_at b3; have l3 := lt_of_block b3; have ca3 := K3.cell c1 (by simp); have n1 : w3.heap.size ≠ w1.heap.size := by omega
                     have n2 : w3.heap.size ≠ ab := by have := World.block_lt_of_cell? w3 _ ca3; dsimp only at this; omega
                     have B3 := Lib.hid b3; have HK3 := Lib.hid K3; have HR3 := Lib.hid R3; have HF3 := Lib.hid fr3; have HS3 := Lib.hid K3.size; have HW3 : Hid (Keep [w1.heap.size] wr w3) := Keep.mono (S' := [w1.heap.size]) K3.off_drew (by simp); have HW5 : Hid (Keep [w1.heap.size] w3 w3) := Keep.refl _ _; clear b3 K3 R3 fr3)
                  | (go_at_call 22; refine (ref08_push r (F k 1) ao' L.length cap' (L.map (Value.int .i64)) over (wr.alloc (.cells #[.int .i64 0, .slice none 0 0, .bool false] 37)).drew ht (H3.out.keep (S := []) (by repeat (first | (with_reducible exact Keep.refl _ _) | (with_reducible refine Keep.drew ?_) | (with_reducible refine Keep.drewN ?_ _) | (with_reducible refine Keep.alloc ?_ _) | (with_reducible refine Keep.setCell ?_ (by first | (simp; done) | (simp; omega) | (left; dsimp only; omega)) _))) (by simp)) (by simp) (by omega)).mono ?_; rintro e w3 ⟨ao3, cap3, rfl, R3, K3, fr3⟩
                     have b3 := K3.get (alloc_keeps H2.out _) (by simp); have cW3 := cell_at b3; have fW3 := frozen_at b3; have l3 := lt_of_block b3; have ca3 := K3.cell (b := ab) (i := aof + k * 2 + 1) (u := .int .i64 (F k 1)) (by go_keep) (by simp)
                     have n1 : wr.heap.size ≠ w1.heap.size := by have := lt_of_block H2.out; omega
                     have n2 : wr.heap.size ≠ ab := by have := World.block_lt_of_cell? wr _ c1; dsimp only at this; omega
                     have bn3 := K3.get (alloc_new wr (.cells #[.int .i64 0, .slice none 0 0, .bool false] 37) _ rfl) (by simp); have cn3 := cell_at bn3; have fn3 := frozen_at bn3
                     have B3 := Lib.hid b3; have HK3 := Lib.hid K3; have HR3 := Lib.hid R3; have HF3 := Lib.hid fr3; have BN3 := Lib.hid bn3; have HS3 : Hid (wr.heap.size ≤ w3.heap.size) := Nat.le_trans (by simp) K3.size; have HW3 : Hid (Keep [w1.heap.size] wr w3) := ((Keep.refl _ wr).alloc _).trans (Keep.mono (S' := [w1.heap.size]) K3.off_drew (by simp)); clear b3 K3 R3 fr3 bn3))
              all_goals
                have hs3 := HS3.out
                have hlg := lt_of_block H2.out
                have hlr : L.length < r := by omega
                have hk1 := HK1.out.size
                have hbs := H5.out.size
                have n3 : w1.heap.size ≠ ab := by omega
                have la3 : ab < w3.heap.size := by omega
                go_wp2_with fail
                refine Calls.mono (stack_push (b := b) (f := f) (s := s) (room := r) (L := L) (over := over) ?_ hlr (F k 1)) ?_
                · exact H1.out.keep (S := [w1.heap.size]) (by repeat (first | (with_reducible exact HW3.out) | (with_reducible refine Keep.drew ?_) | (with_reducible refine Keep.drewN ?_ _) | (with_reducible refine Keep.alloc ?_ _) | (with_reducible refine Keep.setCell ?_ (by first | (simp; done) | (simp; omega) | (left; dsimp only; omega)) _))) (by simp; omega) (by simp; omega) (by simp; omega)
                rintro e w5 ⟨rfl, S5, K5⟩
                have hg3 := B3.out
                have hg5 := K5.get (b := w1.heap.size) (o := .cells #[.int .i64 r, .slice ao3 (L.length + 1) cap3, .bool over] 37 (0, 0)) (by simp [World.alloc, World.setCell, World.drew, World.drewN, Array.getElem?_push, Array.getElem?_modify, hg3, n1, n1.symm]) (by simp; omega)
                have hf3 : ∀ g, (Value.slice ao3 (L.length + 1) cap3).ownBlock = some g → wr.heap.size ≤ g ∧ w1.heap.size < g := fun g hg => by
                  cases ao3 with
                  | none => simp [Value.ownBlock] at hg
                  | some a => have := HF3.out a rfl; simp [Value.ownBlock] at hg this; omega
                have hr5 : Rd w5 (.slice ao3 (L.length + 1) cap3) (L.length + 1) (L.map (Value.int .i64) ++ [.int .i64 (F k 1)]) := by
                  refine Rd.keep (S := [b, f, s]) ?_ K5 (fun g hg hm => by have := hf3 g hg; simp at hm; omega)
                  first
                    | (refine Rd.keep (S := [w1.heap.size]) HR3.out ?_ ?_
                       · ((repeat (first | (with_reducible exact Keep.refl _ _) | (with_reducible refine Keep.drew ?_) | (with_reducible refine Keep.drewN ?_ _) | (with_reducible refine Keep.alloc ?_ _) | ((with_reducible refine Keep.setCell ?_ ?_ _); rotate_left; focus (first | (simp; done) | (simp; omega) | (left; dsimp only; omega))))); done)
                       · intro g hg hm; have := hf3 g hg; simp at hm; omega)
                    | (refine Rd.keep (S := [w1.heap.size, wr.heap.size]) HR3.out ?_ ?_
                       · ((repeat (first | (with_reducible exact Keep.refl _ _) | (with_reducible refine Keep.drew ?_) | (with_reducible refine Keep.drewN ?_ _) | (with_reducible refine Keep.alloc ?_ _) | ((with_reducible refine Keep.setCell ?_ ?_ _); rotate_left; focus (first | (simp; done) | (simp; omega) | (left; dsimp only; omega))))); done)
                       · intro g hg hm; have := hf3 g hg; have hx : wr.heap.size + 1 ≤ g := by
                           cases ao3 with
                           | none => simp [Value.ownBlock] at hg
                           | some a => have := HF3.out a rfl; simp [Value.ownBlock] at hg this; omega
                         simp at hm; omega)
                have hb4 : Below w.heap.size w w5 := by
                  refine H5.out.trans (Below.trans (b := w3) (HW3.out.below hbs (by simp; omega)) ?_)
                  refine Below.trans ?_ (K5.below (B := w.heap.size) ?_ (by simp; omega))
                  · refine Keep.below (S := [w1.heap.size, wr.heap.size]) ?_ (by omega) (by simp; omega)
                    ((repeat (first | (with_reducible exact Keep.refl _ _) | (with_reducible refine Keep.drew ?_) | (with_reducible refine Keep.drewN ?_ _) | (with_reducible refine Keep.alloc ?_ _) | ((with_reducible refine Keep.setCell ?_ ?_ _); rotate_left; focus (first | (simp; done) | (simp; omega) | (left; dsimp only; omega))))); done)
                  · simp; omega
                go_wp2_with fail
                go_meet
                case rel => exact ⟨L ++ [F k 1], over, ao3, cap3, S5, by simpa using hg5, by simpa using hr5, fun a ha => by have := hf3 a.block (by subst ha; rfl); omega, hb4⟩
      case rest =>
        clear c0
        obtain ⟨L, over, ao', cap', h1, h2, h3, h4, h5⟩ := hcut
        have hroom := h1.small
        have hfit := h1.fits
        have lg := lt_of_block h2
        have H1 := Lib.hid h1; have H2 := Lib.hid h2; have H3 := Lib.hid h3; have H4 := Lib.hid h4; have H5 := Lib.hid h5
        clear h1 h2 h3 h4 h5
        go_wp2_with fail
        refine Calls.mono (stack_all H1.out) ?_
        rintro e w2 ⟨v', rfl, R2, K2, fr2⟩
        obtain ⟨ao2, cap2, rfl, _, _⟩ := R2.shape
        have b2 := K2.get H2.out (by simp)
        have cW := cell_at b2
        have lg2 := lt_of_block b2
        have R3 := H3.out.keep K2 (by simp)
        have S2 := H1.out.keep K2 (by simp) (by simp) (by simp)
        have HR2 := Lib.hid R2; have HK2 := Lib.hid K2; have B2 := Lib.hid b2; have HR3 := Lib.hid R3; have HS2 := Lib.hid S2
        clear R2 K2 fr2 b2 R3 S2
        go_wp2_with fail
        refine Calls.mono (stack_len HS2.out) ?_
        rintro e w3 ⟨rfl, rfl⟩
        go_wp2_with fail
        go_loopg [17] L.length (fun m j wx => ∃ q : Nat, q + m = L.length ∧ j = .int .i64 q ∧ ∃ nq, wx = w3.drewN nq)
        case atStart => exact ⟨0, by omega, rfl, 0, rfl⟩
        case round =>
          obtain ⟨q, hq, rfl, nq, rfl⟩ := hrel
          by_cases hql : q < L.length
          · obtain ⟨b4, o4, rfl, hb4, hc4⟩ := HR2.out.some (by simp; omega)
            obtain ⟨b5, o5, rfl, hb5, hc5⟩ := HR3.out.some (by simp; omega)
            have e4 := hc4 q (.int .i64 L[q]) (by simp [hql])
            have e5 := hc5 q (.int .i64 L[q]) (by simp [hql])
            have i0 : (0 : Int) ≤ (q : Int) := by omega
            have i1 : (q : Int) < (L.length : Int) := by omega
            clear hc4 hc5
            go_wp2_with fail
            go_quiet (fail)
            go_wp2_with fail
            go_roundg (L.length - (q + 1))
            case measure => omega
            case rel => exact ⟨q + 1, by omega, by go_num, _, rfl⟩
          · have hqe : q = L.length := by omega
            go_wp2_with fail
            go_roundg (n - (k + 1))
            case measure => omega
            case rel => exact ⟨k + 1, by omega, by go_num, L, over, ao', cap', HS2.out.keep (S := []) (by repeat (first | (with_reducible exact Keep.refl _ _) | (with_reducible refine Keep.drew ?_) | (with_reducible refine Keep.drewN ?_ _) | (with_reducible refine Keep.alloc ?_ _) | (with_reducible refine Keep.setCell ?_ (by first | (simp; done) | (simp; omega) | (left; dsimp only; omega)) _))) (by simp) (by simp) (by simp), B2.out, HR3.out, H4.out, H5.out.trans ((HK2.out.drewN nq).below H5.out.size (by simp))⟩
    · go_wp2_with (go_at_call 15; refine (stack_wakes _).mono ?_; rintro e w' ⟨rfl, hk⟩)
      obtain ⟨L, over, ao', cap', h1, h2, h3, h4, h5⟩ := HP.out
      exact hR.out _ _ ⟨rfl, h5.trans (hk.below h5.size (by simp))⟩

set_option maxRecDepth 100000 in
theorem lawStackPlays_walk {H : Type} {enc : TypeId × Value → H} {base : Nat} (W : World) {v0 v1 : Value} {d0 d1 : DataW H} {p0 p1 : List MemPlace}
    (ok0 : Value.okWide Try.prog W .any base 3 v0) (h0 : DataW.Trod enc Try.prog W 0 (fun _ => true) true 3 v0 d0 p0)
    (ok1 : Value.okWide Try.prog W .any base 22 v1) (h1 : DataW.Trod enc Try.prog W 0 (fun _ => true) true 22 v1 d1 p1) :
    Calls Try.prog 4 #[v0, v1] W fun e w' => e = .returned (.bool true) ∧ Below W.heap.size W w' := by
  obtain ⟨a0, rfl, rfl, rfl, w0⟩ := open_int Try.underlying3 ok0 h0
  obtain ⟨ao, len, cap, rfl⟩ := okWide_slice Try.underlying22 ok1
  obtain ⟨n, F, hA⟩ := open_recs (ks := [.u8, .i64]) Try.underlying22 Try.underlying30 (by kernel_rfl) (by kernel_rfl) (by kernel_rfl) h1 rfl
  have hn : len = n := by obtain ⟨_, ⟨_, _, hv, _⟩, _⟩ := hA; cases hv; rfl
  subst hn
  exact stack_plays_law a0 ao len cap F W hA
end Go.Proofs.Ytgdbccficcgbdaa
