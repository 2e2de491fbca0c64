/- The walk of ArenaPlays. -/
import Derived.Test.YtgdbccficcgbdaaArenaLaw
import Derived.Test.YtgdbccficcgbdaaRef02
import Derived.Deep.LoopGhost
import Derived.Deep.DeepCutAuto
import Derived.Deep.CutBlock
import Derived.Deep.RegionHeld3
import Derived.Deep.DrawnRows
namespace Go.Proofs.Ytgdbccficcgbdaa
open Go.RowKit Go.ChangeShapes Go.WideShapes
attribute [local go_sem ↓] Go.wp_at_zero Go.wp_at_succ
set_option linter.unusedVariables false
set_option linter.unusedSimpArgs false

/-- The function that counts how often it is asked. -/
theorem arena_plays_fn (x c v : Int) (d a : Int) (p q : Nat) (w : World) (hp : w.heap[p]? = some (.cells #[.int .i64 c] 3 (0, 0)))
    (hq : w.heap[q]? = some (.cells #[.int .u8 d, .int .i64 a, .int .u64 v] 54 (0, 0))) (hne : p ≠ q) :
    Calls Try.prog 31 #[.int .u64 x, .pointer (some ⟨p, 0, none⟩), .pointer (some ⟨q, 0, none⟩)] w fun e w' => e = .returned (.int .u64 (IntKind.u64.wrap (x + v))) ∧ w' = w.setCell ⟨p, 0, none⟩ (.int .i64 (wrap64 (c + 1))) := by
  refine calls_abs fun R hR => ?_
  have c1 := cell_at hp
  have f1 := frozen_at hp
  have c2 := cell_at hq
  clear hp hq
  go_enter Try.func31, Try.ntmps31
  go_wp2
  exact hR.out _ _ ⟨rfl, rfl⟩

/-- What stands behind an act: the arena, the reference at block q. -/
def ArenaAt (w0 : World) (b g q m : Nat) (wr : World) : Prop :=
  ∃ (W : List Int) (t l : Int) (ao : Option Addr) (cap : Nat), W.length = m ∧ Arn wr b g W t l ∧ wr.heap[q]? = some (.cells #[.slice ao m cap, .int .u64 t, .int .i64 l] 51 (0, 0)) ∧
    Rd wr (.slice ao m cap) m (W.map (Value.int .u64)) ∧ (∀ a, ao = some a → b < a.block ∧ g < a.block ∧ a.block ≠ q) ∧ Below w0.heap.size w0 wr ∧ b < q ∧ g < q

set_option maxRecDepth 100000 in
set_option maxHeartbeats 4000000 in
theorem arena_plays_law (words : Int) (ao : Option Addr) (n cap : Nat) (F : Nat → Nat → Int) (w : World)
    (hA : Recs w (.slice ao n cap) n [.u8, .i64, .u64] F) : Calls Try.prog 6 #[.int .i64 words, .slice ao n cap] w fun e w' => e = .returned (.bool true) ∧ Below w.heap.size w w' := by
  refine calls_abs fun R hR => ?_
  have HA := Lib.hid hA
  have hnm : n ≤ 9223372036854775807 := by
    obtain ⟨cs, hr, _⟩ := hA
    obtain ⟨_, _, hv, h1, h2, _⟩ := hr
    simp only [maxLen] at h2
    omega
  clear hA
  by_cases hbig : 100 < n
  · go_enter Try.func6, Try.ntmps6
    go_wp2_with (go_at_call 24; refine (arena_wakes _).mono ?_; rintro e w' ⟨rfl, hk⟩)
    exact hR.out _ _ ⟨rfl, hk.below (Nat.le_refl _) (by simp)⟩
  by_cases hmid : 300 < words ∧ words ≤ 4096
  · obtain ⟨m1, m2⟩ := hmid
    go_enter Try.func6, Try.ntmps6
    go_wp2_with (go_at_call 24; refine (arena_wakes _).mono ?_; rintro e w' ⟨rfl, hk⟩)
    exact hR.out _ _ ⟨rfl, hk.below (Nat.le_refl _) (by simp)⟩
  by_cases hlow : words < 1
  · have m1 : ¬ 300 < words := by omega
    clear hmid
    go_enter Try.func6, Try.ntmps6
    go_wp2_with (first | (go_at_call 25; refine (arena_new_bad words (.inl hlow) _).mono ?_; rintro e w' ⟨rfl, rfl⟩) | (go_at_call 24; refine (arena_wakes _).mono ?_; rintro e w' ⟨rfl, hk⟩))
    exact hR.out _ _ ⟨rfl, hk.below (Nat.le_refl _) (by simp)⟩
  by_cases hhigh : 4096 < words
  · have m1 : 300 < words := by omega
    have m2 : ¬ words ≤ 4096 := by omega
    clear hmid
    go_enter Try.func6, Try.ntmps6
    go_wp2_with (first | (go_at_call 25; refine (arena_new_bad words (.inr hhigh) _).mono ?_; rintro e w' ⟨rfl, rfl⟩) | (go_at_call 24; refine (arena_wakes _).mono ?_; rintro e w' ⟨rfl, hk⟩))
    exact hR.out _ _ ⟨rfl, hk.below (Nat.le_refl _) (by simp)⟩
  obtain ⟨m, rfl⟩ : ∃ m : Nat, words = m := ⟨words.toNat, by omega⟩
  have m1 : ¬ 300 < (m : Int) := by omega
  clear hmid
  go_enter Try.func6, Try.ntmps6
  go_wp2_with fail
  refine Calls.mono (arena_new m m rfl (by omega) (by omega) _) ?_
  rintro e w1 ⟨b, g, rfl, A1, K1, hb, hg⟩
  have hbl := lt_of_block A1.head
  have hgl := lt_of_block A1.row
  have HA1 := Lib.hid A1; have HK1 := Lib.hid K1; clear A1 K1
  go_wp2_with fail
  refine Calls.mono (ref02_new m m rfl (by omega) _) ?_
  rintro e w2 ⟨rfl, R2, K2, hsz2⟩
  have HR2 := Lib.hid R2; have HK2 := Lib.hid K2; clear R2 K2
  go_wp2_with fail
  go_loopg [8] n (fun j i wr => ∃ k : Nat, k + j = n ∧ i = .int .i64 k ∧ ArenaAt w b g w2.heap.size m wr)
  case atStart => exact ⟨0, by omega, rfl, List.replicate m 0, 0, -1, _, _, by simp, HA1.out.keep (S := []) (by repeat (first | (with_reducible exact HK2.out) | (with_reducible refine Keep.drew ?_) | (with_reducible refine Keep.drewN ?_ _) | (with_reducible refine Keep.alloc ?_ _) | (with_reducible refine Keep.setCell ?_ (by first | (simp; done) | (simp; omega) | (left; dsimp only; omega)) _))) (by simp) (by simp), alloc_new _ _ _ rfl, HR2.out.keep (S := []) (by repeat (first | (with_reducible exact (Keep.refl _ w2)) | (with_reducible refine Keep.drew ?_) | (with_reducible refine Keep.drewN ?_ _) | (with_reducible refine Keep.alloc ?_ _) | (with_reducible refine Keep.setCell ?_ (by first | (simp; done) | (simp; omega) | (left; dsimp only; omega)) _))) (by simp), fun a ha => by cases ha; simp; omega, Keep.below (S := []) (HK1.out.trans (by repeat (first | (with_reducible exact HK2.out) | (with_reducible refine Keep.drew ?_) | (with_reducible refine Keep.drewN ?_ _) | (with_reducible refine Keep.alloc ?_ _) | (with_reducible refine Keep.setCell ?_ (by first | (simp; done) | (simp; omega) | (left; dsimp only; omega)) _)))) (Nat.le_refl _) (by simp), by have := HK2.out.size; omega, by have := HK2.out.size; omega⟩
  case round =>
    obtain ⟨k, hkj, rfl, hP⟩ := hrel
    have HP := Lib.hid hP; clear hP
    by_cases hkn : k < n
    · obtain ⟨ab, aof, rfl, hab, hcells⟩ := HA.out.cell hkn (by simp)
      have c0 := (hcells 0 .u8 rfl).1
      have c1 := (hcells 1 .i64 rfl).1
      have c2 := (hcells 2 .u64 rfl).1
      simp only [Nat.add_zero, List.length_cons, List.length_nil, ← Nat.add_assoc] at c0 c1 c2
      clear hcells
      obtain ⟨W, t, l, ao', cap', hm, h1, h2, h3, h4, h5, h6, h7⟩ := HP.out
      have d0 := (h5.cell (p := ⟨ab, aof + k * 3, none⟩) hab).trans c0
      have d1 := (h5.cell (p := ⟨ab, aof + k * 3 + 1, none⟩) hab).trans c1
      have d2 := (h5.cell (p := ⟨ab, aof + k * 3 + 2, none⟩) hab).trans c2
      clear c0 c1 c2
      have cq := cell_at h2
      have fq := frozen_at h2
      have lq := lt_of_block h2
      have H1 := Lib.hid h1; have H2 := Lib.hid h2; have H3 := Lib.hid h3; have H4 := Lib.hid h4; have H5 := Lib.hid h5
      clear h1 h2 h3 h4 h5
      have HMX := Lib.hid hm
      by_cases hd0 : F k 0 = 0
      · have t0 : (F k 0 == 0) = true := by simp [hd0]
        have t0' : (F k 0 != 0) = false := by simp [hd0]
        clear hd0
        go_wp2_with fail
        refine Calls.mono (ref02_touch_any ao' cap' m W hm t l (F k 1) (F k 2) false _ (by omega) ?_) ?_
        · exact H3.out.keep (S := []) (by repeat (first | (with_reducible exact Keep.refl _ _) | (with_reducible refine Keep.drew ?_) | (with_reducible refine Keep.drewN ?_ _) | (with_reducible refine Keep.alloc ?_ _) | (with_reducible refine Keep.setCell ?_ (by first | (simp; done) | (simp; omega) | (left; dsimp only; omega)) _))) (by simp)
        rintro e w3 ⟨ao3, cap3, rfl, R3, K3, fr3⟩
        have hfr : ∀ x, (Value.slice ao3 m cap3).ownBlock = some x → b < x ∧ g < x ∧ x ≠ w2.heap.size := fun x hx => by
          cases ao3 with
          | none => simp [Value.ownBlock] at hx
          | some a =>
            simp [Value.ownBlock] at hx
            rcases fr3 a rfl with h | h
            · simp at h; omega
            · have := H4.out a h; omega
        have bx3 := K3.get (alloc_new wr (.cells #[.int .u8 (F k 0), .int .i64 (F k 1), .int .u64 (F k 2)] 54) _ rfl) (by simp)
        have bq3 := K3.get (alloc_keeps H2.out _) (by simp)
        have cx3 := cell_at bx3
        have cq3 := cell_at bq3
        have fq3 := frozen_at bq3
        have lx3 := lt_of_block bx3
        have lq3 := lt_of_block bq3
        have HBX3 := Lib.hid bx3; have HBQ3 := Lib.hid bq3; have HR3 := Lib.hid R3; have HFR3 := Lib.hid hfr
        have HW3 : Hid (Keep [] wr w3) := ((Keep.refl _ wr).alloc _).trans K3
        have HZ3 := Lib.hid HW3.out.size
        clear cq fq d0 d1 d2 bx3 bq3 R3 K3 fr3 hfr
        go_wp2_with fail
        refine Calls.mono (arena_read_any (b := b) (g := g) (W := W) (t := t) (l := l) ?_ (F k 1)) ?_
        · exact H1.out.keep (S := []) (by repeat (first | (with_reducible exact HW3.out) | (with_reducible refine Keep.drew ?_) | (with_reducible refine Keep.drewN ?_ _) | (with_reducible refine Keep.alloc ?_ _) | (with_reducible refine Keep.setCell ?_ (by first | (simp; done) | (simp; omega) | (left; dsimp only; omega)) _))) (by simp) (by simp)
        rintro e w4 ⟨rfl, A4, K4⟩
        rw [hm] at A4
        have bx4 := K4.get (alloc_keeps HBX3.out _) (by simp; omega)
        have bq4 := K4.get (alloc_keeps HBQ3.out _) (by simp; omega)
        have bt4 := K4.get (alloc_new w3 (.cells #[.slice ao3 m cap3, .int .u64 (tz m (F k 1) t), .int .i64 (lz m (F k 1) l)] 51) _ rfl) (by simp; omega)
        have cx4 := cell_at bx4
        have cq4 := cell_at bq4
        have fq4 := frozen_at bq4
        have ct4 := cell_at bt4
        have lq4 := lt_of_block bq4
        have n1 : ¬ w2.heap.size = w3.heap.size := by omega
        have n2 : ¬ w3.heap.size = w2.heap.size := by omega
        have HW4 : Hid (Keep [b, g] w3 w4) := ((Keep.refl _ w3).alloc _).trans K4
        have hq5 : (w4.setCell ⟨w2.heap.size, 0, none⟩ (.slice ao3 m cap3)).heap[w2.heap.size]? = _ := put_at bq4 0 _
        have HA4 := Lib.hid A4; have HBQ4 := Lib.hid bq4
        clear A4 K4 bx4 bq4 bt4 hq5 cx3 cq3 fq3
        have A5 : Arn (((w4.setCell ⟨w2.heap.size, 0, none⟩ (.slice ao3 m cap3)).setCell ⟨w2.heap.size, 1, none⟩ (.int .u64 (tz m (F k 1) t))).setCell ⟨w2.heap.size, 2, none⟩ (.int .i64 (lz m (F k 1) l))) b g W (tz m (F k 1) t) (lz m (F k 1) l) := by
          refine Arn.keep (S := [w2.heap.size]) HA4.out ?_ (by simp; omega) (by simp; omega)
          ((repeat (first | (with_reducible exact Keep.refl _ _) | (with_reducible refine Keep.drew ?_) | (with_reducible refine Keep.drewN ?_ _) | (with_reducible refine Keep.alloc ?_ _) | ((with_reducible refine Keep.setCell ?_ ?_ _); rotate_left; focus (first | (simp; done) | (simp; omega) | (left; dsimp only; omega))))); done)
        have HA5 := Lib.hid A5; clear A5
        go_wp2_with fail
        go_quiet (first | (go_at_call 32; exact Calls.quiet_of_same (arena_touched (HA5.out.keep (S := []) (by repeat (first | (with_reducible exact Keep.refl _ _) | (with_reducible refine Keep.drew ?_) | (with_reducible refine Keep.drewN ?_ _) | (with_reducible refine Keep.alloc ?_ _) | (with_reducible refine Keep.setCell ?_ (by first | (simp; done) | (simp; omega) | (left; dsimp only; omega)) _))) (by simp) (by simp)))) | (go_at_call 33; exact Calls.quiet_of_same (arena_last (HA5.out.keep (S := []) (by repeat (first | (with_reducible exact Keep.refl _ _) | (with_reducible refine Keep.drew ?_) | (with_reducible refine Keep.drewN ?_ _) | (with_reducible refine Keep.alloc ?_ _) | (with_reducible refine Keep.setCell ?_ (by first | (simp; done) | (simp; omega) | (left; dsimp only; omega)) _))) (by simp) (by simp)))))
        go_wp2_with fail
        go_roundg (n - (k + 1))
        case measure => omega
        case rel =>
          have hbs := H5.out.size
          have hb4 := HBQ4.out
          refine ⟨k + 1, by omega, by go_num, W, _, _, ao3, cap3, hm, HA5.out.keep (S := []) (by repeat (first | (with_reducible exact Keep.refl _ _) | (with_reducible refine Keep.drew ?_) | (with_reducible refine Keep.drewN ?_ _) | (with_reducible refine Keep.alloc ?_ _) | (with_reducible refine Keep.setCell ?_ (by first | (simp; done) | (simp; omega) | (left; dsimp only; omega)) _))) (by simp) (by simp), (by simp [World.alloc, World.setCell, World.drew, World.drewN, Array.getElem?_push, Array.getElem?_modify, hb4]), ?_, fun a ha => ?_, ?_, h6, h7⟩
          · refine Rd.keep (S := [w2.heap.size]) (Rd.keep HR3.out HW4.out ?_) ?_ ?_
            · intro x hx hm'; have := HFR3.out x hx; simp at hm'; omega
            · ((repeat (first | (with_reducible exact Keep.refl _ _) | (with_reducible refine Keep.drew ?_) | (with_reducible refine Keep.drewN ?_ _) | (with_reducible refine Keep.alloc ?_ _) | ((with_reducible refine Keep.setCell ?_ ?_ _); rotate_left; focus (first | (simp; done) | (simp; omega) | (left; dsimp only; omega))))); done)
            · intro x hx hm'; have := HFR3.out x hx; simp at hm'; omega
          · exact HFR3.out a.block (by subst ha; rfl)
          · refine H5.out.trans (Keep.below (S := [b, g, w2.heap.size]) ?_ hbs (by simp; omega))
            have hk4 : Keep [b, g, w2.heap.size] wr w4 := (HW3.out.mono (by simp)).trans (HW4.out.mono (by simp))
            ((repeat (first | (with_reducible exact hk4) | (with_reducible refine Keep.drew ?_) | (with_reducible refine Keep.drewN ?_ _) | (with_reducible refine Keep.alloc ?_ _) | ((with_reducible refine Keep.setCell ?_ ?_ _); rotate_left; focus (first | (simp; done) | (simp; omega) | (left; dsimp only; omega))))); done)
      · have t0 : (F k 0 == 0) = false := by simp [hd0]
        have t0' : (F k 0 != 0) = true := by simp [hd0]
        by_cases hd1 : F k 0 = 1
        · have t1 : (F k 0 == 1) = true := by simp [hd1]
          clear hd0 hd1
          go_wp2_with fail
          refine Calls.mono (ref02_touch_any ao' cap' m W hm t l (F k 1) (F k 2) true _ (by omega) ?_) ?_
          · exact H3.out.keep (S := []) (by repeat (first | (with_reducible exact Keep.refl _ _) | (with_reducible refine Keep.drew ?_) | (with_reducible refine Keep.drewN ?_ _) | (with_reducible refine Keep.alloc ?_ _) | (with_reducible refine Keep.setCell ?_ (by first | (simp; done) | (simp; omega) | (left; dsimp only; omega)) _))) (by simp)
          rintro e w3 ⟨ao3, cap3, rfl, R3, K3, fr3⟩
          have hfr : ∀ x, (Value.slice ao3 m cap3).ownBlock = some x → b < x ∧ g < x ∧ x ≠ w2.heap.size := fun x hx => by
            cases ao3 with
            | none => simp [Value.ownBlock] at hx
            | some a =>
              simp [Value.ownBlock] at hx
              rcases fr3 a rfl with h | h
              · simp at h; omega
              · have := H4.out a h; omega
          have bx3 := K3.get (alloc_new wr (.cells #[.int .u8 (F k 0), .int .i64 (F k 1), .int .u64 (F k 2)] 54) _ rfl) (by simp)
          have bq3 := K3.get (alloc_keeps H2.out _) (by simp)
          have cx3 := cell_at bx3
          have cq3 := cell_at bq3
          have fq3 := frozen_at bq3
          have lx3 := lt_of_block bx3
          have lq3 := lt_of_block bq3
          have HBX3 := Lib.hid bx3; have HBQ3 := Lib.hid bq3; have HR3 := Lib.hid R3; have HFR3 := Lib.hid hfr
          have HW3 : Hid (Keep [] wr w3) := ((Keep.refl _ wr).alloc _).trans K3
          have HZ3 := Lib.hid HW3.out.size
          clear cq fq d0 d1 d2 bx3 bq3 R3 K3 fr3 hfr
          go_wp2_with fail
          refine Calls.mono (arena_write_any (b := b) (g := g) (W := W) (t := t) (l := l) ?_ (F k 1) (F k 2)) ?_
          · exact H1.out.keep (S := []) (by repeat (first | (with_reducible exact HW3.out) | (with_reducible refine Keep.drew ?_) | (with_reducible refine Keep.drewN ?_ _) | (with_reducible refine Keep.alloc ?_ _) | (with_reducible refine Keep.setCell ?_ (by first | (simp; done) | (simp; omega) | (left; dsimp only; omega)) _))) (by simp) (by simp)
          rintro e w4 ⟨rfl, A4, K4⟩
          rw [hm] at A4
          have bx4 := K4.get (alloc_keeps HBX3.out _) (by simp; omega)
          have bq4 := K4.get (alloc_keeps HBQ3.out _) (by simp; omega)
          have bt4 := K4.get (alloc_new w3 (.cells #[.slice ao3 m cap3, .int .u64 (tz m (F k 1) t), .int .i64 (lz m (F k 1) l)] 51) _ rfl) (by simp; omega)
          have cx4 := cell_at bx4
          have cq4 := cell_at bq4
          have fq4 := frozen_at bq4
          have ct4 := cell_at bt4
          have lq4 := lt_of_block bq4
          have n1 : ¬ w2.heap.size = w3.heap.size := by omega
          have n2 : ¬ w3.heap.size = w2.heap.size := by omega
          have HW4 : Hid (Keep [b, g] w3 w4) := ((Keep.refl _ w3).alloc _).trans K4
          have hq5 : (w4.setCell ⟨w2.heap.size, 0, none⟩ (.slice ao3 m cap3)).heap[w2.heap.size]? = _ := put_at bq4 0 _
          have HA4 := Lib.hid A4; have HBQ4 := Lib.hid bq4
          clear A4 K4 bx4 bq4 bt4 hq5 cx3 cq3 fq3
          have A5 : Arn (((w4.setCell ⟨w2.heap.size, 0, none⟩ (.slice ao3 m cap3)).setCell ⟨w2.heap.size, 1, none⟩ (.int .u64 (tz m (F k 1) t))).setCell ⟨w2.heap.size, 2, none⟩ (.int .i64 (lz m (F k 1) l))) b g (putz W (F k 1) (F k 2)) (tz m (F k 1) t) (lz m (F k 1) l) := by
            refine Arn.keep (S := [w2.heap.size]) HA4.out ?_ (by simp; omega) (by simp; omega)
            ((repeat (first | (with_reducible exact Keep.refl _ _) | (with_reducible refine Keep.drew ?_) | (with_reducible refine Keep.drewN ?_ _) | (with_reducible refine Keep.alloc ?_ _) | ((with_reducible refine Keep.setCell ?_ ?_ _); rotate_left; focus (first | (simp; done) | (simp; omega) | (left; dsimp only; omega))))); done)
          have HA5 := Lib.hid A5; clear A5
          go_wp2_with fail
          go_quiet (first | (go_at_call 32; exact Calls.quiet_of_same (arena_touched (HA5.out.keep (S := []) (by repeat (first | (with_reducible exact Keep.refl _ _) | (with_reducible refine Keep.drew ?_) | (with_reducible refine Keep.drewN ?_ _) | (with_reducible refine Keep.alloc ?_ _) | (with_reducible refine Keep.setCell ?_ (by first | (simp; done) | (simp; omega) | (left; dsimp only; omega)) _))) (by simp) (by simp)))) | (go_at_call 33; exact Calls.quiet_of_same (arena_last (HA5.out.keep (S := []) (by repeat (first | (with_reducible exact Keep.refl _ _) | (with_reducible refine Keep.drew ?_) | (with_reducible refine Keep.drewN ?_ _) | (with_reducible refine Keep.alloc ?_ _) | (with_reducible refine Keep.setCell ?_ (by first | (simp; done) | (simp; omega) | (left; dsimp only; omega)) _))) (by simp) (by simp)))))
          go_wp2_with fail
          go_roundg (n - (k + 1))
          case measure => omega
          case rel =>
            have hbs := H5.out.size
            have hb4 := HBQ4.out
            refine ⟨k + 1, by omega, by go_num, (putz W (F k 1) (F k 2)), _, _, ao3, cap3, (putz_length _ _ _).trans hm, HA5.out.keep (S := []) (by repeat (first | (with_reducible exact Keep.refl _ _) | (with_reducible refine Keep.drew ?_) | (with_reducible refine Keep.drewN ?_ _) | (with_reducible refine Keep.alloc ?_ _) | (with_reducible refine Keep.setCell ?_ (by first | (simp; done) | (simp; omega) | (left; dsimp only; omega)) _))) (by simp) (by simp), (by simp [World.alloc, World.setCell, World.drew, World.drewN, Array.getElem?_push, Array.getElem?_modify, hb4]), ?_, fun a ha => ?_, ?_, h6, h7⟩
            · refine Rd.keep (S := [w2.heap.size]) (Rd.keep HR3.out HW4.out ?_) ?_ ?_
              · intro x hx hm'; have := HFR3.out x hx; simp at hm'; omega
              · ((repeat (first | (with_reducible exact Keep.refl _ _) | (with_reducible refine Keep.drew ?_) | (with_reducible refine Keep.drewN ?_ _) | (with_reducible refine Keep.alloc ?_ _) | ((with_reducible refine Keep.setCell ?_ ?_ _); rotate_left; focus (first | (simp; done) | (simp; omega) | (left; dsimp only; omega))))); done)
              · intro x hx hm'; have := HFR3.out x hx; simp at hm'; omega
            · exact HFR3.out a.block (by subst ha; rfl)
            · refine H5.out.trans (Keep.below (S := [b, g, w2.heap.size]) ?_ hbs (by simp; omega))
              have hk4 : Keep [b, g, w2.heap.size] wr w4 := (HW3.out.mono (by simp)).trans (HW4.out.mono (by simp))
              ((repeat (first | (with_reducible exact hk4) | (with_reducible refine Keep.drew ?_) | (with_reducible refine Keep.drewN ?_ _) | (with_reducible refine Keep.alloc ?_ _) | ((with_reducible refine Keep.setCell ?_ ?_ _); rotate_left; focus (first | (simp; done) | (simp; omega) | (left; dsimp only; omega))))); done)
        · have t1 : (F k 0 == 1) = false := by simp [hd1]
          clear hd0 hd1
          go_wp2_with fail
          refine Calls.mono (ref02_touch_any ao' cap' m W hm t l (F k 1) (F k 2) true _ (by omega) ?_) ?_
          · exact H3.out.keep (S := []) (by repeat (first | (with_reducible exact Keep.refl _ _) | (with_reducible refine Keep.drew ?_) | (with_reducible refine Keep.drewN ?_ _) | (with_reducible refine Keep.alloc ?_ _) | (with_reducible refine Keep.setCell ?_ (by first | (simp; done) | (simp; omega) | (left; dsimp only; omega)) _))) (by simp)
          rintro e w3 ⟨ao3, cap3, rfl, R3, K3, fr3⟩
          have hfr : ∀ x, (Value.slice ao3 m cap3).ownBlock = some x → b < x ∧ g < x ∧ x ≠ w2.heap.size := fun x hx => by
            cases ao3 with
            | none => simp [Value.ownBlock] at hx
            | some a =>
              simp [Value.ownBlock] at hx
              rcases fr3 a rfl with h | h
              · simp at h; omega
              · have := H4.out a h; omega
          have bx3 := K3.get (alloc_new wr (.cells #[.int .u8 (F k 0), .int .i64 (F k 1), .int .u64 (F k 2)] 54) _ rfl) (by simp)
          have bq3 := K3.get (alloc_keeps H2.out _) (by simp)
          have cx3 := cell_at bx3
          have cq3 := cell_at bq3
          have fq3 := frozen_at bq3
          have lx3 := lt_of_block bx3
          have lq3 := lt_of_block bq3
          have HBX3 := Lib.hid bx3; have HBQ3 := Lib.hid bq3; have HR3 := Lib.hid R3; have HFR3 := Lib.hid hfr
          have HW3 : Hid (Keep [] wr w3) := ((Keep.refl _ wr).alloc _).trans K3
          have HZ3 := Lib.hid HW3.out.size
          clear cq fq d0 d1 d2 bx3 bq3 R3 K3 fr3 hfr
          go_wp2_with fail
          have hF31 := Try.call31
          refine Calls.mono (arena_update_any (b := b) (g := g) (W := W) (t := t) (l := l) ?_ (F k 1) 31 hF31 #[.pointer (some ⟨w3.heap.size + 1, 0, none⟩), .pointer (some ⟨wr.heap.size, 0, none⟩)] [w3.heap.size + 1] (fun _ => .cells #[.int .i64 1] 3 (0, 0)) (IntKind.u64.wrap (rdz W (F k 1) + F k 2)) (by simp; omega) (by simp; omega) (by simp) ?_) ?_
          · exact H1.out.keep (S := []) (by repeat (first | (with_reducible exact HW3.out) | (with_reducible refine Keep.drew ?_) | (with_reducible refine Keep.drewN ?_ _) | (with_reducible refine Keep.alloc ?_ _) | (with_reducible refine Keep.setCell ?_ (by first | (simp; done) | (simp; omega) | (left; dsimp only; omega)) _))) (by simp) (by simp)
          · intro hin wz kz
            refine Calls.mono (arena_plays_fn _ 0 (F k 2) (F k 0) (F k 1) (w3.heap.size + 1) wr.heap.size wz ?_ ?_ (by omega)) ?_
            · exact kz.get (alloc_new (w3.alloc _) _ _ (by simp)) (by simp; omega)
            · exact kz.get (alloc_keeps (alloc_keeps HBX3.out _) _) (by simp; omega)
            · rintro e w6 ⟨rfl, rfl⟩
              refine ⟨rfl, Keep.setCell (Keep.refl _ _) (.inr (by simp)) _, fun x hx => ?_⟩
              simp at hx
              subst hx
              rw [put_at (kz.get (alloc_new (w3.alloc _) _ _ (by simp)) (by simp; omega))]
              simp [wrap64]
          rintro e w4 ⟨rfl, A4, K4, OT, OF⟩
          rw [hm] at A4 OT OF
          have bx4 := K4.get (alloc_keeps (alloc_keeps HBX3.out _) _) (by simp; omega)
          have bq4 := K4.get (alloc_keeps (alloc_keeps HBQ3.out _) _) (by simp; omega)
          have bt4 := K4.get (alloc_keeps (alloc_new w3 (.cells #[.slice ao3 m cap3, .int .u64 (tz m (F k 1) t), .int .i64 (lz m (F k 1) l)] 51) _ rfl) _) (by simp; omega)
          have bz4 : w4.heap[w3.heap.size + 1]? = some (.cells #[.int .i64 (if inr m (F k 1) then 1 else 0)] 3 (0, 0)) := by
            cases hi : inr m (F k 1) with
            | true => exact OT hi _ (by simp)
            | false => exact (OF hi _ (by simp)).trans (alloc_new (w3.alloc _) _ _ (by simp))
          have HW4 : Hid (Keep [b, g] w3 w4) := Keep.fresh (((Keep.refl _ w3).alloc _).alloc _) K4 (by simp)
          have hs4 := HW4.out.size
          have lz4 := lt_of_block bz4
          have cx4 := cell_at bx4
          have cq4 := cell_at bq4
          have r4 : Rd w4 (.slice ao' m cap') m (W.map (Value.int .u64)) := by
            refine Rd.keep (H3.out.keep HW3.out (by simp)) HW4.out ?_
            intro x hx hm'; cases ao' with
            | none => simp [Value.ownBlock] at hx
            | some a => have := H4.out a rfl; simp [Value.ownBlock] at hx; simp at hm'; omega
          have HA4 := Lib.hid A4; have HBX4 := Lib.hid bx4; have HBQ4 := Lib.hid bq4; have HBT4 := Lib.hid bt4; have HBZ4 := Lib.hid bz4; have HR4 := Lib.hid r4
          clear A4 K4 OT OF bx4 bq4 bt4 bz4 r4 cx3 cq3 fq3
          go_wp2_with fail
          refine Calls.mono (ref02_touch_any ao' cap' m W HMX.out t l (F k 1) (IntKind.u64.wrap (rdz W (F k 1) + F k 2)) true _ (by omega) HR4.out) ?_
          rintro e w5 ⟨ao5, cap5, rfl, R5, K5, fr5⟩
          have hfr5 : ∀ x, (Value.slice ao5 m cap5).ownBlock = some x → b < x ∧ g < x ∧ x ≠ w2.heap.size ∧ x ≠ w3.heap.size := fun x hx => by
            cases ao5 with
            | none => simp [Value.ownBlock] at hx
            | some a =>
              simp [Value.ownBlock] at hx
              rcases fr5 a rfl with h | h
              · omega
              · have h4 := H4.out a h
                have : a.block < w3.heap.size ∨ m = 0 := by
                  by_cases hm0 : m = 0
                  · exact .inr hm0
                  · obtain ⟨b6, o6, h6', hb6, _⟩ := H3.out.some (by simp; omega)
                    rw [h] at h6'
                    cases h6'
                    exact .inl (by dsimp only; omega)
                rcases this with h5 | h5
                · omega
                · omega
          have bx5 := K5.get HBX4.out (by simp)
          have bq5 := K5.get HBQ4.out (by simp)
          have bt5 := K5.get HBT4.out (by simp)
          have bz5 := K5.get HBZ4.out (by simp)
          have cx5 := cell_at bx5
          have cq5 := cell_at bq5
          have fq5 := frozen_at bq5
          have ct5 := cell_at bt5
          have ft5 := frozen_at bt5
          have cz5 := cell_at bz5
          have lq5 := lt_of_block bq5
          have n1 : ¬ w2.heap.size = w3.heap.size := by omega
          have n2 : ¬ w3.heap.size = w2.heap.size := by omega
          have n3 : ¬ w3.heap.size = wr.heap.size := by omega
          have n4 : ¬ w3.heap.size = w3.heap.size + 1 := by omega
          have HBQ5 := Lib.hid bq5; have HR5 := Lib.hid R5; have HFR5 := Lib.hid hfr5
          have HW5 : Hid (Keep [] w4 w5) := K5
          have hs5 := HW5.out.size
          have A5 : Arn (((((((w5.setCell ⟨w3.heap.size, 0, none⟩ (.slice ao5 m cap5)).setCell ⟨w3.heap.size, 1, none⟩ (.int .u64 (tz m (F k 1) t))).setCell ⟨w3.heap.size, 2, none⟩ (.int .i64 (lz m (F k 1) l))).setCell ⟨w2.heap.size, 0, none⟩ (.slice ao5 m cap5)).setCell ⟨w2.heap.size, 1, none⟩ (.int .u64 (tz m (F k 1) t))).setCell ⟨w2.heap.size, 2, none⟩ (.int .i64 (lz m (F k 1) l)))) b g (putz W (F k 1) (IntKind.u64.wrap (rdz W (F k 1) + F k 2))) (tz m (F k 1) t) (lz m (F k 1) l) := by
            refine Arn.keep (S := [w2.heap.size, w3.heap.size]) (HA4.out.keep HW5.out (by simp) (by simp)) ?_ (by simp; omega) (by simp; omega)
            ((repeat (first | (with_reducible exact Keep.refl _ _) | (with_reducible refine Keep.drew ?_) | (with_reducible refine Keep.drewN ?_ _) | (with_reducible refine Keep.alloc ?_ _) | ((with_reducible refine Keep.setCell ?_ ?_ _); rotate_left; focus (first | (simp; done) | (simp; omega) | (left; dsimp only; omega))))); done)
          have HA5 := Lib.hid A5; clear A5 bx5 bq5 bt5 bz5 R5 K5 fr5 hfr5 cx4 cq4
          cases hi : inr m (F k 1) with
          | true =>
            obtain ⟨i, hfk, him⟩ := inr_true hi
            rw [hi] at cz5
            have i1 : (0 : Int) ≤ F k 1 := by omega
            have i2 : F k 1 < (m : Int) := by omega
            clear hi hfk
            go_wp2_with fail
            go_quiet (first | (go_at_call 32; exact Calls.quiet_of_same (arena_touched (HA5.out.keep (S := []) (by repeat (first | (with_reducible exact Keep.refl _ _) | (with_reducible refine Keep.drew ?_) | (with_reducible refine Keep.drewN ?_ _) | (with_reducible refine Keep.alloc ?_ _) | (with_reducible refine Keep.setCell ?_ (by first | (simp; done) | (simp; omega) | (left; dsimp only; omega)) _))) (by simp) (by simp)))) | (go_at_call 33; exact Calls.quiet_of_same (arena_last (HA5.out.keep (S := []) (by repeat (first | (with_reducible exact Keep.refl _ _) | (with_reducible refine Keep.drew ?_) | (with_reducible refine Keep.drewN ?_ _) | (with_reducible refine Keep.alloc ?_ _) | (with_reducible refine Keep.setCell ?_ (by first | (simp; done) | (simp; omega) | (left; dsimp only; omega)) _))) (by simp) (by simp)))))
            go_wp2_with fail
            go_roundg (n - (k + 1))
            case measure => omega
            case rel =>
              have hbs := H5.out.size
              have hb4 := HBQ5.out
              have hb5 := HFR5.out
              refine ⟨k + 1, by omega, by go_num, putz W (F k 1) (IntKind.u64.wrap (rdz W (F k 1) + F k 2)), _, _, ao5, cap5, (putz_length _ _ _).trans HMX.out, HA5.out.keep (S := []) (by repeat (first | (with_reducible exact Keep.refl _ _) | (with_reducible refine Keep.drew ?_) | (with_reducible refine Keep.drewN ?_ _) | (with_reducible refine Keep.alloc ?_ _) | (with_reducible refine Keep.setCell ?_ (by first | (simp; done) | (simp; omega) | (left; dsimp only; omega)) _))) (by simp) (by simp), (by simp [World.alloc, World.setCell, World.drew, World.drewN, Array.getElem?_push, Array.getElem?_modify, hb4, n1, n2]), ?_, fun a ha => ?_, ?_, h6, h7⟩
              · refine Rd.keep (S := [w2.heap.size, w3.heap.size]) HR5.out ?_ ?_
                · ((repeat (first | (with_reducible exact Keep.refl _ _) | (with_reducible refine Keep.drew ?_) | (with_reducible refine Keep.drewN ?_ _) | (with_reducible refine Keep.alloc ?_ _) | ((with_reducible refine Keep.setCell ?_ ?_ _); rotate_left; focus (first | (simp; done) | (simp; omega) | (left; dsimp only; omega))))); done)
                · intro x hx hm'; have := hb5 x hx; simp at hm'; omega
              · have := hb5 a.block (by subst ha; rfl)
                exact ⟨this.1, this.2.1, this.2.2.1⟩
              · refine H5.out.trans (Keep.below (S := [b, g, w2.heap.size]) ?_ hbs (by simp; omega))
                have hk4 : Keep [b, g, w2.heap.size] wr w5 := ((HW3.out.mono (by simp)).trans (HW4.out.mono (by simp))).trans (HW5.out.mono (by simp))
                ((repeat (first | (with_reducible exact hk4) | (with_reducible refine Keep.drew ?_) | (with_reducible refine Keep.drewN ?_ _) | (with_reducible refine Keep.alloc ?_ _) | ((with_reducible refine Keep.setCell ?_ ?_ _); rotate_left; focus (first | (simp; done) | (simp; omega) | (left; dsimp only; omega))))); done)
          | false =>
            rw [hi] at cz5
            rcases inr_false hi with hout | hout
            · have i1 : ¬ (0 : Int) ≤ F k 1 := by omega
              clear hi hout
              go_wp2_with fail
              go_quiet (first | (go_at_call 32; exact Calls.quiet_of_same (arena_touched (HA5.out.keep (S := []) (by repeat (first | (with_reducible exact Keep.refl _ _) | (with_reducible refine Keep.drew ?_) | (with_reducible refine Keep.drewN ?_ _) | (with_reducible refine Keep.alloc ?_ _) | (with_reducible refine Keep.setCell ?_ (by first | (simp; done) | (simp; omega) | (left; dsimp only; omega)) _))) (by simp) (by simp)))) | (go_at_call 33; exact Calls.quiet_of_same (arena_last (HA5.out.keep (S := []) (by repeat (first | (with_reducible exact Keep.refl _ _) | (with_reducible refine Keep.drew ?_) | (with_reducible refine Keep.drewN ?_ _) | (with_reducible refine Keep.alloc ?_ _) | (with_reducible refine Keep.setCell ?_ (by first | (simp; done) | (simp; omega) | (left; dsimp only; omega)) _))) (by simp) (by simp)))))
              go_wp2_with fail
              go_roundg (n - (k + 1))
              case measure => omega
              case rel =>
                have hbs := H5.out.size
                have hb4 := HBQ5.out
                have hb5 := HFR5.out
                refine ⟨k + 1, by omega, by go_num, putz W (F k 1) (IntKind.u64.wrap (rdz W (F k 1) + F k 2)), _, _, ao5, cap5, (putz_length _ _ _).trans HMX.out, HA5.out.keep (S := []) (by repeat (first | (with_reducible exact Keep.refl _ _) | (with_reducible refine Keep.drew ?_) | (with_reducible refine Keep.drewN ?_ _) | (with_reducible refine Keep.alloc ?_ _) | (with_reducible refine Keep.setCell ?_ (by first | (simp; done) | (simp; omega) | (left; dsimp only; omega)) _))) (by simp) (by simp), (by simp [World.alloc, World.setCell, World.drew, World.drewN, Array.getElem?_push, Array.getElem?_modify, hb4, n1, n2]), ?_, fun a ha => ?_, ?_, h6, h7⟩
                · refine Rd.keep (S := [w2.heap.size, w3.heap.size]) HR5.out ?_ ?_
                  · ((repeat (first | (with_reducible exact Keep.refl _ _) | (with_reducible refine Keep.drew ?_) | (with_reducible refine Keep.drewN ?_ _) | (with_reducible refine Keep.alloc ?_ _) | ((with_reducible refine Keep.setCell ?_ ?_ _); rotate_left; focus (first | (simp; done) | (simp; omega) | (left; dsimp only; omega))))); done)
                  · intro x hx hm'; have := hb5 x hx; simp at hm'; omega
                · have := hb5 a.block (by subst ha; rfl)
                  exact ⟨this.1, this.2.1, this.2.2.1⟩
                · refine H5.out.trans (Keep.below (S := [b, g, w2.heap.size]) ?_ hbs (by simp; omega))
                  have hk4 : Keep [b, g, w2.heap.size] wr w5 := ((HW3.out.mono (by simp)).trans (HW4.out.mono (by simp))).trans (HW5.out.mono (by simp))
                  ((repeat (first | (with_reducible exact hk4) | (with_reducible refine Keep.drew ?_) | (with_reducible refine Keep.drewN ?_ _) | (with_reducible refine Keep.alloc ?_ _) | ((with_reducible refine Keep.setCell ?_ ?_ _); rotate_left; focus (first | (simp; done) | (simp; omega) | (left; dsimp only; omega))))); done)
            · have i1 : (0 : Int) ≤ F k 1 := by omega
              have i2 : ¬ F k 1 < (m : Int) := by omega
              clear hi hout
              go_wp2_with fail
              go_quiet (first | (go_at_call 32; exact Calls.quiet_of_same (arena_touched (HA5.out.keep (S := []) (by repeat (first | (with_reducible exact Keep.refl _ _) | (with_reducible refine Keep.drew ?_) | (with_reducible refine Keep.drewN ?_ _) | (with_reducible refine Keep.alloc ?_ _) | (with_reducible refine Keep.setCell ?_ (by first | (simp; done) | (simp; omega) | (left; dsimp only; omega)) _))) (by simp) (by simp)))) | (go_at_call 33; exact Calls.quiet_of_same (arena_last (HA5.out.keep (S := []) (by repeat (first | (with_reducible exact Keep.refl _ _) | (with_reducible refine Keep.drew ?_) | (with_reducible refine Keep.drewN ?_ _) | (with_reducible refine Keep.alloc ?_ _) | (with_reducible refine Keep.setCell ?_ (by first | (simp; done) | (simp; omega) | (left; dsimp only; omega)) _))) (by simp) (by simp)))))
              go_wp2_with fail
              go_roundg (n - (k + 1))
              case measure => omega
              case rel =>
                have hbs := H5.out.size
                have hb4 := HBQ5.out
                have hb5 := HFR5.out
                refine ⟨k + 1, by omega, by go_num, putz W (F k 1) (IntKind.u64.wrap (rdz W (F k 1) + F k 2)), _, _, ao5, cap5, (putz_length _ _ _).trans HMX.out, HA5.out.keep (S := []) (by repeat (first | (with_reducible exact Keep.refl _ _) | (with_reducible refine Keep.drew ?_) | (with_reducible refine Keep.drewN ?_ _) | (with_reducible refine Keep.alloc ?_ _) | (with_reducible refine Keep.setCell ?_ (by first | (simp; done) | (simp; omega) | (left; dsimp only; omega)) _))) (by simp) (by simp), (by simp [World.alloc, World.setCell, World.drew, World.drewN, Array.getElem?_push, Array.getElem?_modify, hb4, n1, n2]), ?_, fun a ha => ?_, ?_, h6, h7⟩
                · refine Rd.keep (S := [w2.heap.size, w3.heap.size]) HR5.out ?_ ?_
                  · ((repeat (first | (with_reducible exact Keep.refl _ _) | (with_reducible refine Keep.drew ?_) | (with_reducible refine Keep.drewN ?_ _) | (with_reducible refine Keep.alloc ?_ _) | ((with_reducible refine Keep.setCell ?_ ?_ _); rotate_left; focus (first | (simp; done) | (simp; omega) | (left; dsimp only; omega))))); done)
                  · intro x hx hm'; have := hb5 x hx; simp at hm'; omega
                · have := hb5 a.block (by subst ha; rfl)
                  exact ⟨this.1, this.2.1, this.2.2.1⟩
                · refine H5.out.trans (Keep.below (S := [b, g, w2.heap.size]) ?_ hbs (by simp; omega))
                  have hk4 : Keep [b, g, w2.heap.size] wr w5 := ((HW3.out.mono (by simp)).trans (HW4.out.mono (by simp))).trans (HW5.out.mono (by simp))
                  ((repeat (first | (with_reducible exact hk4) | (with_reducible refine Keep.drew ?_) | (with_reducible refine Keep.drewN ?_ _) | (with_reducible refine Keep.alloc ?_ _) | ((with_reducible refine Keep.setCell ?_ ?_ _); rotate_left; focus (first | (simp; done) | (simp; omega) | (left; dsimp only; omega))))); done)
    · have hkn2 : k = n := by omega
      obtain ⟨W, t, l, ao', cap', hm, h1, h2, h3, h4, h5, h6, h7⟩ := HP.out
      have lq := lt_of_block h2
      have H1 := Lib.hid h1; have H2 := Lib.hid h2; have H3 := Lib.hid h3; have H5 := Lib.hid h5; have HM := Lib.hid hm
      clear h1 h2 h3 h4 h5 hm hkn
      go_wp2_with fail
      refine Calls.mono (arena_all H1.out) ?_
      rintro e w3 ⟨ao3, cap3, rfl, R3, K3, fr3⟩
      rw [HM.out] at R3
      rw [HM.out]
      have bq3 := K3.get H2.out (by simp)
      have cq3 := cell_at bq3
      have lq3 := lt_of_block bq3
      have HR3 := Lib.hid R3; have HBQ3 := Lib.hid bq3; have HW3 : Hid (Keep [] wr w3) := K3
      have HR4 := Lib.hid (H3.out.keep HW3.out (by simp))
      have HA3 := Lib.hid (H1.out.keep HW3.out (by simp) (by simp))
      clear R3 K3 fr3 bq3
      have hlen := Lib.hid (arena_len HA3.out)
      rw [HM.out] at hlen
      go_wp2_with fail
      refine Calls.mono hlen.out ?_
      rintro e w4 ⟨rfl, rfl⟩
      go_wp2_with fail
      go_loopg [15] m (fun j i wx => ∃ q : Nat, q + j = m ∧ i = .int .i64 q ∧ ∃ nq, wx = w4.drewN nq)
      case atStart => exact ⟨0, by omega, rfl, 0, rfl⟩
      case round =>
        obtain ⟨q, hq, rfl, nq, rfl⟩ := hrel
        by_cases hql : q < m
        · obtain ⟨b4, o4, rfl, hb4, hc4⟩ := HR3.out.some (by rw [List.length_map, HM.out]; omega)
          obtain ⟨b5, o5, rfl, hb5, hc5⟩ := HR4.out.some (by rw [List.length_map, HM.out]; omega)
          have hqw : q < W.length := by rw [HM.out]; exact hql
          have e4 := hc4 q (.int .u64 W[q]) (by simp [hqw])
          have e5 := hc5 q (.int .u64 W[q]) (by simp [hqw])
          have i0 : (0 : Int) ≤ (q : Int) := by omega
          have i1 : (q : Int) < (m : Int) := by omega
          clear hc4 hc5
          go_wp2_with fail
          go_quiet (fail)
          go_wp2_with fail
          go_roundg (m - (q + 1))
          case measure => omega
          case rel => exact ⟨q + 1, by omega, by go_num, _, rfl⟩
        · have hqe : q = m := by omega
          go_wp2_with fail
          refine Calls.mono (arena_wakes _) ?_
          rintro e w5 ⟨rfl, K5⟩
          have HK5 := Lib.hid K5; clear K5
          go_wp2_with fail
          exact hR.out _ _ ⟨rfl, H5.out.trans (((HW3.out.drewN nq).trans HK5.out).below H5.out.size (by simp))⟩

set_option maxRecDepth 100000 in
theorem lawArenaPlays_walk {H : Type} {enc : TypeId × Value → H} {base : Nat} (W : World) {v0 v1 : Value} {d0 d1 : DataW H} {p0 p1 : List MemPlace}
    (ok0 : Value.okWide Try.prog W .any base 3 v0) (h0 : DataW.Trod enc Try.prog W 0 (fun _ => true) true 3 v0 d0 p0)
    (ok1 : Value.okWide Try.prog W .any base 44 v1) (h1 : DataW.Trod enc Try.prog W 0 (fun _ => true) true 44 v1 d1 p1) :
    Calls Try.prog 6 #[v0, v1] W fun e w' => e = .returned (.bool true) ∧ Below W.heap.size W w' := by
  obtain ⟨a0, rfl, rfl, rfl, w0⟩ := open_int Try.underlying3 ok0 h0
  obtain ⟨ao, len, cap, rfl⟩ := okWide_slice Try.underlying44 ok1
  obtain ⟨n, F, hA⟩ := open_recs (ks := [.u8, .i64, .u64]) Try.underlying44 Try.underlying54 (by kernel_rfl) (by kernel_rfl) (by kernel_rfl) h1 rfl
  have hn : len = n := by obtain ⟨_, ⟨_, _, hv, _⟩, _⟩ := hA; cases hv; rfl
  subst hn
  exact arena_plays_law a0 ao len cap F W hA
end Go.Proofs.Ytgdbccficcgbdaa
