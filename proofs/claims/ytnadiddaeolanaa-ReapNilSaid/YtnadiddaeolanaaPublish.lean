/- The contracts of package publish: its words; what it does to memory, in plain Lean. -/
import Derived.Test.YtnadiddaeolanaaShade2
import Derived.Test.YtnadiddaeolanaaApp
import Derived.Shelf.RegionOpenPlain
import Derived.Deep.LoopGhost
namespace Go.Proofs.Ytnadiddaeolanaa
open Go.RowKit
set_option linter.unusedVariables false
set_option linter.unusedSimpArgs false

def isLoc (x : Int) : Bool := isHd x && (hdOf x).kind == 2
def pubH (x c : Int) : Hd := { hdOf x with kind := 3, colour := c, marked := false }
def pubOf (x c : Int) : Int := (pubH x c).word
/-- What a turn makes of a word. -/
def turnW (x c : Int) : Int := if isLoc x then pubOf x c else x

theorem isLoc_hd {x : Int} (h : isLoc x = true) : isHd x = true ∧ (hdOf x).kind = 2 := by
  simpa [isLoc] using h
theorem pubH_u8 {x c : Int} (hx : 0 ≤ x) (hc : 0 ≤ c ∧ c ≤ 255) : (pubH x c).u8 := by
  obtain ⟨h1, h2, h3, h4, h5⟩ := hdOf_u8 x hx
  exact ⟨⟨by simp [pubH], by simp [pubH]⟩, hc, h3, h4, h5⟩
theorem may_loc {x : Int} (h : isLoc x = true) : (hdOf x).may = true := by
  obtain ⟨h1, h2⟩ := isLoc_hd h
  unfold isHd at h1
  simp at h1
  exact h1.1
theorem pubH_may {x c : Int} (h : isLoc x = true) (hc : c ≤ 1) : (pubH x c).may = true := by
  have hm := may_loc h
  have hk := (isLoc_hd h).2
  have hb := Hd.may_bounds hm
  unfold pubH
  generalize hdOf x = d at *
  obtain ⟨kind, colour, grey, marked, owner, refs, size⟩ := d
  dsimp only at hk hb ⊢
  subst hk
  unfold Hd.may
  dsimp only
  rw [if_neg (by omega), if_neg (by omega), if_neg (by omega)]
  rfl

set_option maxRecDepth 100000 in
set_option maxHeartbeats 4000000 in
theorem publish_local (x : Int) (hx : 0 ≤ x ∧ x < 18446744073709551616) (w : World) :
    Calls Try.prog 126 #[.int .u64 x] w fun e w' => e = .returned (.tuple #[(takeH x).val, .bool (isLoc x)]) ∧ Keep [] w w' := by
  refine calls_abs fun R hR => ?_
  have mixed : Try.prog.follows .mixedOrders = true := by kernel_rfl
  go_enter Try.func126, Try.ntmps126
  go_wp2_with fail
  generalize hw1 : World.alloc w _ = w1
  have b2 : w1.heap[w.heap.size]? = some (.cells #[.int .u8 0, .int .u8 0, .bool false, .bool false, .int .u8 0, .int .u8 0, .int .u8 0] 100 (0, 0)) := by rw [← hw1]; exact alloc_new w _ w.heap.size rfl
  have K1 : Keep [] w w1 := by rw [← hw1]; exact (by repeat (first | (with_reducible exact Keep.refl _ _) | (with_reducible refine Keep.drew ?_) | (with_reducible refine Keep.drewN ?_ _) | (with_reducible refine Keep.alloc ?_ _) | (with_reducible refine Keep.setCell ?_ (by first | (simp; done) | (simp; omega) | (left; dsimp only; omega)) _)))
  clear hw1
  refine (word_take x hx w1).mono ?_
  rintro e w2 ⟨rfl, K2⟩
  have HK2 := Lib.hid (K1.trans K2)
  have b2 := K2.get b2 (by simp)
  have c2 := cell_at b2
  have f2 := frozen_at b2
  have l2 := lt_of_block b2
  have n1 : ¬ w.heap.size = w2.heap.size := by omega
  have n2 : ¬ w2.heap.size = w.heap.size := by omega
  clear b2 K1 K2
  cases hi : isHd x with
  | false =>
    rw [show takeH x = Hd.zero from by simp [takeH, hi]] at hR ⊢
    have hloc : isLoc x = false := by simp [isLoc, hi]
    unfold Hd.val Hd.zero
    go_wp2_with fail
    go_region_o
    all_goals (
      go_wp2_with fail
      refine bodyPost_ret (v := .tuple #[Hd.zero.val, .bool false]) ?_ rfl ?_
      · simp [results, Try.results126, go_sem, c2, l2, n1, n2, Hd.zero, Hd.val]
      exact hR.out _ _ ⟨by rw [hloc], by ((repeat (first | (with_reducible exact HK2.out) | (with_reducible refine Keep.drew ?_) | (with_reducible refine Keep.drewN ?_ _) | (with_reducible refine Keep.alloc ?_ _) | ((with_reducible refine Keep.setCell ?_ ?_ _); rotate_left; focus (first | (simp; done) | (simp; omega) | (left; dsimp only; omega))))); done)⟩)
  | true =>
    rw [show takeH x = hdOf x from by simp [takeH, hi]] at hR ⊢
    by_cases hk : (hdOf x).kind = 2
    · have hk1 : ((hdOf x).kind == 2) = true := by simp [hk]
      have hloc : isLoc x = true := by simp [isLoc, hi, hk]
      clear hk
      unfold Hd.val
      go_wp2_with fail
      go_region_o
      all_goals (
        go_wp2_with fail
        refine bodyPost_ret (v := .tuple #[(hdOf x).val, .bool true]) ?_ rfl ?_
        · simp [results, Try.results126, go_sem, c2, l2, n1, n2, Hd.val]
        exact hR.out _ _ ⟨by rw [hloc], by ((repeat (first | (with_reducible exact HK2.out) | (with_reducible refine Keep.drew ?_) | (with_reducible refine Keep.drewN ?_ _) | (with_reducible refine Keep.alloc ?_ _) | ((with_reducible refine Keep.setCell ?_ ?_ _); rotate_left; focus (first | (simp; done) | (simp; omega) | (left; dsimp only; omega))))); done)⟩)
    · have hk1 : ((hdOf x).kind == 2) = false := by simp [hk]
      have hloc : isLoc x = false := by simp [isLoc, hi, hk]
      clear hk
      unfold Hd.val
      go_wp2_with fail
      go_region_o
      all_goals (
        go_wp2_with fail
        refine bodyPost_ret (v := .tuple #[(hdOf x).val, .bool false]) ?_ rfl ?_
        · simp [results, Try.results126, go_sem, c2, l2, n1, n2, Hd.val]
        exact hR.out _ _ ⟨by rw [hloc], by ((repeat (first | (with_reducible exact HK2.out) | (with_reducible refine Keep.drew ?_) | (with_reducible refine Keep.drewN ?_ _) | (with_reducible refine Keep.alloc ?_ _) | ((with_reducible refine Keep.setCell ?_ ?_ _); rotate_left; focus (first | (simp; done) | (simp; omega) | (left; dsimp only; omega))))); done)⟩)

set_option maxRecDepth 100000 in
set_option maxHeartbeats 4000000 in
/-- The function with which a word is turned; the publisher lies in block p. -/
theorem publish_fn (x c : Int) (hx : 0 ≤ x ∧ x < 18446744073709551616) (hc : 0 ≤ c ∧ c ≤ 1) (p : Nat) (m v : Value) (w : World) (hp : w.heap[p]? = some (.cells #[m, .int .u8 c, v] 120 (0, 0))) :
    Calls Try.prog 125 #[.int .u64 x, .pointer (some ⟨p, 0, none⟩)] w fun e w' => e = .returned (.int .u64 (turnW x c)) ∧ Keep [] w w' := by
  refine calls_abs fun R hR => ?_
  have mixed : Try.prog.follows .mixedOrders = true := by kernel_rfl
  go_enter Try.func125, Try.ntmps125
  go_wp2_with fail
  refine (publish_local x hx w).mono ?_
  rintro e w2 ⟨rfl, K2⟩
  have hp2 := K2.get hp (by simp)
  have cp : w2.cell? ⟨p, 1, none⟩ = some (.int .u8 c) := by rw [cell_at hp2]; rfl
  have lp := lt_of_block hp2
  have n1 : ¬ p = w2.heap.size := by omega
  have n2 : ¬ w2.heap.size = p := by omega
  have HK2 := Lib.hid K2
  clear K2 hp2 hp
  cases hl : isLoc x with
  | false =>
    have ht : turnW x c = x := by simp [turnW, hl]
    unfold Hd.val
    generalize takeH x = d
    go_wp2_with fail
    exact hR.out _ _ ⟨by rw [ht]; rfl, by ((repeat (first | (with_reducible exact HK2.out) | (with_reducible refine Keep.drew ?_) | (with_reducible refine Keep.drewN ?_ _) | (with_reducible refine Keep.alloc ?_ _) | ((with_reducible refine Keep.setCell ?_ ?_ _); rotate_left; focus (first | (simp; done) | (simp; omega) | (left; dsimp only; omega))))); done)⟩
  | true =>
    have ht : turnW x c = pubOf x c := by simp [turnW, hl]
    rw [show takeH x = hdOf x from by simp [takeH, (isLoc_hd hl).1]]
    have hu := pubH_u8 (c := c) hx.1 ⟨hc.1, by omega⟩
    have hm := pubH_may hl hc.2
    rw [ht] at hR
    have hw : pubOf x c = (pubH x c).word := rfl
    rw [hw] at hR
    have HU := Lib.hid hu; have HM := Lib.hid hm
    unfold pubH at HU HM hR
    clear ht hw hu hm hl
    generalize hdOf x = d at *
    obtain ⟨kind, colour, grey, marked, owner, refs, size⟩ := d
    unfold Hd.val
    dsimp only at hR HU HM ⊢
    go_wp2_with fail
    go_region_o
    all_goals (
      go_wp2_with fail
      refine (word_put ⟨3, c, grey, false, owner, refs, size⟩ HU.out _).mono ?_
      rintro e w3 ⟨rfl, K3⟩
      rw [if_pos HM.out, if_pos HM.out]
      have HK3 := Lib.hid K3; clear K3
      go_wp2_with fail
      refine hR.out _ _ ⟨by simp, Keep.trans ?_ HK3.out⟩
      ((repeat (first | (with_reducible exact HK2.out) | (with_reducible refine Keep.drew ?_) | (with_reducible refine Keep.drewN ?_ _) | (with_reducible refine Keep.alloc ?_ _) | ((with_reducible refine Keep.setCell ?_ ?_ _); rotate_left; focus (first | (simp; done) | (simp; omega) | (left; dsimp only; omega))))); done))

/-- A publisher's value: the memory, the colour, the worklist's block. -/
def pubVal (b : Nat) (c : Int) (k : Nat) : Value := .agg #[.iface 25 (.pointer (some ⟨b, 0, none⟩)), .int .u8 c, .pointer (some ⟨k, 0, none⟩)]

/-- A worklist in block k. -/
def Work (w : World) (base k : Nat) (v : Value) (Q : List Int) : Prop := w.heap[k]? = some (.cells #[v] 22 (0, 0)) ∧ w.ownsRow base 3 1 v Q.length (Q.map (Value.int .i64))
end Go.Proofs.Ytnadiddaeolanaa
