/- demesnelaw21.wakes. -/
import Derived.Test.YtnadiddaeolanaaWords21b
import Derived.Test.YtnadiddaeolanaaMade21
import Derived.Test.YtnadiddaeolanaaInv21b
namespace Go.Proofs.Ytnadiddaeolanaa
open Go.RowKit
set_option linter.unusedVariables false
set_option linter.unusedSimpArgs false

def hA : Hd := ⟨3, 1, true, false, 0, 1, 1⟩
def hB : Hd := ⟨3, 0, false, false, 0, 1, 1⟩
def wake0 : List Int := [0, 0, 0, 0, 0, 0, 1, 264207, 9, 264195, 11, 264195, 0] ++ List.replicate 26 0
theorem wake_words (v1 v2 v3 : Value) : wordsS [0] [⟨hA, v1, [2]⟩, ⟨hB, v2, [3]⟩, ⟨hB, v3, []⟩] 0 0 = some wake0 := by kernel_rfl
def esK (bl : List Int) : Nat → En := fun k => enS (bl.getD k 0)
def hs0 : List Int := (headsOf ⟨1, 2, 1⟩ (esK [0]) 1).map (·.1)
def cnt (W : List Int) (hs : List Int) : Nat := hs.countP fun a => tellOf (rdz W a) 1 == 3
theorem wake_one : (passS 1 hs0 wake0).2 = true := by kernel_rfl
theorem wake_two : (passS 1 hs0 (passS 1 hs0 wake0).1).2 = false := by kernel_rfl
theorem wake_three : cnt (passS 1 hs0 (passS 1 hs0 wake0).1).1 hs0 = 3 := by kernel_rfl

theorem rd_of_row {w : World} {g n : Nat} {cs : Array Value} {t : TypeId} (h : w.heap[g]? = some (.cells cs t (0, 0))) (hn : n ≤ maxLen) (ho : ∀ u ∈ cs.toList, u.oneCell' = true) : Rd w (.slice (some ⟨g, 0, none⟩) n n) n cs.toList := by
  refine ⟨some ⟨g, 0, none⟩, n, rfl, Nat.le_refl _, hn, (fun h => by cases h), ho, fun a ha i u hu => ?_⟩
  cases ha
  rw [Addr.add_lit, Nat.zero_add, cell_at h]
  simpa using hu
theorem rd_of_u64 {w : World} {g : Nat} {W : List Int} (h : w.heap[g]? = some (.cells (cellsOf .u64 W) 27 (0, 0))) (hn : W.length ≤ 4096) : Rd w (.slice (some ⟨g, 0, none⟩) W.length W.length) W.length (u64s W) := by
  have := rd_of_row (n := W.length) h (by simp only [maxLen]; omega) (by intro u hu; simp [cellsOf] at hu; obtain ⟨x, _, rfl⟩ := hu; rfl)
  simpa [cellsOf, u64s] using this

set_option maxRecDepth 100000 in
theorem wakes21_fn (x : Int) (hx : 0 ≤ x ∧ x < 18446744073709551616) (a k : Int) (e : En) (n : Nat) (z : Nat) (w : World) (hz : w.heap[z]? = some (.cells #[.int .i64 (wrap64 n)] 3 (0, 0))) :
    Calls Try.prog 110 #[.int .i64 a, .int .i64 k, e.val, .int .u64 x, .pointer (some ⟨z, 0, none⟩)] w fun r w' => r = .returned (.tuple #[]) ∧ w'.heap[z]? = some (.cells #[.int .i64 (wrap64 (if tellOf x 1 == 3 then n + 1 else n : Nat))] 3 (0, 0)) ∧ Keep [z] w w' := by
  refine calls_abs fun R hR => ?_
  have htl := fun w => shade_tell x 1 hx w
  generalize tellOf x 1 = tl at *
  have HTL := Lib.hid htl; have HZ := Lib.hid hz
  obtain ⟨ek, ec, er, eo⟩ := e
  unfold En.val
  clear htl hz
  go_enter Try.func110, Try.ntmps110
  go_wp2_with fail
  generalize hw1 : World.alloc w _ = w1
  have K1 : Keep [] w w1 := by rw [← hw1]; exact (by repeat (first | (with_reducible exact Keep.refl _ _) | (with_reducible refine Keep.drew ?_) | (with_reducible refine Keep.drewN ?_ _) | (with_reducible refine Keep.alloc ?_ _) | (with_reducible refine Keep.setCell ?_ (by first | (simp; done) | (simp; omega) | (left; dsimp only; omega)) _)))
  refine (HTL.out w1).mono ?_
  rintro e w2 ⟨rfl, K2⟩
  have b2 := (K1.trans K2).get HZ.out (by simp)
  have c2 := cell_at b2; have f2 := frozen_at b2; have l2 := lt_of_block b2
  have HB2 := Lib.hid b2; have HK2 := Lib.hid (K1.trans K2)
  clear hw1 K1 K2 b2
  by_cases ht : tl = 3
  · subst ht
    rw [if_pos (by decide)] at hR
    have hw64 : IntKind.i64.wrap (wrap64 (n : Int) + 1) = wrap64 ((n + 1 : Nat) : Int) := by rw [IntKind.wrap_i64]; unfold wrap64; omega
    have hw65 : wrap64 (wrap64 (n : Int) + 1) = wrap64 ((n + 1 : Nat) : Int) := by unfold wrap64; omega
    generalize wrap64 ((n + 1 : Nat) : Int) = m1 at *
    generalize wrap64 (n : Int) = m0 at *
    go_wp2_with fail
    refine bodyPost_end (v := .tuple #[]) ?_ rfl ?_
    · kernel_rfl
    exact hR.out _ _ ⟨rfl, put_at HB2.out 0 _, by ((repeat (first | (with_reducible exact HK2.out.mono (by simp)) | (with_reducible refine Keep.drew ?_) | (with_reducible refine Keep.drewN ?_ _) | (with_reducible refine Keep.alloc ?_ _) | ((with_reducible refine Keep.setCell ?_ ?_ _); rotate_left; focus (first | (simp; done) | (simp; omega) | (left; dsimp only; omega))))); done)⟩
  · have ht2 : (tl == 3) = false := by simp [ht]
    rw [ht2, if_neg (by simp)] at hR
    go_wp2_with fail
    refine bodyPost_end (v := .tuple #[]) ?_ rfl ?_
    · kernel_rfl
    exact hR.out _ _ ⟨rfl, HB2.out, HK2.out.mono (by simp)⟩

theorem pass_heap {n : Nat} {bl : List Int} (c : Int) (hc : 0 ≤ c ∧ c ≤ 255) : ∀ (hs : List Int) (st : List Int × Bool), (∀ a ∈ hs, ∃ s ∈ spots n bl, a = s.1) → HeapW n bl st.1 → HeapW n bl (hs.foldl (visitP c) st).1
  | [], st, _, h => h
  | a :: hs, st, hm, h => by
    rw [List.foldl_cons]
    refine pass_heap c hc hs _ (fun b hb => hm b (by simp [hb])) ?_
    unfold visitP
    split
    · obtain ⟨s, hs', rfl⟩ := hm a (by simp)
      exact h.into hs' c hc
    · exact h
theorem all_spots {n : Nat} {bl : List Int} : ∀ a ∈ allS ⟨1, 2, n⟩ bl n, ∃ s ∈ spots n bl, a = s.1 := fun a ha => by
  rw [← spots_all] at ha
  obtain ⟨s, hs, rfl⟩ := List.mem_map.1 ha
  exact ⟨s, hs, rfl⟩
/-- A walker that counts black ones. -/
theorem wakes_walker (b g z : Nat) (W : List Int) (hW : HeapW 1 [0] W) (hb0 : ∀ k, 0 ≤ ([0] : List Int).getD k 0) (hz : z ≠ b ∧ z ≠ g) :
    Walker b g ⟨1, 2, 1⟩ (fun k => enS (([0] : List Int).getD k 0)) [z] 110 #[.pointer (some ⟨z, 0, none⟩)] (fun pre V w => V = W ∧ w.heap[z]? = some (.cells #[.int .i64 (wrap64 ((cnt W (pre.map (·.1)) : Nat) : Int))] 3 (0, 0))) where
  enter := Try.call110
  keep := fun hI k ho => ⟨hI.1, k.get hI.2 (ho z (by simp))⟩
  cells := fun hI x hx => by
    simp at hx
    subst hx
    exact ⟨_, _, _, hI.2⟩
  words := fun hI => by
    have := (stays_heap 1 (by omega) [0] hb0 1 (by omega)).words W hW
    rw [hI.1]
    exact this
  apart := by simp; omega
  round := fun pre V w t la a k hI hA hk ha => by
    obtain ⟨rfl, h2⟩ := hI
    refine (wakes21_fn (rdz V a) (hW.words a) a k _ _ z w h2).mono ?_
    rintro x w' ⟨rfl, hz', K⟩
    refine ⟨rfl, V, ⟨t, la, hA.keep K (by simp; omega) (by simp; omega)⟩, ⟨rfl, ?_⟩, K.mono (by simp)⟩
    have hc : cnt V ((pre ++ [(a, k)]).map (·.1)) = if tellOf (rdz V a) 1 == 3 then cnt V (pre.map (·.1)) + 1 else cnt V (pre.map (·.1)) := by
      unfold cnt
      rw [List.map_append, List.countP_append]
      simp only [List.map_cons, List.map_nil, List.countP_cons, List.countP_nil]
      split <;> simp_all
    rw [hc]
    exact hz'

set_option maxRecDepth 100000 in
set_option maxHeartbeats 8000000 in
theorem law21_wakes (w : World) : Calls Try.prog 51 #[] w fun e w' => e = .returned (.bool true) ∧ Keep [] w w' := by
  refine calls_abs fun R hR => ?_
  have mixed : Try.prog.follows .mixedOrders = true := by kernel_rfl
  have hmf : ∀ (fn : Fn) (first cap : Array Value) (w : World), (Instr.makeFunc fn first cap).run Try.prog w = .ok (.func fn first cap) w := fun _ _ _ _ => rfl
  have hb0 : ∀ k, 0 ≤ ([0] : List Int).getD k 0 := fun k => by cases k <;> simp
  go_enter Try.func51, Try.ntmps51
  go_wp2_with fail
  obtain ⟨z, hz⟩ : ∃ z, z = w.heap.size := ⟨_, rfl⟩
  simp only [← hz]
  generalize hw1 : World.alloc _ _ = w1
  have b2 : w1.heap[z + 1 + 1]? = some (.cells #[.int .u8 0] 5 (0, 0)) := by rw [← hw1]; exact alloc_keeps (alloc_keeps (alloc_keeps (alloc_new _ _ _ (by simp [hz])) _) _) _
  have b3 : w1.heap[z + 1 + 1 + 1]? = some (.cells #[.int .u8 2] 5 (0, 0)) := by rw [← hw1]; exact alloc_keeps (alloc_keeps (alloc_new _ _ _ (by simp [hz])) _) _
  have b4 : w1.heap[z + 1 + 1 + 1 + 1]? = some (.cells #[.int .u8 3] 5 (0, 0)) := by rw [← hw1]; exact alloc_keeps (alloc_new _ _ _ (by simp [hz])) _
  have b5 : w1.heap[z + 1 + 1 + 1 + 1 + 1]? = some (.cells #[.int .u8 3, .int .u8 1, .bool true, .bool false, .int .u8 0, .int .u8 1, .int .u8 1, .slice (some ⟨z + 1 + 1 + 1, 0, none⟩) 1 1, .int .u8 3, .int .u8 0, .bool false, .bool false, .int .u8 0, .int .u8 1, .int .u8 1, .slice (some ⟨z + 1 + 1 + 1 + 1, 0, none⟩) 1 1, .int .u8 3, .int .u8 0, .bool false, .bool false, .int .u8 0, .int .u8 1, .int .u8 1, .slice none 0 0] 153 (0, 0)) := by rw [← hw1]; exact alloc_new _ _ _ (by simp [hz])
  have K1 : Keep [] w w1 := by rw [← hw1]; exact (by repeat (first | (with_reducible exact Keep.refl _ _) | (with_reducible refine Keep.drew ?_) | (with_reducible refine Keep.drewN ?_ _) | (with_reducible refine Keep.alloc ?_ _) | (with_reducible refine Keep.setCell ?_ (by first | (simp; done) | (simp; omega) | (left; dsimp only; omega)) _)))
  have hcs : ∀ x ∈ ([⟨hA, .slice (some ⟨z + 1 + 1 + 1, 0, none⟩) 1 1, [2]⟩, ⟨hB, .slice (some ⟨z + 1 + 1 + 1 + 1, 0, none⟩) 1 1, [3]⟩, ⟨hB, .slice none 0 0, []⟩] : List Cl), x.ok w1 := by
    intro x hx
    simp only [List.mem_cons, List.not_mem_nil, or_false] at hx
    rcases hx with rfl | rfl | rfl
    · exact ⟨by unfold Hd.u8 hA; simp, by simp, Rd.one b3 rfl⟩
    · exact ⟨by unfold Hd.u8 hB; simp, by simp, Rd.one b4 rfl⟩
    · exact ⟨by unfold Hd.u8 hB; simp, by simp, Rd.nil _⟩
  have hrc := rd_of_row (n := 3) b5 (by simp only [maxLen]; omega) (by intro u hu; simp only [List.mem_cons, List.not_mem_nil, or_false] at hu; rcases hu with rfl | rfl | rfl | rfl | rfl | rfl | rfl | rfl | rfl | rfl | rfl | rfl | rfl | rfl | rfl | rfl | rfl | rfl | rfl | rfl | rfl | rfl | rfl | rfl <;> rfl)
  have hp : HpIn w1 (.slice (some ⟨z + 1 + 1, 0, none⟩) 1 1) (.slice (some ⟨z + 1 + 1 + 1 + 1 + 1, 0, none⟩) 3 3) [0] [⟨hA, .slice (some ⟨z + 1 + 1 + 1, 0, none⟩) 1 1, [2]⟩, ⟨hB, .slice (some ⟨z + 1 + 1 + 1 + 1, 0, none⟩) 1 1, [3]⟩, ⟨hB, .slice none 0 0, []⟩] 0 0 :=
    ⟨Rd.one b2 rfl, by simp, hrc, hcs, by omega, by omega, by simp⟩
  have hwd := law21_words _ _ _ _ _ _ w1 hp
  have hwk := wake_words (.slice (some ⟨z + 1 + 1 + 1, 0, none⟩) 1 1) (.slice (some ⟨z + 1 + 1 + 1 + 1, 0, none⟩) 1 1) (.slice none 0 0)
  rw [hwk] at hwd
  have hheap := (heapW_words [0] hb0 _ (fun x hx => (hcs x hx).1) 0 0 wake0 hwk).1
  have hHW := Lib.hid hheap
  unfold WordsR heapV Lay.val at hwd
  dsimp only [List.length_cons, List.length_nil] at hwd
  have HWD := Lib.hid hwd; have HK1 := Lib.hid K1
  clear hwd hwk hheap hp hrc hcs b2 b3 b4 b5 K1 hw1 hz
  refine HWD.out.mono ?_
  rintro e w2 ⟨g0, rfl, hg0, hgb, K2⟩
  have hr0 := rd_of_u64 hg0 (by decide)
  have hmade := fun (w' : World) (K : Keep [] w2 w') => law21_made 1 (by omega) wake0 rfl _ w' (hr0.keep K (fun _ _ => by simp))
  have hlen0 : wake0.length = 39 := rfl
  rw [hlen0] at hmade
  unfold Lay.val at hmade
  dsimp only at hmade
  have hst := stays_heap 1 (by omega) [0] hb0 1 (by omega)
  have hfit : (Lay.mk 1 2 1).fits := ⟨by decide, by decide, by decide⟩
  have hP1 := fun (w' : World) (b g : Nat) (h : ∃ t la, Arn w' b g wake0 t la) => trace_pass h (Lay.mk 1 2 1) hfit 1 (by omega) hst hHW.out
  have e1 := wake_one; have e2 := wake_two; have e3 := wake_three
  unfold hs0 esK at e1 e2 e3
  obtain ⟨W1, hW1⟩ : ∃ W1, W1 = (passS 1 ((headsOf ⟨1, 2, 1⟩ (fun k => enS (([0] : List Int).getD k 0)) 1).map (·.1)) wake0).1 := ⟨_, rfl⟩
  have hh1 : HeapW 1 [0] W1 := by
    rw [hW1]
    unfold passS
    refine pass_heap 1 (by omega) _ _ (fun a ha => ?_) hHW.out
    rw [headsOf_all _ _ hb0] at ha
    exact all_spots a ha
  have hP2 := fun (w' : World) (b g : Nat) (h : ∃ t la, Arn w' b g W1 t la) => trace_pass h (Lay.mk 1 2 1) hfit 1 (by omega) hst hh1
  obtain ⟨W2, hW2⟩ : ∃ W2, W2 = (passS 1 ((headsOf ⟨1, 2, 1⟩ (fun k => enS (([0] : List Int).getD k 0)) 1).map (·.1)) W1).1 := ⟨_, rfl⟩
  rw [← hW1] at e2 e3
  rw [← hW2] at e3
  dsimp only at hP1 hP2
  rw [e1, ← hW1] at hP1
  rw [e2, ← hW2] at hP2
  unfold Lay.val at hP1 hP2
  dsimp only at hP1 hP2
  push_cast at hP1 hP2 hmade
  have HM := Lib.hid hmade; have HP1 := Lib.hid hP1; have HP2 := Lib.hid hP2; have E3 := Lib.hid e3; have HK2 := Lib.hid (HK1.out.trans K2)
  clear hmade hP1 hP2 e1 e2 e3 hW1 hlen0 hr0 hg0 hgb K2 hst
  go_wp2_with fail
  generalize hw3 : World.alloc _ _ = w3
  have K3 : Keep [] w2 w3 := by rw [← hw3]; exact (by repeat (first | (with_reducible exact Keep.refl _ _) | (with_reducible refine Keep.drew ?_) | (with_reducible refine Keep.drewN ?_ _) | (with_reducible refine Keep.alloc ?_ _) | (with_reducible refine Keep.setCell ?_ (by first | (simp; done) | (simp; omega) | (left; dsimp only; omega)) _)))
  refine (HM.out w3 K3).mono ?_
  rintro e w4 ⟨b, g, rfl, hA4, K4, hb4, hg4⟩
  have HA4 := Lib.hid hA4; have HK4 := Lib.hid ((HK2.out.trans K3).trans K4)
  have HBG : Hid (w.heap.size ≤ b ∧ w.heap.size ≤ g) := by have := (HK2.out.trans K3).size; exact ⟨by omega, by omega⟩
  clear hw3 K3 hA4 K4 hb4 hg4 HM
  go_wp2_with fail
  obtain ⟨z7, hz7⟩ : ∃ y, y = w4.heap.size := ⟨_, rfl⟩
  simp only [← hz7]
  generalize hw5 : World.alloc _ _ = w5
  have b7 : w5.heap[z7]? = some (.cells #[.int .i64 1, .int .i64 2, .int .i64 1] 53 (0, 0)) := by rw [← hw5]; exact alloc_new _ _ _ hz7
  have K5 : Keep [] w4 w5 := by rw [← hw5]; exact (by repeat (first | (with_reducible exact Keep.refl _ _) | (with_reducible refine Keep.drew ?_) | (with_reducible refine Keep.drewN ?_ _) | (with_reducible refine Keep.alloc ?_ _) | (with_reducible refine Keep.setCell ?_ (by first | (simp; done) | (simp; omega) | (left; dsimp only; omega)) _)))
  have lbg : b < z7 ∧ g < z7 := by obtain ⟨t, la, h⟩ := HA4.out; have h1 := lt_of_block h.head; have h2 := lt_of_block h.row; omega
  have hA5 : ∃ t la, Arn w5 b g wake0 t la := by obtain ⟨t, la, h⟩ := HA4.out; exact ⟨t, la, h.keep K5 (by simp) (by simp)⟩
  have D0 : Hid (w5.cell? ⟨z7, 0, none⟩ = some (.int .i64 1)) := by rw [Hid, cell_at b7]; rfl
  have D1 : Hid (w5.cell? ⟨z7, 1, none⟩ = some (.int .i64 2)) := by rw [Hid, cell_at b7]; rfl
  have D2 : Hid (w5.cell? ⟨z7, 2, none⟩ = some (.int .i64 1)) := by rw [Hid, cell_at b7]; rfl
  have HA5 := Lib.hid hA5; have HB7 := Lib.hid b7; have HK5 := Lib.hid (HK4.out.trans K5)
  clear hw5 K5 hA5 b7 hz7 HA4 HK4
  first
  | (go_region_held3 (fun w' => w'.cell? ⟨z7, 0, none⟩ = some (.int .i64 1) ∧ w'.cell? ⟨z7, 1, none⟩ = some (.int .i64 2) ∧ w'.cell? ⟨z7, 2, none⟩ = some (.int .i64 1))
      (first
        | (refine ⟨Keep.cell (S := []) (w := w5) ?_ D0.out (by simp), Keep.cell (S := []) (w := w5) ?_ D1.out (by simp), Keep.cell (S := []) (w := w5) ?_ D2.out (by simp)⟩; all_goals (((repeat (first | (with_reducible exact Keep.refl _ _) | (with_reducible refine Keep.drew ?_) | (with_reducible refine Keep.drewN ?_ _) | (with_reducible refine Keep.alloc ?_ _) | ((with_reducible refine Keep.setCell ?_ ?_ _); rotate_left; focus (first | (simp; done) | (simp; omega) | (left; dsimp only; omega))))); done)))
        | (refine ⟨Keep.cell (S := [b, g]) (w := w5) ?_ D0.out (by simp; omega), Keep.cell (S := [b, g]) (w := w5) ?_ D1.out (by simp; omega), Keep.cell (S := [b, g]) (w := w5) ?_ D2.out (by simp; omega)⟩; all_goals (((repeat (first | (with_reducible exact HK6.out) | (with_reducible refine Keep.drew ?_) | (with_reducible refine Keep.drewN ?_ _) | (with_reducible refine Keep.alloc ?_ _) | ((with_reducible refine Keep.setCell ?_ ?_ _); rotate_left; focus (first | (simp; done) | (simp; omega) | (left; dsimp only; omega))))); done)))
        | (refine ⟨Keep.cell (S := [b, g]) (w := w5) ?_ D0.out (by simp; omega), Keep.cell (S := [b, g]) (w := w5) ?_ D1.out (by simp; omega), Keep.cell (S := [b, g]) (w := w5) ?_ D2.out (by simp; omega)⟩; all_goals (((repeat (first | (with_reducible exact HK7.out) | (with_reducible refine Keep.drew ?_) | (with_reducible refine Keep.drewN ?_ _) | (with_reducible refine Keep.alloc ?_ _) | ((with_reducible refine Keep.setCell ?_ ?_ _); rotate_left; focus (first | (simp; done) | (simp; omega) | (left; dsimp only; omega))))); done))))
      (first
        | (go_at_call 56; refine (HP2.out _ b g HA6.out).mono ?_; rintro e w7 ⟨rfl, A7, P7, K7⟩; have HA7 := Lib.hid A7; have HH7 := Lib.hid P7; have HK7 := Lib.hid (show Keep [b, g] w5 w7 from HK6.out.trans K7); clear A7 P7 K7)
        | (go_at_call 56; refine (HP1.out _ b g (by obtain ⟨t, la, h⟩ := HA5.out; refine ⟨t, la, h.keep (S := []) ?_ (by simp) (by simp)⟩; ((repeat (first | (with_reducible exact Keep.refl _ _) | (with_reducible refine Keep.drew ?_) | (with_reducible refine Keep.drewN ?_ _) | (with_reducible refine Keep.alloc ?_ _) | ((with_reducible refine Keep.setCell ?_ ?_ _); rotate_left; focus (first | (simp; done) | (simp; omega) | (left; dsimp only; omega))))); done))).mono ?_; rintro e w6 ⟨rfl, A6, P6, K6⟩; have HA6 := Lib.hid A6; have HK6 := Lib.hid (show Keep [b, g] w5 w6 from by refine Keep.trans (a := w5) ?_ K6; ((repeat (first | (with_reducible exact Keep.refl _ _) | (with_reducible refine Keep.drew ?_) | (with_reducible refine Keep.drewN ?_ _) | (with_reducible refine Keep.alloc ?_ _) | ((with_reducible refine Keep.setCell ?_ ?_ _); rotate_left; focus (first | (simp; done) | (simp; omega) | (left; dsimp only; omega))))); done)); clear A6 P6 K6)))
  | fail
  all_goals (
    have HB77 := Lib.hid (HK7.out.get HB7.out (by simp; omega))
    have HKW := Lib.hid (HK5.out.fresh HK7.out (by have := HBG.out; simp; omega))
    have c7 := cell_at HB77.out; have l7 := lt_of_block HB77.out
    go_wp2_with fail
    obtain ⟨zn, hzn⟩ : ∃ y, y = w7.heap.size := ⟨_, rfl⟩
    simp only [← hzn]
    generalize hw8 : World.alloc _ _ = w8
    have bn : w8.heap[zn]? = some (.cells #[.int .i64 0] 3 (0, 0)) := by rw [← hw8]; exact alloc_new _ _ _ hzn
    have K8 : Keep [] w7 w8 := by rw [← hw8]; exact (by repeat (first | (with_reducible exact Keep.refl _ _) | (with_reducible refine Keep.drew ?_) | (with_reducible refine Keep.drewN ?_ _) | (with_reducible refine Keep.alloc ?_ _) | (with_reducible refine Keep.setCell ?_ (by first | (simp; done) | (simp; omega) | (left; dsimp only; omega)) _)))
    obtain ⟨t7, la7, hA7⟩ := HA7.out
    have lb7 := lt_of_block hA7.head; have lg7 := lt_of_block hA7.row
    have hwk := trace_walk hfit (wakes_walker b g zn W2 HH7.out hb0 (by omega)) (hA7.keep K8 (by simp) (by simp)) ⟨rfl, by rw [show wrap64 ((cnt W2 (([] : List (Int × Nat)).map (·.1)) : Nat) : Int) = 0 from by unfold wrap64 cnt; simp]; exact bn⟩
    unfold Lay.val at hwk
    dsimp only at hwk
    push_cast at hwk
    have HWK := Lib.hid hwk; have HK8 := Lib.hid (HKW.out.trans K8)
    have HZN : Hid (w.heap.size ≤ zn) := by have := HKW.out.size; show w.heap.size ≤ zn; omega
    clear hwk hw8 K8 bn hzn hA7 c7 l7 lb7 lg7
    refine HWK.out.mono ?_
    rintro e w9 ⟨rfl, V9, hA9, ⟨rfl, hn9⟩, K9⟩
    rw [E3.out] at hn9
    have c9 := cell_at hn9
    have hk9 := HK8.out.fresh K9 (by have h1 := HBG.out; have h2 := HZN.out; simp; omega)
    have HK9 := Lib.hid hk9
    have hw3' : wrap64 ((3 : Nat) : Int) = 3 := by unfold wrap64; omega
    rw [hw3'] at c9
    clear hk9 K9 hA9 hn9 hw3'
    go_wp2_with fail
    exact hR.out _ _ ⟨rfl, HK9.out⟩)
end Go.Proofs.Ytnadiddaeolanaa
