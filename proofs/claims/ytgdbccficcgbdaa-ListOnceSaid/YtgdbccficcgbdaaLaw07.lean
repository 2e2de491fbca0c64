/- The laws of stage 7: wakes; ListNil. -/
import Derived.Test.YtgdbccficcgbdaaList5
import Derived.Test.YtgdbccficcgbdaaOpen
namespace Go.Proofs.Ytgdbccficcgbdaa
open Go.RowKit Go.Shelf
set_option linter.unusedVariables false
set_option linter.unusedSimpArgs false

def L07a : Nat → List Int := pushL (fun _ => []) 0 5
def L07b : Nat → List Int := pushL L07a 0 9
def L07c : Nat → List Int := popL L07b 0
def L07d : Nat → List Int := pushL L07c 1 5
def L07e : Nat → List Int := popL L07d 0
def L07f : Nat → List Int := popL L07e 0

/-- A list of the call's own: it lies above w0's heap. -/
def ListAt (w0 : World) (b : Nat) (wr : World) (L : Nat → List Int) : Prop := ∃ V, Lst wr b V L ∧ Keep [] w0 wr ∧ w0.heap.size ≤ b
theorem ListAt.to {w0 w w' : World} {b : Nat} {V : Nat → Value} {L L' : Nat → List Int} (k : Keep [] w0 w) (hb : w0.heap.size ≤ b) (hl : Lst w b V L) (h : ListTo w w' b V L') : ListAt w0 b w' L' := by
  obtain ⟨V', h1, h2, h3⟩ := h
  exact ⟨V', h1, k.fresh h2 (fun x hx => by have := hl.blocks x hx; omega), hb⟩
theorem ListAt.keep {w0 w w' : World} {b : Nat} {L : Nat → List Int} (h : ListAt w0 b w L) (k : Keep [] w w') : ListAt w0 b w' L := by
  obtain ⟨V, h1, h2, h3⟩ := h
  exact ⟨V, h1.keep k (fun _ _ => by simp), h2.trans k, h3⟩
theorem ListAt.push {w0 w : World} {b : Nat} {L : Nat → List Int} (h : ListAt w0 b w L) (hs : total L ≤ 100000) (c x : Int) :
    Calls Try.prog 59 #[.pointer (some ⟨b, 0, none⟩), .int .i64 c, .int .i64 x] w fun e w' => e = .returned (.int .i64 (pushE L c x)) ∧ ListAt w0 b w' (pushL L c x) := by
  obtain ⟨V, h1, h2, h3⟩ := h
  exact (list_push h1 hs c x).mono (fun e w' q => ⟨q.1, ListAt.to h2 h3 h1 q.2⟩)
theorem ListAt.pop {w0 w : World} {b : Nat} {L : Nat → List Int} (h : ListAt w0 b w L) (hs : total L ≤ 100000) (c : Int) :
    Calls Try.prog 55 #[.pointer (some ⟨b, 0, none⟩), .int .i64 c] w fun e w' => e = .returned (.tuple #[.int .i64 (popX L c), .int .i64 (popE L c)]) ∧ ListAt w0 b w' (popL L c) := by
  obtain ⟨V, h1, h2, h3⟩ := h
  exact (list_pop h1 hs c).mono (fun e w' q => ⟨q.1, ListAt.to h2 h3 h1 q.2⟩)

set_option maxRecDepth 100000 in
set_option maxHeartbeats 4000000 in
theorem list_wakes (w : World) :
    Calls Try.prog 53 #[] w fun e w' => e = .returned (.bool true) ∧ Keep [] w w' := by
  refine calls_abs fun R hR => ?_
  go_enter Try.func53, Try.ntmps53
  go_wp2_with fail
  refine (list_new w).mono ?_
  rintro e w1 ⟨rfl, N1, K1⟩
  have H1 : Hid (ListAt w w.heap.size w1 (fun _ => [])) := ⟨_, N1, K1, Nat.le_refl _⟩
  clear N1 K1
  go_wp2_with fail
  refine (H1.out.push (by decide) 0 5).mono ?_
  rintro e w2 ⟨rfl, A2⟩
  have H2 : Hid (ListAt w w.heap.size w2 L07a) := A2
  clear A2
  rw [show pushE (fun _ => []) 0 5 = 0 from by decide]
  go_wp2_with fail
  refine (H2.out.push (by decide) 0 9).mono ?_
  rintro e w3 ⟨rfl, A3⟩
  have H3 : Hid (ListAt w w.heap.size w3 L07b) := A3
  clear A3
  rw [show pushE L07a 0 9 = 0 from by decide]
  go_wp2_with fail
  refine (H3.out.pop (by decide) 0).mono ?_
  rintro e w4 ⟨rfl, A4⟩
  have H4 : Hid (ListAt w w.heap.size w4 L07c) := A4
  clear A4
  rw [show popE L07b 0 = 0 from by decide, show popX L07b 0 = 9 from by decide]
  go_wp2_with fail
  refine (H4.out.push (by decide) 1 5).mono ?_
  rintro e w5 ⟨rfl, A5⟩
  have H5 : Hid (ListAt w w.heap.size w5 L07d) := A5
  clear A5
  rw [show pushE L07c 1 5 = 6 from by decide]
  go_wp2_with fail
  refine (H5.out.pop (by decide) 0).mono ?_
  rintro e w6 ⟨rfl, A6⟩
  have H6 : Hid (ListAt w w.heap.size w6 L07e) := A6
  clear A6
  rw [show popE L07d 0 = 0 from by decide, show popX L07d 0 = 5 from by decide]
  go_wp2_with fail
  refine (H6.out.pop (by decide) 0).mono ?_
  rintro e w7 ⟨rfl, A7⟩
  have H7 : Hid (ListAt w w.heap.size w7 L07f) := A7
  clear A7
  rw [show popE L07e 0 = 5 from by decide, show popX L07e 0 = 0 from by decide]
  obtain ⟨V7, h7, k7, -⟩ := H7.out
  have HL7 := Lib.hid h7; have HK7 := Lib.hid k7
  clear h7 k7
  go_wp2_with fail
  refine (list_len HL7.out (by decide) 0).mono ?_
  rintro e w8 ⟨rfl, K8⟩
  rw [show allL L07f 0 = [] from by decide]
  have HK8 := Lib.hid (HK7.out.trans K8)
  clear K8
  go_wp2_with fail
  exact hR.out _ _ ⟨rfl, HK8.out⟩

set_option maxRecDepth 100000 in
set_option maxHeartbeats 4000000 in
theorem list_nil_law (c x : Int) (w : World) :
    Calls Try.prog 13 #[.int .i64 c, .int .i64 x] w fun e w' => e = .returned (.bool true) ∧ Keep [] w w' := by
  refine calls_abs fun R hR => ?_
  go_enter Try.func13, Try.ntmps13
  go_wp2_with fail
  refine (list_pop_nil c w).mono ?_
  rintro e w1 ⟨rfl, rfl⟩
  go_wp2_with fail
  refine (list_push_nil c x w1).mono ?_
  rintro e w2 ⟨rfl, rfl⟩
  go_wp2_with fail
  refine (list_drop_nil 0 x w2).mono ?_
  rintro e w3 ⟨rfl, K3⟩
  have HK3 := Lib.hid K3; clear K3
  go_wp2_with fail
  refine (list_all_nil c w3).mono ?_
  rintro e w4 ⟨rfl, rfl⟩
  go_wp2_with fail
  refine (list_len_nil c w4).mono ?_
  rintro e w5 ⟨rfl, rfl⟩
  go_wp2_with fail
  refine (list_has_nil x w5).mono ?_
  rintro e w6 ⟨rfl, K6⟩
  have HK6 := Lib.hid (HK3.out.trans K6); clear K6
  go_wp2_with fail
  refine (list_wakes w6).mono ?_
  rintro e w7 ⟨rfl, K7⟩
  have HK7 := Lib.hid (HK6.out.trans K7); clear K7
  go_wp2_with fail
  exact hR.out _ _ ⟨rfl, HK7.out⟩
end Go.Proofs.Ytgdbccficcgbdaa
