/- The contracts of package arena. -/
import Derived.Test.YtnadiddaeolanaaProg
import Derived.Test.YtnadiddaeolanaaLib
import Derived.WalkSpells
import Derived.Lib.SliceRun
import Derived.BigQuiet
import Derived.Deep.QuietTactic
import Derived.Recover
import Derived.Defers
import Derived.Laws.Pointers
import Derived.WalkLawsBesides
namespace Go.Proofs.Ytnadiddaeolanaa
open Go.RowKit
set_option linter.unusedVariables false
set_option linter.unusedSimpArgs false

/-- A row of whole numbers, as cells. -/
def cellsOf (k : IntKind) (l : List Int) : Array Value := (l.map (Value.int k)).toArray
theorem cellsOf_get (k : IntKind) (l : List Int) (i : Nat) : (cellsOf k l)[i]? = l[i]?.map (Value.int k) := by simp [cellsOf]
theorem cellsOf_size (k : IntKind) (l : List Int) : (cellsOf k l).size = l.length := by simp [cellsOf]
theorem cellsOf_set (k : IntKind) (l : List Int) (i : Nat) (v : Int) : (cellsOf k l).setIfInBounds i (.int k v) = cellsOf k (l.set i v) := by simp [cellsOf, List.map_set]
theorem made_cellsOf (k : IntKind) (n : Nat) (z : Int) : madeCells #[.int k z] n = cellsOf k (List.replicate n z) := by
  apply Array.ext'
  rw [toList_madeCells_one]
  simp [cellsOf]

theorem Try.info27 : (Try.prog.info? 27).map (fun i => (i.zero, i.size, i.bytes)) = some (some (.int .u64 0), 1, 8) := by kernel_rfl
theorem elem_u64 : Elem Try.prog 28 27 (.int .u64 0) 1 8 := Elem.of Try.underlying28 Try.info27 rfl (by omega)

/-- An arena at block b, its words at block g. -/
structure Arn (w : World) (b g : Nat) (W : List Int) (t l : Int) : Prop where
  head : w.heap[b]? = some (.cells #[.slice (some ⟨g, 0, none⟩) W.length W.length, .int .u64 t, .int .i64 l] 133 (0, 0))
  row : w.heap[g]? = some (.cells (cellsOf .u64 W) 27 (0, 0))
  small : W.length ≤ 4096
  ne : b ≠ g

theorem Arn.keep {S : List Nat} {w w' : World} {b g : Nat} {W : List Int} {t l : Int} (h : Arn w b g W t l) (k : Keep S w w') (hb : b ∉ S) (hg : g ∉ S) : Arn w' b g W t l :=
  ⟨k.get h.head hb, k.get h.row hg, h.small, h.ne⟩
theorem Arn.cell {w : World} {b g : Nat} {W : List Int} {t l : Int} (h : Arn w b g W t l) (i : Nat) (hi : i < W.length) : w.cell? ⟨g, i, none⟩ = some (.int .u64 W[i]) := by
  rw [cell_at h.row, cellsOf_get, List.getElem?_eq_getElem hi]; rfl

theorem arena_new_bad (n : Int) (h : n < 1 ∨ 4096 < n) (w : World) :
    Calls Try.prog 27 #[.int .i64 n] w fun e w' => e = .returned (.tuple #[.pointer none, .int .i64 2]) ∧ w' = w := by
  refine calls_abs fun R hR => ?_
  rcases h with h | h
  · go_enter Try.func27, Try.ntmps27
    go_wp2
    exact hR.out _ _ ⟨rfl, rfl⟩
  · have h1 : ¬ n < 1 := by omega
    go_enter Try.func27, Try.ntmps27
    go_wp2
    exact hR.out _ _ ⟨rfl, rfl⟩

theorem make_u64 (n : Nat) (h : n ≤ 4096) (w : World) : (Instr.makeSlice 28 (.int .i64 n) (.int .i64 n)).run Try.prog w = .ok (.slice (some ⟨w.heap.size, 0, none⟩) n n) (w.alloc (.cells (cellsOf .u64 (List.replicate n 0)) 27)) := by
  obtain ⟨i0, hi, hz0, hz1, hz2⟩ := info_parts Try.info27
  have h := run_make (P := Try.prog) w 28 27 i0 _ Try.underlying28 hi hz0 .i64 .i64 n n (by omega) (by omega) (by rw [hz2]; omega) (by omega)
  simp only [Int.toNat_natCast, hz1, Nat.mul_one] at h
  rw [h, show (Value.int .u64 0).cells = #[.int .u64 0] from rfl, made_cellsOf]

theorem arena_new (n : Int) (m : Nat) (hn : n = m) (h1 : 1 ≤ m) (h2 : m ≤ 4096) (w : World) :
    Calls Try.prog 27 #[.int .i64 n] w fun e w' => ∃ b g, e = .returned (.tuple #[.pointer (some ⟨b, 0, none⟩), .int .i64 0]) ∧ Arn w' b g (List.replicate m 0) 0 (-1) ∧ Keep [] w w' ∧ w.heap.size ≤ b ∧ w.heap.size ≤ g := by
  subst hn
  refine calls_abs fun R hR => ?_
  have n1 : ¬ (m : Int) < 1 := by omega
  have n2 : ¬ (4096 : Int) < (m : Int) := by omega
  have hmk := fun w => make_u64 m h2 w
  go_enter Try.func27, Try.ntmps27
  go_wp2
  refine hR.out _ _ ⟨_, _, rfl, ⟨?_, alloc_keeps (alloc_new _ _ _ rfl) _, by simpa using h2, by omega⟩, (by repeat (first | (with_reducible exact Keep.refl _ _) | (with_reducible refine Keep.drew ?_) | (with_reducible refine Keep.drewN ?_ _) | (with_reducible refine Keep.alloc ?_ _) | (with_reducible refine Keep.setCell ?_ (by first | (simp; done) | (simp; omega) | (left; dsimp only; omega)) _))), by omega, by omega⟩
  rw [List.length_replicate]
  exact alloc_new _ _ _ (by simp)

theorem arena_at {w : World} {b g : Nat} {W : List Int} {t l : Int} (h : Arn w b g W t l) (n : Int) (i : Nat) (hn : n = i) (hi : i < W.length) :
    Calls Try.prog 132 #[.pointer (some ⟨b, 0, none⟩), .int .i64 n] w fun e w' => e = .returned (.pointer (some ⟨g, i, none⟩)) ∧ Arn w' b g W (IntKind.u64.wrap (t + 1)) i ∧ Keep [b] w w' := by
  subst hn
  refine calls_abs fun R hR => ?_
  have c := cell_at h.head
  have f := frozen_at h.head
  have hs := h.small
  have n1 : ¬ (i : Int) < 0 := by omega
  have n2 : ¬ (W.length : Int) ≤ (i : Int) := by omega
  have n3 : (i : Int) < (W.length : Int) := by omega
  have hlt := lt_of_block h.head
  have H := Lib.hid h
  clear h
  go_enter Try.func132, Try.ntmps132
  go_wp2
  refine hR.out _ _ ⟨rfl, ⟨?_, ?_, H.out.small, H.out.ne⟩, (by repeat (first | (with_reducible exact Keep.refl _ _) | (with_reducible refine Keep.drew ?_) | (with_reducible refine Keep.drewN ?_ _) | (with_reducible refine Keep.alloc ?_ _) | (with_reducible refine Keep.setCell ?_ (by first | (simp; done) | (simp; omega) | (left; dsimp only; omega)) _)))⟩
  · rw [put_at (put_at H.out.head 1 _) 2]; simp
  · exact put_other (put_other H.out.row H.out.ne.symm _) H.out.ne.symm _

theorem arena_at_out {w : World} {b g : Nat} {W : List Int} {t l : Int} (h : Arn w b g W t l) (n : Int) (hn : n < 0 ∨ W.length ≤ n) :
    Calls Try.prog 132 #[.pointer (some ⟨b, 0, none⟩), .int .i64 n] w fun e w' => e = .panicked [{ v := .iface 170 (.int .i64 n), recovered := false }] ∧ Keep [] w w' := by
  refine calls_abs fun R hR => ?_
  have c := cell_at h.head
  have hs := h.small
  clear h
  rcases hn with hn | hn
  · go_enter Try.func132, Try.ntmps132
    go_wp2
    exact ⟨rfl, hR.out _ _ ⟨rfl, (by repeat (first | (with_reducible exact Keep.refl _ _) | (with_reducible refine Keep.drew ?_) | (with_reducible refine Keep.drewN ?_ _) | (with_reducible refine Keep.alloc ?_ _) | (with_reducible refine Keep.setCell ?_ (by first | (simp; done) | (simp; omega) | (left; dsimp only; omega)) _)))⟩⟩
  · have n1 : ¬ n < 0 := by omega
    go_enter Try.func132, Try.ntmps132
    go_wp2
    exact ⟨rfl, hR.out _ _ ⟨rfl, (by repeat (first | (with_reducible exact Keep.refl _ _) | (with_reducible refine Keep.drew ?_) | (with_reducible refine Keep.drewN ?_ _) | (with_reducible refine Keep.alloc ?_ _) | (with_reducible refine Keep.setCell ?_ (by first | (simp; done) | (simp; omega) | (left; dsimp only; omega)) _)))⟩⟩

theorem arena_at_nil (n : Int) (w : World) :
    Calls Try.prog 132 #[.pointer none, .int .i64 n] w fun e w' => e = .panicked [{ v := .iface 170 (.int .i64 n), recovered := false }] ∧ Keep [] w w' := by
  refine calls_abs fun R hR => ?_
  go_enter Try.func132, Try.ntmps132
  go_wp2
  exact ⟨rfl, hR.out _ _ ⟨rfl, (by repeat (first | (with_reducible exact Keep.refl _ _) | (with_reducible refine Keep.drew ?_) | (with_reducible refine Keep.drewN ?_ _) | (with_reducible refine Keep.alloc ?_ _) | (with_reducible refine Keep.setCell ?_ (by first | (simp; done) | (simp; omega) | (left; dsimp only; omega)) _)))⟩⟩

set_option maxRecDepth 100000 in
/-- The deferred closure of a frame that panics with a place. -/
theorem arena_catch (p : Addr) (x n : Int) (older : List PanicEntry) (w : World) (hc : w.cell? p = some (.int .u64 x)) (hz : w.frozen? p = false) :
    CallsD Try.prog 131 #[.pointer (some p)] (.panicking ({ v := .iface 170 (.int .i64 n), recovered := false } :: older)) w fun e u' w' =>
      e = .returned (.tuple #[]) ∧ u' = .panicking ({ v := .iface 170 (.int .i64 n), recovered := true } :: older) ∧ w' = w.setCell p (.int .u64 0) := by
  have hta : ∀ (v : Value) (W : World), (Instr.typeAssert (.iface 170 v) 20 170 true).run Try.prog W = .ok (.tuple #[v, .bool true]) W := fun v W => by rfl
  refine callsD_of_wpS Try.func131 rfl fun c₀ cs hu => ?_
  apply wpS_seq
  apply wpS_region
  simp [wpOpsS, go_sem, recoverD, hu, Try.ntmps131, Exit.thenS]
  refine wpS_of_wp ?_
  simp only [Array.replicate_succ, Array.replicate_zero, List.push_toArray, List.append_toArray, List.nil_append, List.cons_append, List.setIfInBounds_toArray, List.set_cons_succ, List.set_cons_zero]
  go_wp2
  cases c₀
  simp_all [bodyPostS, results, Try.results131]

theorem arena_idle (p : Addr) (w : World) :
    CallsD Try.prog 131 #[.pointer (some p)] .returning w fun e u' w' => e = .returned (.tuple #[]) ∧ u' = .returning ∧ w' = w := by
  refine callsD_of_wpS Try.func131 rfl fun c₀ cs hu => ?_
  apply wpS_seq
  apply wpS_region
  simp [wpOpsS, go_sem, recoverD, hu, Try.ntmps131, Exit.thenS]
  refine wpS_of_wp ?_
  simp only [Array.replicate_succ, Array.replicate_zero, List.push_toArray, List.append_toArray, List.nil_append, List.cons_append, List.setIfInBounds_toArray, List.set_cons_succ, List.set_cons_zero]
  go_wp2
  cases c₀
  simp_all [bodyPostS, results, Try.results131]

set_option maxRecDepth 100000 in
set_option maxHeartbeats 1000000 in
/-- Update at a place that there is: the function's blocks T hold O behind it. -/
theorem arena_update {w : World} {b g : Nat} {W : List Int} {t l : Int} (h : Arn w b g W t l) (n : Int) (i : Nat) (hn : n = i) (hi : i < W.length)
    (F : FuncId) (hF : ∀ args w, (callFunc F args).run Try.prog w = .ok (.enter F args) w) (cap : Array Value) (T : List Nat) (O : Nat → Obj) (v : Int) (hb : b ∉ T) (hg : g ∉ T) (hT : ∀ x ∈ T, x < w.heap.size)
    (hf : ∀ w2, Keep [b] w w2 → Calls Try.prog F (#[.int .u64 W[i]] ++ cap) w2 fun e w3 => e = .returned (.int .u64 v) ∧ Keep T w2 w3 ∧ ∀ x ∈ T, w3.heap[x]? = some (O x)) :
    Calls Try.prog 83 #[.pointer (some ⟨b, 0, none⟩), .int .i64 n, .func (.func F) #[] cap] w fun e w' => e = .returned (.int .u64 W[i]) ∧ Arn w' b g (W.set i v) (IntKind.u64.wrap (t + 1)) i ∧ Keep (b :: g :: T) w w' ∧ ∀ x ∈ T, w'.heap[x]? = some (O x) := by
  subst hn
  have hmf : ∀ (fn : Fn) (first cap : Array Value) (w : World), (Instr.makeFunc fn first cap).run Try.prog w = .ok (.func fn first cap) w := fun _ _ _ _ => rfl
  have hfe : ∀ (fn : Fn) (a c : Array Value) (w : World), (binOp .eql 49 (.func fn a c) .nilFunc).run Try.prog w = .ok (.bool false) w := fun fn a c w => run_eql_func_nil w fn a c Try.underlying49
  refine calls_abs fun R hR => ?_
  have H := Lib.hid h
  have HF := Lib.hid hf
  have hbl := lt_of_block h.head
  have hgl := lt_of_block h.row
  clear h hf
  go_enter_defers Try.func83, Try.ntmps83
  go_wp2_with fail
  refine Calls.mono (arena_at (w := _) (b := b) (g := g) (W := W) (t := t) (l := l) ?_ i i rfl hi) ?_
  · exact H.out.keep (S := []) (by repeat (first | (with_reducible exact Keep.refl _ _) | (with_reducible refine Keep.drew ?_) | (with_reducible refine Keep.drewN ?_ _) | (with_reducible refine Keep.alloc ?_ _) | (with_reducible refine Keep.setCell ?_ (by first | (simp; done) | (simp; omega) | (left; dsimp only; omega)) _))) (by simp) (by simp)
  rintro e w2 ⟨rfl, A2, K2⟩
  have bn2 := K2.get (alloc_new w (.cells #[.int .u64 0] 27) _ rfl) (by simp; omega)
  have cn2 := cell_at bn2
  have fn2 := frozen_at bn2
  have ln2 := lt_of_block bn2
  have ci := A2.cell i hi
  have fi := frozen_at A2.row
  have HA2 := Lib.hid A2; have HK2 := Lib.hid K2; have BN2 := Lib.hid bn2
  clear A2 K2 bn2
  go_wp2_with fail
  have HW2 : Hid (Keep [b] w w2) := ((Keep.refl _ w).alloc _).trans HK2.out
  refine Calls.mono (HF.out _ ?_) ?_
  · ((repeat (first | (with_reducible exact HW2.out) | (with_reducible refine Keep.drew ?_) | (with_reducible refine Keep.drewN ?_ _) | (with_reducible refine Keep.alloc ?_ _) | ((with_reducible refine Keep.setCell ?_ ?_ _); rotate_left; focus (first | (simp; done) | (simp; omega) | (left; dsimp only; omega))))); done)
  rintro e w3 ⟨rfl, K3, O3⟩
  have a3 : Arn w3 b g W (IntKind.u64.wrap (t + 1)) i := by
    refine Arn.keep (S := T) (Arn.keep (S := [w.heap.size]) HA2.out ?_ (by simp; omega) (by simp; omega)) K3 hb hg
    ((repeat (first | (with_reducible exact Keep.refl _ _) | (with_reducible refine Keep.drew ?_) | (with_reducible refine Keep.drewN ?_ _) | (with_reducible refine Keep.alloc ?_ _) | ((with_reducible refine Keep.setCell ?_ ?_ _); rotate_left; focus (first | (simp; done) | (simp; omega) | (left; dsimp only; omega))))); done)
  have bn3 := K3.get (put_at BN2.out 0 (.int .u64 W[i])) (fun m => by have := hT _ m; omega)
  have cn3 : w3.cell? ⟨w.heap.size, 0, none⟩ = some (.int .u64 W[i]) := by rw [cell_at bn3]; simp
  have fn3 := frozen_at bn3
  have ci3 := a3.cell i hi
  have fi3 := frozen_at a3.row
  have hne : ¬ g = w.heap.size := by omega
  have hne2 : ¬ w.heap.size = g := by omega
  have HA3 := Lib.hid a3; have HK3 := Lib.hid K3; have BN3 := Lib.hid bn3; have HO3 := Lib.hid O3
  have HB := Lib.hid hb; have HG := Lib.hid hg; have HT := Lib.hid hT
  clear a3 K3 bn3 O3 cn2 fn2 ci fi hb hg hT
  go_wp2_with fail
  refine leaves_cons (f := 131) (args := #[.pointer (some ⟨w.heap.size, 0, none⟩)]) (by simp) (by simp [go_sem]) ?_
  refine (arena_idle _ _).mono ?_
  rintro e u' w'' ⟨rfl, rfl, rfl⟩
  simp [Leaves, settle, results, Try.results83, go_sem, cn3, fn3, ci3, fi3, hne, hne2]
  refine hR.out _ _ ⟨rfl, ⟨?_, ?_, by simpa using HA3.out.small, HA3.out.ne⟩, ?_, fun x hx => ?_⟩
  · rw [List.length_set]
    exact put_other (put_other HA3.out.head HA3.out.ne _) (by show b ≠ w.heap.size; omega) _
  · rw [← cellsOf_set]
    exact put_other (put_at HA3.out.row i _) (by show g ≠ w.heap.size; omega) _
  · have k1 : Keep (b :: g :: T) w w2 := HW2.out.mono (by simp)
    have k2 : Keep (b :: g :: T) w (w2.setCell ⟨w.heap.size, 0, none⟩ (.int .u64 W[i])) := k1.setCell (.inl (Nat.le_refl _)) _
    have k3 : Keep (b :: g :: T) w w3 := k2.trans (HK3.out.mono (fun x hx => by simp [hx]))
    exact (k3.setCell (.inr (by simp)) _).setCell (.inl (Nat.le_refl _)) _
  · have h1 := HT.out x hx
    exact put_other (put_other (HO3.out x hx) (fun e => HG.out (by subst e; exact hx)) _) (by show x ≠ w.heap.size; omega) _

set_option maxRecDepth 100000 in
set_option maxHeartbeats 1000000 in
/-- Update at a place that there is not: the function is not asked. -/
theorem arena_update_out {w : World} {b g : Nat} {W : List Int} {t l : Int} (h : Arn w b g W t l) (n : Int) (hn : n < 0 ∨ W.length ≤ n) (F : Fn) (first cap : Array Value) :
    Calls Try.prog 83 #[.pointer (some ⟨b, 0, none⟩), .int .i64 n, .func F first cap] w fun e w' => e = .returned (.int .u64 0) ∧ Keep [] w w' := by
  have hmf : ∀ (fn : Fn) (first cap : Array Value) (w : World), (Instr.makeFunc fn first cap).run Try.prog w = .ok (.func fn first cap) w := fun _ _ _ _ => rfl
  have hfe : ∀ (fn : Fn) (a c : Array Value) (w : World), (binOp .eql 49 (.func fn a c) .nilFunc).run Try.prog w = .ok (.bool false) w := fun fn a c w => run_eql_func_nil w fn a c Try.underlying49
  refine calls_abs fun R hR => ?_
  have H := Lib.hid h
  have HN := Lib.hid hn
  clear h hn
  go_enter_defers Try.func83, Try.ntmps83
  go_wp2_with fail
  refine Calls.mono (arena_at_out (w := _) (b := b) (g := g) (W := W) (t := t) (l := l) ?_ n HN.out) ?_
  · exact H.out.keep (S := []) (by repeat (first | (with_reducible exact Keep.refl _ _) | (with_reducible refine Keep.drew ?_) | (with_reducible refine Keep.drewN ?_ _) | (with_reducible refine Keep.alloc ?_ _) | (with_reducible refine Keep.setCell ?_ (by first | (simp; done) | (simp; omega) | (left; dsimp only; omega)) _))) (by simp) (by simp)
  rintro e w2 ⟨rfl, K2⟩
  have bn2 := K2.get (alloc_new w (.cells #[.int .u64 0] 27) _ rfl) (by simp)
  have cn2 := cell_at bn2
  have fn2 := frozen_at bn2
  have HK2 := Lib.hid K2; have BN2 := Lib.hid bn2
  clear K2 bn2
  go_wp2_with fail
  refine leaves_cons (f := 131) (args := #[.pointer (some ⟨w.heap.size, 0, none⟩)]) (by simp) (by simp [go_sem]) ?_
  refine (arena_catch ⟨w.heap.size, 0, none⟩ 0 n [] _ (by simp [cn2]) (by simp [fn2])).mono ?_
  rintro e u' w'' ⟨rfl, rfl, rfl⟩
  simp [Leaves, settle, results, Try.results83, go_sem, cn2, fn2]
  exact hR.out _ _ ⟨rfl, Keep.setCell (((Keep.refl _ w).alloc _).trans HK2.out) (.inl (Nat.le_refl _)) _⟩

set_option maxRecDepth 100000 in
set_option maxHeartbeats 1000000 in
theorem arena_update_nil (n : Int) (F : Fn) (first cap : Array Value) (w : World) :
    Calls Try.prog 83 #[.pointer none, .int .i64 n, .func F first cap] w fun e w' => e = .returned (.int .u64 0) ∧ Keep [] w w' := by
  have hmf : ∀ (fn : Fn) (first cap : Array Value) (w : World), (Instr.makeFunc fn first cap).run Try.prog w = .ok (.func fn first cap) w := fun _ _ _ _ => rfl
  have hfe : ∀ (fn : Fn) (a c : Array Value) (w : World), (binOp .eql 49 (.func fn a c) .nilFunc).run Try.prog w = .ok (.bool false) w := fun fn a c w => run_eql_func_nil w fn a c Try.underlying49
  refine calls_abs fun R hR => ?_
  go_enter_defers Try.func83, Try.ntmps83
  go_wp2_with fail
  refine Calls.mono (arena_at_nil n _) ?_
  rintro e w2 ⟨rfl, K2⟩
  have bn2 := K2.get (alloc_new w (.cells #[.int .u64 0] 27) _ rfl) (by simp)
  have cn2 := cell_at bn2
  have fn2 := frozen_at bn2
  have HK2 := Lib.hid K2; have BN2 := Lib.hid bn2
  clear K2 bn2
  go_wp2_with fail
  refine leaves_cons (f := 131) (args := #[.pointer (some ⟨w.heap.size, 0, none⟩)]) (by simp) (by simp [go_sem]) ?_
  refine (arena_catch ⟨w.heap.size, 0, none⟩ 0 n [] _ (by simp [cn2]) (by simp [fn2])).mono ?_
  rintro e u' w'' ⟨rfl, rfl, rfl⟩
  simp [Leaves, settle, results, Try.results83, go_sem, cn2, fn2]
  exact hR.out _ _ ⟨rfl, Keep.setCell (((Keep.refl _ w).alloc _).trans HK2.out) (.inl (Nat.le_refl _)) _⟩
end Go.Proofs.Ytnadiddaeolanaa
