/- The contracts of package arena, its other methods; the law's own arena. -/
import Derived.Test.YtnadiddaeolanaaArena
namespace Go.Proofs.Ytnadiddaeolanaa
open Go.RowKit
set_option linter.unusedVariables false
set_option linter.unusedSimpArgs false

theorem arena_read_fn (x : Int) (w : World) : Calls Try.prog 85 #[.int .u64 x] w fun e w' => e = .returned (.int .u64 x) ∧ w' = w := by
  refine calls_abs fun R hR => ?_
  go_enter Try.func85, Try.ntmps85
  go_wp2
  exact hR.out _ _ ⟨rfl, rfl⟩

theorem arena_write_fn (x v : Int) (c : Nat) (w : World) (hc : w.cell? ⟨c, 0, none⟩ = some (.int .u64 v)) : Calls Try.prog 84 #[.int .u64 x, .pointer (some ⟨c, 0, none⟩)] w fun e w' => e = .returned (.int .u64 v) ∧ w' = w := by
  refine calls_abs fun R hR => ?_
  go_enter Try.func84, Try.ntmps84
  go_wp2
  exact hR.out _ _ ⟨rfl, rfl⟩

theorem arena_read {w : World} {b g : Nat} {W : List Int} {t l : Int} (h : Arn w b g W t l) (n : Int) (i : Nat) (hn : n = i) (hi : i < W.length) :
    Calls Try.prog 30 #[.pointer (some ⟨b, 0, none⟩), .int .i64 n] w fun e w' => e = .returned (.int .u64 W[i]) ∧ Arn w' b g W (IntKind.u64.wrap (t + 1)) i ∧ Keep [b, g] w w' := by
  subst hn
  refine calls_abs fun R hR => ?_
  have H := Lib.hid h
  clear h
  go_enter Try.func30, Try.ntmps30
  go_wp2_with fail
  refine Calls.mono (arena_update H.out i i rfl hi 85 Try.call85 #[] [] (fun _ => default) W[i] (by simp) (by simp) (by simp) (fun w2 _ => (arena_read_fn _ _).mono ?_)) ?_
  · rintro e w3 ⟨rfl, rfl⟩
    exact ⟨rfl, Keep.refl _ _, by simp⟩
  rintro e w2 ⟨rfl, A2, K2, _⟩
  rw [List.set_getElem_self] at A2
  have HA2 := Lib.hid A2; have HK2 := Lib.hid K2
  clear A2 K2
  go_wp2_with fail
  exact hR.out _ _ ⟨rfl, HA2.out, HK2.out⟩

theorem arena_read_out {w : World} {b g : Nat} {W : List Int} {t l : Int} (h : Arn w b g W t l) (n : Int) (hn : n < 0 ∨ W.length ≤ n) :
    Calls Try.prog 30 #[.pointer (some ⟨b, 0, none⟩), .int .i64 n] w fun e w' => e = .returned (.int .u64 0) ∧ Keep [] w w' := by
  refine calls_abs fun R hR => ?_
  have H := Lib.hid h
  have HN := Lib.hid hn
  clear h hn
  go_enter Try.func30, Try.ntmps30
  go_wp2_with fail
  refine Calls.mono (arena_update_out H.out n HN.out _ _ _) ?_
  rintro e w2 ⟨rfl, K2⟩
  have HK2 := Lib.hid K2
  clear K2
  go_wp2_with fail
  exact hR.out _ _ ⟨rfl, HK2.out⟩

theorem arena_read_nil (n : Int) (w : World) :
    Calls Try.prog 30 #[.pointer none, .int .i64 n] w fun e w' => e = .returned (.int .u64 0) ∧ Keep [] w w' := by
  refine calls_abs fun R hR => ?_
  go_enter Try.func30, Try.ntmps30
  go_wp2_with fail
  refine Calls.mono (arena_update_nil n _ _ _ _) ?_
  rintro e w2 ⟨rfl, K2⟩
  have HK2 := Lib.hid K2
  clear K2
  go_wp2_with fail
  exact hR.out _ _ ⟨rfl, HK2.out⟩

theorem arena_write {w : World} {b g : Nat} {W : List Int} {t l : Int} (h : Arn w b g W t l) (n : Int) (i : Nat) (hn : n = i) (hi : i < W.length) (v : Int) :
    Calls Try.prog 28 #[.pointer (some ⟨b, 0, none⟩), .int .i64 n, .int .u64 v] w fun e w' => e = .returned (.tuple #[]) ∧ Arn w' b g (W.set i v) (IntKind.u64.wrap (t + 1)) i ∧ Keep [b, g] w w' := by
  have hmf : ∀ (fn : Fn) (first cap : Array Value) (w : World), (Instr.makeFunc fn first cap).run Try.prog w = .ok (.func fn first cap) w := fun _ _ _ _ => rfl
  subst hn
  refine calls_abs fun R hR => ?_
  have H := Lib.hid h
  have hbl := lt_of_block h.head
  have hgl := lt_of_block h.row
  clear h
  go_enter Try.func28, Try.ntmps28
  go_wp2_with fail
  have h2 : Arn (w.alloc (.cells #[.int .u64 v] 27)) b g W t l := H.out.keep (S := []) (by repeat (first | (with_reducible exact Keep.refl _ _) | (with_reducible refine Keep.drew ?_) | (with_reducible refine Keep.drewN ?_ _) | (with_reducible refine Keep.alloc ?_ _) | (with_reducible refine Keep.setCell ?_ (by first | (simp; done) | (simp; omega) | (left; dsimp only; omega)) _))) (by simp) (by simp)
  refine Calls.mono (arena_update h2 i i rfl hi 84 Try.call84 #[.pointer (some ⟨w.heap.size, 0, none⟩)] [] (fun _ => default) v (by simp) (by simp) (by simp) (fun w2 k2 => (arena_write_fn _ v w.heap.size w2 ?_).mono ?_)) ?_
  · rw [cell_at (k2.get (alloc_new w _ _ rfl) (by simp; omega))]; rfl
  · rintro e w3 ⟨rfl, rfl⟩
    exact ⟨rfl, Keep.refl _ _, by simp⟩
  rintro e w2 ⟨rfl, A2, K2, _⟩
  have HA2 := Lib.hid A2; have HK2 := Lib.hid K2
  clear A2 K2 h2
  go_wp2_with fail
  go_end0
  exact hR.out _ _ ⟨rfl, HA2.out, ((Keep.refl _ w).alloc _).trans HK2.out⟩

theorem arena_write_out {w : World} {b g : Nat} {W : List Int} {t l : Int} (h : Arn w b g W t l) (n : Int) (hn : n < 0 ∨ W.length ≤ n) (v : Int) :
    Calls Try.prog 28 #[.pointer (some ⟨b, 0, none⟩), .int .i64 n, .int .u64 v] w fun e w' => e = .returned (.tuple #[]) ∧ Keep [] w w' := by
  have hmf : ∀ (fn : Fn) (first cap : Array Value) (w : World), (Instr.makeFunc fn first cap).run Try.prog w = .ok (.func fn first cap) w := fun _ _ _ _ => rfl
  refine calls_abs fun R hR => ?_
  have H := Lib.hid h
  have HN := Lib.hid hn
  clear h hn
  go_enter Try.func28, Try.ntmps28
  go_wp2_with fail
  have h2 : Arn (w.alloc (.cells #[.int .u64 v] 27)) b g W t l := H.out.keep (S := []) (by repeat (first | (with_reducible exact Keep.refl _ _) | (with_reducible refine Keep.drew ?_) | (with_reducible refine Keep.drewN ?_ _) | (with_reducible refine Keep.alloc ?_ _) | (with_reducible refine Keep.setCell ?_ (by first | (simp; done) | (simp; omega) | (left; dsimp only; omega)) _))) (by simp) (by simp)
  refine Calls.mono (arena_update_out h2 n HN.out _ _ _) ?_
  rintro e w2 ⟨rfl, K2⟩
  have HK2 := Lib.hid K2
  clear K2 h2
  go_wp2_with fail
  go_end0
  exact hR.out _ _ ⟨rfl, ((Keep.refl _ w).alloc _).trans HK2.out⟩

theorem arena_write_nil (n v : Int) (w : World) :
    Calls Try.prog 28 #[.pointer none, .int .i64 n, .int .u64 v] w fun e w' => e = .returned (.tuple #[]) ∧ Keep [] w w' := by
  have hmf : ∀ (fn : Fn) (first cap : Array Value) (w : World), (Instr.makeFunc fn first cap).run Try.prog w = .ok (.func fn first cap) w := fun _ _ _ _ => rfl
  refine calls_abs fun R hR => ?_
  go_enter Try.func28, Try.ntmps28
  go_wp2_with fail
  refine Calls.mono (arena_update_nil n _ _ _ _) ?_
  rintro e w2 ⟨rfl, K2⟩
  have HK2 := Lib.hid K2
  clear K2
  go_wp2_with fail
  go_end0
  exact hR.out _ _ ⟨rfl, ((Keep.refl _ w).alloc _).trans HK2.out⟩

theorem arena_touched {w : World} {b g : Nat} {W : List Int} {t l : Int} (h : Arn w b g W t l) :
    Calls Try.prog 23 #[.pointer (some ⟨b, 0, none⟩)] w fun e w' => e = .returned (.int .u64 t) ∧ w' = w := by
  have c := cell_at h.head
  clear h
  go_enter Try.func23, Try.ntmps23
  go_wp2
  go_ret
  exact ⟨rfl, rfl⟩
theorem arena_touched_nil (w : World) : Calls Try.prog 23 #[.pointer none] w fun e w' => e = .returned (.int .u64 0) ∧ w' = w := by
  go_enter Try.func23, Try.ntmps23
  go_wp2
  go_ret
  exact ⟨rfl, rfl⟩

theorem Arn.rd {w : World} {b g : Nat} {W : List Int} {t l : Int} (h : Arn w b g W t l) : Rd w (.slice (some ⟨g, 0, none⟩) W.length W.length) W.length (W.map (Value.int .u64)) := by
  refine ⟨_, _, rfl, Nat.le_refl _, by have := h.small; simp only [maxLen]; omega, by simp, by simp [Value.oneCell'], fun a ha i u hu => ?_⟩
  cases ha
  have hadd : (⟨g, 0, none⟩ : Addr).add i = ⟨g, i, none⟩ := by unfold Addr.add; split <;> simp_all
  rw [hadd, cell_at h.row]
  simpa [cellsOf] using hu

theorem arena_all {w : World} {b g : Nat} {W : List Int} {t l : Int} (h : Arn w b g W t l) :
    Calls Try.prog 57 #[.pointer (some ⟨b, 0, none⟩)] w fun e w' => ∃ ao cap, e = .returned (.slice ao W.length cap) ∧ Rd w' (.slice ao W.length cap) W.length (W.map (Value.int .u64)) ∧ Keep [] w w' ∧ ∀ a, ao = some a → w.heap.size ≤ a.block := by
  refine calls_abs fun R hR => ?_
  have c := cell_at h.head
  have hs := h.small
  have H := Lib.hid h
  clear h
  go_enter Try.func57, Try.ntmps57
  go_wp2_with (at_builtin; go_loud (refine wpList_append_nil _ rfl _ _ _ rfl elem_u64 w.heap.size rfl _ W.length (W.map (Value.int .u64)) rfl H.out.rd (by simp) (by simp [maxLen]; omega) (by omega) (Nat.le_refl _) ?_); intro ao' cap' w' ho hg)
  refine hR.out _ _ ⟨_, _, rfl, Rd.of_owns ho (by simp [Value.oneCell']), (Keep.refl _ _).grown hg (by simp), fun a ha => ?_⟩
  subst ha
  exact (owns_block ho _ rfl).1
theorem arena_all_nil (w : World) : Calls Try.prog 57 #[.pointer none] w fun e w' => e = .returned (.slice none 0 0) ∧ w' = w := by
  go_enter Try.func57, Try.ntmps57
  go_wp2
  go_ret
  exact ⟨rfl, rfl⟩
end Go.Proofs.Ytnadiddaeolanaa
