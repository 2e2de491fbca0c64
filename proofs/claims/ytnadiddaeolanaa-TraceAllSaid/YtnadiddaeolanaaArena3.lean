/- The contracts of package arena at whatever place. -/
import Derived.Test.YtnadiddaeolanaaArena2
namespace Go.Proofs.Ytnadiddaeolanaa
open Go.RowKit
set_option linter.unusedVariables false
set_option linter.unusedSimpArgs false

/-- Is there such a place? -/
def inr (m : Nat) (a : Int) : Bool := decide (0 ≤ a ∧ a < m)
def rdz (W : List Int) (a : Int) : Int := if inr W.length a then W.getD a.toNat 0 else 0
def putz (W : List Int) (a v : Int) : List Int := if inr W.length a then W.set a.toNat v else W
def tz (m : Nat) (a t : Int) : Int := if inr m a then IntKind.u64.wrap (t + 1) else t
def lz (m : Nat) (a l : Int) : Int := if inr m a then a else l
theorem inr_true {m : Nat} {a : Int} (h : inr m a = true) : ∃ i : Nat, a = i ∧ i < m := by
  simp only [inr, decide_eq_true_eq] at h
  exact ⟨a.toNat, by omega, by omega⟩
theorem inr_false {m : Nat} {a : Int} (h : inr m a = false) : a < 0 ∨ (m : Int) ≤ a := by
  simp only [inr, decide_eq_false_iff_not] at h
  omega
theorem inr_nat {m i : Nat} (h : i < m) : inr m (i : Int) = true := by simp [inr]; omega
theorem rdz_nat {W : List Int} {i : Nat} (h : i < W.length) : rdz W (i : Int) = W[i] := by simp [rdz, inr_nat h, List.getD_eq_getElem?_getD, h]
theorem putz_nat {W : List Int} {i : Nat} (h : i < W.length) (v : Int) : putz W (i : Int) v = W.set i v := by simp [putz, inr_nat h]
theorem putz_length (W : List Int) (a v : Int) : (putz W a v).length = W.length := by unfold putz; split <;> simp
theorem putz_rdz (W : List Int) (a : Int) : putz W a (rdz W a) = W := by
  cases h : inr W.length a with
  | false => simp [putz, h]
  | true =>
    obtain ⟨i, rfl, hi⟩ := inr_true h
    rw [putz_nat hi, rdz_nat hi, List.set_getElem_self]
theorem rdz_out {W : List Int} {a : Int} (h : inr W.length a = false) : rdz W a = 0 := by simp [rdz, h]

theorem arena_read_any {w : World} {b g : Nat} {W : List Int} {t l : Int} (h : Arn w b g W t l) (n : Int) :
    Calls Try.prog 30 #[.pointer (some ⟨b, 0, none⟩), .int .i64 n] w fun e w' => e = .returned (.int .u64 (rdz W n)) ∧ Arn w' b g W (tz W.length n t) (lz W.length n l) ∧ Keep [b, g] w w' := by
  cases hi : inr W.length n with
  | true =>
    obtain ⟨i, rfl, hlt⟩ := inr_true hi
    refine (arena_read h i i rfl hlt).mono ?_
    rintro e w' ⟨rfl, h2, h3⟩
    exact ⟨by rw [rdz_nat hlt], by simpa [tz, lz, hi] using h2, h3⟩
  | false =>
    refine (arena_read_out h n (inr_false hi)).mono ?_
    rintro e w' ⟨rfl, h3⟩
    exact ⟨by rw [rdz_out hi], by simpa [tz, lz, hi] using h.keep h3 (by simp) (by simp), h3.mono (by simp)⟩

theorem arena_write_any {w : World} {b g : Nat} {W : List Int} {t l : Int} (h : Arn w b g W t l) (n v : Int) :
    Calls Try.prog 28 #[.pointer (some ⟨b, 0, none⟩), .int .i64 n, .int .u64 v] w fun e w' => e = .returned (.tuple #[]) ∧ Arn w' b g (putz W n v) (tz W.length n t) (lz W.length n l) ∧ Keep [b, g] w w' := by
  cases hi : inr W.length n with
  | true =>
    obtain ⟨i, rfl, hlt⟩ := inr_true hi
    refine (arena_write h i i rfl hlt v).mono ?_
    rintro e w' ⟨rfl, h2, h3⟩
    exact ⟨rfl, by simpa [tz, lz, hi, putz_nat hlt] using h2, h3⟩
  | false =>
    refine (arena_write_out h n (inr_false hi) v).mono ?_
    rintro e w' ⟨rfl, h3⟩
    exact ⟨rfl, by simpa [tz, lz, hi, putz] using h.keep h3 (by simp) (by simp), h3.mono (by simp)⟩

/-- Update at whatever place: where there is one the function's blocks T hold O behind it. -/
theorem arena_update_any {w : World} {b g : Nat} {W : List Int} {t l : Int} (h : Arn w b g W t l) (n : Int)
    (F : FuncId) (hF : ∀ args w, (callFunc F args).run Try.prog w = .ok (.enter F args) w) (cap : Array Value) (T : List Nat) (O : Nat → Obj) (v : Int) (hb : b ∉ T) (hg : g ∉ T) (hT : ∀ x ∈ T, x < w.heap.size)
    (hf : inr W.length n = true → ∀ w2, Keep [b] w w2 → Calls Try.prog F (#[.int .u64 (rdz W n)] ++ cap) w2 fun e w3 => e = .returned (.int .u64 v) ∧ Keep T w2 w3 ∧ ∀ x ∈ T, w3.heap[x]? = some (O x)) :
    Calls Try.prog 83 #[.pointer (some ⟨b, 0, none⟩), .int .i64 n, .func (.func F) #[] cap] w fun e w' => e = .returned (.int .u64 (rdz W n)) ∧ Arn w' b g (putz W n v) (tz W.length n t) (lz W.length n l) ∧ Keep (b :: g :: T) w w' ∧
      (inr W.length n = true → ∀ x ∈ T, w'.heap[x]? = some (O x)) ∧ (inr W.length n = false → ∀ x ∈ T, w'.heap[x]? = w.heap[x]?) := by
  cases hi : inr W.length n with
  | true =>
    obtain ⟨i, rfl, hlt⟩ := inr_true hi
    refine (arena_update h i i rfl hlt F hF cap T O v hb hg hT (fun w2 k2 => ?_)).mono ?_
    · have := hf hi w2 k2
      rwa [rdz_nat hlt] at this
    · rintro e w' ⟨rfl, h2, h3, h4⟩
      exact ⟨by rw [rdz_nat hlt], by simpa [tz, lz, hi, putz_nat hlt] using h2, h3, fun _ => h4, by simp⟩
  | false =>
    refine (arena_update_out h n (inr_false hi) _ _ _).mono ?_
    rintro e w' ⟨rfl, h3⟩
    exact ⟨by rw [rdz_out hi], by simpa [tz, lz, hi, putz] using h.keep h3 (by simp) (by simp), h3.mono (by simp), by simp, fun _ x hx => h3.block x (hT x hx) (by simp)⟩
end Go.Proofs.Ytnadiddaeolanaa
