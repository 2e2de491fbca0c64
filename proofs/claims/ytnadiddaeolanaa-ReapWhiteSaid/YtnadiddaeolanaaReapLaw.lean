/- What the document's Waiting of all owners is: a plain law on words. -/
import Derived.Test.YtnadiddaeolanaaGive4
namespace Go.Proofs.Ytnadiddaeolanaa
open Go.RowKit
set_option linter.unusedVariables false

theorem takeE_zero : takeE 0 = En.zero := rfl
theorem entryOf_at {W : List Int} {l : Lay} (k : Nat) (hk : k < l.b) : entryOf W l k = takeE (rdz W ((l.base + k : Nat) : Int)) := by
  have h := Lay.entry_in (l := l) (i := (k : Int)) (by omega)
  unfold entryOf
  rw [if_neg (by rw [h]; omega), h]
  congr 2
theorem base_ge (l : Lay) : 3 ≤ l.base := by unfold Lay.base; omega
theorem backW_entry {W : List Int} {l : Lay} (hfit : l.base + l.b ≤ W.length) (k r : Int) (b : Nat) (hb : b < l.b) :
    entryOf (backW W l k r) l b = if okBack l k r = true ∧ k ≤ b ∧ (b : Int) < k + r then En.zero else entryOf W l b := by
  have hb3 := base_ge l
  rw [entryOf_at b hb, entryOf_at b hb]
  unfold backW
  by_cases ho : okBack l k r = true
  · rw [if_pos ho, rdz_putz2 _ _ _ _ (by rw [zeroW_len]; omega), if_neg (by omega), zeroW_rdz _ _ _ _ _ (by omega)]
    by_cases h : k ≤ b ∧ (b : Int) < k + r
    · rw [if_pos (by omega), if_pos ⟨ho, h⟩]; exact takeE_zero
    · rw [if_neg (by omega), if_neg (fun x => h x.2)]
  · rw [if_neg ho, if_neg (fun x => ho x.1)]

/-- All entries are of owner 0. -/
def Own0 (l : Lay) (W : List Int) : Prop := ∀ b : Nat, b < l.b → (entryOf W l b).o = 0
theorem Own0.back {l : Lay} {W : List Int} (h : Own0 l W) (hfit : l.base + l.b ≤ W.length) (k r : Int) : Own0 l (backW W l k r) := fun b hb => by
  rw [backW_entry hfit k r b hb]
  split
  · rfl
  · exact h b hb
theorem Own0.step {l : Lay} {W : List Int} (h : Own0 l W) (hfit : l.base + l.b ≤ W.length) (f : Int → Bool) (i : Nat) : Own0 l (waitStep l f W i) := by
  unfold waitStep; dsimp only
  split
  · exact h.back hfit _ _
  · exact h
theorem Own0.wait {l : Lay} {W : List Int} (h : Own0 l W) (hfit : l.base + l.b ≤ W.length) (f : Int → Bool) (n : Nat) : Own0 l (waitW l f W n) := by
  induction n with
  | zero => exact h
  | succ n ih => rw [waitW_succ]; exact ih.step (by rw [waitW_len]; exact hfit) f n
theorem wait_zero {l : Lay} {W : List Int} (h : Own0 l W) (hfit : l.base + l.b ≤ W.length) (n : Nat) (hn : n ≤ l.b) : waitW l (fun x => x == ((0 : Nat) : Int)) W n = waitW l (fun _ => true) W n := by
  induction n with
  | zero => rfl
  | succ n ih =>
    rw [waitW_succ, waitW_succ, ih (by omega)]
    have := (h.wait hfit (fun _ => true) n) n (by omega)
    unfold waitStep; dsimp only
    rw [this]; simp
theorem wait_other {l : Lay} {W : List Int} (h : Own0 l W) (o : Nat) (ho : o ≠ 0) (n : Nat) (hn : n ≤ l.b) : waitW l (fun x => x == (o : Int)) W n = W := by
  induction n with
  | zero => rfl
  | succ n ih =>
    rw [waitW_succ, ih (by omega)]
    unfold waitStep; dsimp only
    rw [h n (by omega), if_neg]
    intro x
    have := x.2
    simp at this
    omega
/-- All owners, one behind the other. -/
def waitAll (l : Lay) (W : List Int) (m : Nat) : List Int := (List.range m).foldl (fun V (o : Nat) => waitW l (fun x => x == (o : Int)) V l.b) W
theorem waitAll_succ (l : Lay) (W : List Int) (m : Nat) : waitAll l W (m + 1) = waitW l (fun x => x == (m : Int)) (waitAll l W m) l.b := by
  unfold waitAll; rw [List.range_succ, List.foldl_append]; rfl
theorem waitAll_len (l : Lay) (W : List Int) (m : Nat) : (waitAll l W m).length = W.length := by
  induction m with
  | zero => rfl
  | succ m ih => rw [waitAll_succ, waitW_len, ih]
theorem waitAll_words {W : List Int} (hW : Words W) (l : Lay) (m : Nat) : Words (waitAll l W m) := by
  induction m with
  | zero => exact hW
  | succ m ih => rw [waitAll_succ]; exact waitW_words ih _ _ _
theorem waitAll_is {l : Lay} {W : List Int} (h : Own0 l W) (hfit : l.base + l.b ≤ W.length) (m : Nat) : waitAll l W (m + 1) = waitW l (fun _ => true) W l.b := by
  induction m with
  | zero =>
    rw [waitAll_succ]
    exact wait_zero h hfit l.b (Nat.le_refl _)
  | succ m ih =>
    rw [waitAll_succ, ih]
    exact wait_other (h.wait hfit _ _) (m + 1) (by omega) l.b (Nat.le_refl _)
/-- The document's step is the program's. -/
theorem takeE_run (x : Int) (h : (takeE x).k = 5 ∨ (takeE x).k = 2) : 1 ≤ (takeE x).r ∧ (takeE x).r ≤ 3 := by
  unfold takeE at *
  split at h
  · rename_i hi
    rw [if_pos hi]
    simp only [isEn, Bool.and_eq_true] at hi
    have hm := of_decide_eq_true hi.1
    omega
  · simp [En.zero] at h
theorem waitStep_doc (l : Lay) (f : Int → Bool) (W : List Int) (i : Nat) (hi : i < l.b) :
    waitStep l f W i = if f (entryOf W l i).o = true ∧ (entryOf W l i).k = 4 then backW W l i 1 else if f (entryOf W l i).o = true ∧ (entryOf W l i).k = 5 ∧ (i : Int) + (entryOf W l i).r ≤ l.b then backW W l i (entryOf W l i).r else W := by
  have hr := takeE_run (rdz W ((l.base + i : Nat) : Int))
  rw [← entryOf_at i hi] at hr
  unfold waitStep; dsimp only
  generalize entryOf W l i = e at *
  unfold En.blocks
  by_cases h4 : e.k = 4
  · by_cases hf : f e.o = true
    · rw [if_pos (c := (e.k = 4 ∨ e.k = 5) ∧ f e.o = true) ⟨.inl h4, hf⟩, if_pos (c := f e.o = true ∧ e.k = 4) ⟨hf, h4⟩, if_neg (by omega)]
    · rw [if_neg (fun x => hf x.2), if_neg (fun x => hf x.1), if_neg (fun x => hf x.1)]
  · rw [if_neg (c := f e.o = true ∧ e.k = 4) (fun x => h4 x.2)]
    by_cases h5 : e.k = 5
    · by_cases hf : f e.o = true
      · rw [if_pos (c := (e.k = 4 ∨ e.k = 5) ∧ f e.o = true) ⟨.inr h5, hf⟩, if_pos (c := e.k = 2 ∨ e.k = 5) (.inr h5)]
        by_cases hb : (i : Int) + e.r ≤ l.b
        · rw [if_pos ⟨hf, h5, hb⟩]
        · rw [if_neg (fun x => hb x.2.2)]
          unfold backW
          rw [if_neg]
          simp only [okBack, decide_eq_true_eq]
          omega
      · rw [if_neg (fun x => hf x.2), if_neg (fun x => hf x.1)]
    · rw [if_neg (fun x => by rcases x.1 with h | h <;> contradiction), if_neg (fun x => h5 x.2.1)]
theorem zeroW_next (W : List Int) (l : Lay) (k r : Nat) : zeroW W l k ((r + 1 : Nat) : Int) = putz (zeroW W l k r) ((l.base + k + r : Nat) : Int) 0 := by
  refine ext_rdz (by rw [putz_length, zeroW_len, zeroW_len]) fun i hi => ?_
  rw [zeroW_len] at hi
  rw [zeroW_rdz _ _ _ _ _ hi, rdz_putz2 _ _ _ _ (by rw [zeroW_len]; exact hi), zeroW_rdz _ _ _ _ _ hi]
  by_cases h1 : ((l.base + k + r : Nat) : Int) = i
  · rw [if_pos (by omega), if_pos h1]
  · rw [if_neg h1]
    by_cases h2 : (l.base : Int) + (k : Int) ≤ i ∧ (i : Int) < l.base + k + r
    · rw [if_pos (by omega), if_pos h2]
    · rw [if_neg (by omega), if_neg h2]
/-- Blocks given back, as the document does it. -/
theorem backW_doc {W : List Int} (hW : Words W) {l : Lay} (hl : 1 ≤ W.length) (k r : Nat) (hkr : k + r ≤ l.b) (hr : 1 ≤ r ∧ r ≤ 3) :
    backW W l k r = if isRun (rdz W 0).toNat k r false = true then putz (zeroW W l k r) 0 (withRun (rdz W 0).toNat k r true : Nat) else zeroW W l k r := by
  have ho : okBack l k r = true := by simp only [okBack, decide_eq_true_eq]; omega
  have hb3 := base_ge l
  have hz : rdz (zeroW W l k r) 0 = rdz W 0 := by
    have h := zeroW_rdz W l k r 0 (by omega)
    rw [if_neg (by omega)] at h
    exact h
  unfold backW backV
  rw [if_pos ho]
  by_cases hi : isRun (rdz W 0).toNat k r false = true
  · rw [if_pos hi, if_pos hi]; simp
  · rw [if_neg hi, if_neg hi]
    have h0 := hW 0
    rw [show (((rdz W 0).toNat : Nat) : Int) = rdz (zeroW W l k r) 0 from by rw [hz]; omega]
    exact putz_rdz _ _
end Go.Proofs.Ytnadiddaeolanaa
