/- The walk of ReapWhite. -/
import Derived.Test.YtnadiddaeolanaaWhite
import Derived.Test.YtnadiddaeolanaaOpenHeap
namespace Go.Proofs.Ytnadiddaeolanaa
open Go.RowKit
set_option linter.unusedVariables false
set_option linter.unusedSimpArgs false

theorem backW_high {W : List Int} {l : Lay} (k r : Int) (i : Int) (hi : l.base + l.b ≤ i) : rdz (backW W l k r) i = rdz W i := by
  unfold backW
  split
  · rename_i ho
    simp only [okBack, decide_eq_true_eq] at ho
    have hb := base_ge l
    cases h : inr W.length i with
    | false => rw [rdz_out (by rw [putz_length, zeroW_len]; exact h), rdz_out h]
    | true =>
      obtain ⟨q, rfl, hq⟩ := inr_true h
      rw [rdz_putz2 _ _ _ _ (by rw [zeroW_len]; exact hq), if_neg (by omega), zeroW_rdz _ _ _ _ _ hq, if_neg (by omega)]
  · rfl
theorem waitW_high {W : List Int} {l : Lay} (f : Int → Bool) (n : Nat) (i : Int) (hi : l.base + l.b ≤ i) : rdz (waitW l f W n) i = rdz W i := by
  induction n with
  | zero => rfl
  | succ n ih =>
    rw [waitW_succ]
    unfold waitStep; dsimp only
    split
    · rw [backW_high _ _ _ hi, ih]
    · exact ih
/-- The blocks behind it: what was Emptied is free. -/
def blW (bl : List Int) : List Int := bl.map fun c => if c = 4 then 5 else c
theorem blW_getD (bl : List Int) (k : Nat) : (blW bl).getD k 0 = if bl.getD k 0 = 4 then 5 else bl.getD k 0 := by
  unfold blW
  rw [List.getD_eq_getElem?_getD, List.getD_eq_getElem?_getD, List.getElem?_map]
  cases bl[k]? <;> simp
theorem blW_pos {bl : List Int} (hb : ∀ k, 0 ≤ bl.getD k 0) (k : Nat) : 0 ≤ (blW bl).getD k 0 := by
  rw [blW_getD]; have := hb k; split <;> omega
theorem startsC_blW (bl : List Int) (k : Nat) : startsC ((blW bl).getD k 0) = startsC (bl.getD k 0) := by
  rw [blW_getD]
  split
  · rename_i h; rw [h, startsC_none 5 (by omega), startsC_none 4 (by omega)]
  · rfl
theorem allS_blW (l : Lay) (bl : List Int) (n : Nat) : allS l (blW bl) n = allS l bl n := by
  unfold allS
  congr 1
  funext b
  unfold cellsAt
  rw [startsC_blW]
theorem spots_blW (n : Nat) (bl : List Int) : spots n (blW bl) = spots n bl := by
  unfold spots spotsS
  congr 1
  funext b
  unfold spotsAt cellsAt
  rw [startsC_blW, List.map_map, List.map_map]
  by_cases h : bl.getD b 0 = 4
  · rw [h, startsC_none 4 (by omega)]; rfl
  · rw [blW_getD, if_neg h]
theorem ent_at (n b : Nat) : (Lay.mk 1 2 n).base + b = 6 + b := rfl
theorem rdz_back {W : List Int} {l : Lay} (k : Nat) (b : Nat) (hb : b < l.b) (hk : k < l.b) (hfit : l.base + l.b ≤ W.length) : rdz (backW W l k 1) ((l.base + b : Nat) : Int) = if k = b then 0 else rdz W ((l.base + b : Nat) : Int) := by
  have hb3 := base_ge l
  unfold backW
  rw [if_pos (by simp only [okBack, decide_eq_true_eq]; omega), rdz_putz2 _ _ _ _ (by rw [zeroW_len]; omega), if_neg (by omega), zeroW_rdz _ _ _ _ _ (by omega)]
  by_cases h : k = b
  · rw [if_pos (by omega), if_pos h]
  · rw [if_neg (by omega), if_neg h]
theorem heapW_wait {n : Nat} (hn : n ≤ 6) {bl W : List Int} (hb : ∀ k, 0 ≤ bl.getD k 0) (h : HeapW n bl W) : HeapW n (blW bl) (waitW ⟨1, 2, n⟩ (fun _ => true) W n) := by
  have hent : ∀ m, m ≤ n → ∀ b, b < n → rdz (waitW ⟨1, 2, n⟩ (fun _ => true) W m) ((6 + b : Nat) : Int) = if b < m ∧ bl.getD b 0 = 4 then 0 else rdz W ((6 + b : Nat) : Int) := by
    intro m
    induction m with
    | zero => intro _ b _; rw [if_neg (by omega)]; rfl
    | succ m ih =>
      intro hm b hbn
      have ih := ih (by omega)
      have hfit : (Lay.mk 1 2 n).base + (Lay.mk 1 2 n).b ≤ (waitW ⟨1, 2, n⟩ (fun _ => true) W m).length := by rw [waitW_len, h.len]; show 6 + n ≤ _; omega
      rw [waitW_succ]
      have he : entryOf (waitW ⟨1, 2, n⟩ (fun _ => true) W m) ⟨1, 2, n⟩ (m : Int) = enS (bl.getD m 0) := by
        rw [entryOf_at (l := ⟨1, 2, n⟩) m (by show m < n; omega), ent_at, ih m (by omega), if_neg (by omega), h.ents m (by omega)]
        exact (enS_take _ (hb m)).1
      unfold waitStep
      dsimp only
      rw [he]
      by_cases h4 : bl.getD m 0 = 4
      · have hk : (enS (bl.getD m 0)).k = 4 := by rw [h4]; rfl
        have hbk : (enS (bl.getD m 0)).blocks = 1 := by rw [h4]; rfl
        rw [if_pos ⟨.inl hk, rfl⟩, hbk]
        have hr := rdz_back (l := ⟨1, 2, n⟩) m b hbn (by show m < n; omega) hfit
        rw [ent_at] at hr
        rw [hr, ih b hbn]
        by_cases hmb : m = b
        · subst hmb
          rw [if_pos rfl, if_pos ⟨by omega, h4⟩]
        · rw [if_neg hmb]
          by_cases hx : b < m ∧ bl.getD b 0 = 4
          · rw [if_pos hx, if_pos ⟨by omega, hx.2⟩]
          · rw [if_neg hx, if_neg (fun y => hx ⟨by omega, y.2⟩)]
      · have hk : ¬ (((enS (bl.getD m 0)).k = 4 ∨ (enS (bl.getD m 0)).k = 5) ∧ true = true) := by
          unfold enS En.zero
          rw [if_neg h4]
          split <;> simp
        rw [if_neg hk, ih b hbn]
        by_cases hx : b < m ∧ bl.getD b 0 = 4
        · rw [if_pos hx, if_pos ⟨by omega, hx.2⟩]
        · rw [if_neg hx, if_neg (fun y => hx ⟨by
            have : b ≠ m := fun e => h4 (e ▸ y.2)
            omega, y.2⟩)]
  have hhigh : ∀ i : Int, 6 + n ≤ i → rdz (waitW ⟨1, 2, n⟩ (fun _ => true) W n) i = rdz W i := fun i hi => waitW_high (l := ⟨1, 2, n⟩) _ _ _ (by show (((6 : Nat) : Int)) + n ≤ i; omega)
  refine ⟨by rw [waitW_len]; exact h.len, waitW_words h.words _ _ _, fun k hk => ?_, fun s hs => ?_, fun i hi hn' => ?_⟩
  · rw [hent n (Nat.le_refl _) k hk, blW_getD]
    by_cases h4 : bl.getD k 0 = 4
    · rw [if_pos ⟨hk, h4⟩, if_pos h4]; rfl
    · rw [if_neg (fun x => h4 x.2), if_neg h4]; exact h.ents k hk
  · rw [spots_blW] at hs
    have hin := spots_in hs
    rw [hhigh _ (by omega)]
    exact h.refs s hs
  · rw [spots_blW] at hn' ⊢
    rw [hhigh _ hi]
    exact h.flds i hi hn'
/-- Cells lie in order. -/
theorem cellsAt_sorted (l : Lay) (b : Nat) (c : Int) : (cellsAt l b c).Pairwise (· < ·) := by
  unfold cellsAt startsC
  rw [List.map_map, List.pairwise_map]
  refine List.Pairwise.imp_of_mem ?_ (List.pairwise_lt_range (n := cellsC c))
  intro i j hi hj hij
  have hp := wordsC_pos c ((i : Int) * wordsC c) (List.mem_of_getElem? (startsC_get c i (List.mem_range.1 hi)))
  have h : (i : Int) * wordsC c < (j : Int) * wordsC c := Int.mul_lt_mul_of_pos_right (by omega) (by omega)
  show l.start b + (i : Int) * wordsC c < l.start b + (j : Int) * wordsC c
  omega
theorem allS_sorted (n : Nat) (bl : List Int) (m : Nat) (hm : m ≤ n) : (allS ⟨1, 2, n⟩ bl m).Pairwise (· < ·) ∧ ∀ a ∈ allS ⟨1, 2, n⟩ bl m, a < 6 + n + 32 * m := by
  induction m with
  | zero => exact ⟨List.Pairwise.nil, fun a ha => by simp [allS] at ha⟩
  | succ m ih =>
    obtain ⟨h1, h2⟩ := ih (by omega)
    rw [allS_succ]
    have hc : ∀ a ∈ cellsAt ⟨1, 2, n⟩ m (bl.getD m 0), 6 + n + 32 * m ≤ a ∧ a < 6 + n + 32 * ((m + 1 : Nat) : Int) := fun a ha => by
      unfold cellsAt at ha
      obtain ⟨s, hs, rfl⟩ := List.mem_map.1 ha
      have e1 := startsC_bd _ s hs
      have e2 := wordsC_pos _ s hs
      have e3 := start_is n m (by omega)
      omega
    refine ⟨List.pairwise_append.2 ⟨h1, cellsAt_sorted _ _ _, fun a ha b hb => ?_⟩, fun a ha => ?_⟩
    · have := h2 a ha; have := (hc b hb).1; omega
    · rcases List.mem_append.1 ha with h | h
      · have := h2 a h; omega
      · exact (hc a h).2
theorem allS_nodup (n : Nat) (bl : List Int) : (allS ⟨1, 2, n⟩ bl n).Nodup :=
  ((allS_sorted n bl n (Nat.le_refl _)).1).imp fun h => by omega

/-- How many of some heads are white. -/
def whites (W : List Int) (c : Int) (hs : List Int) : Nat := hs.countP fun a => tellOf (rdz W a) c == 1
theorem reap_get (c : Int) : ∀ (hs : List Int) (V : List Int) (k : Nat), hs.Nodup → (∀ a ∈ hs, inr V.length a = true) →
    (∀ a : Int, rdz (hs.foldl (visitR c) (V, k)).1 a = if a ∈ hs ∧ tellOf (rdz V a) c = 1 then freeOf (rdz V a) else rdz V a) ∧ (hs.foldl (visitR c) (V, k)).2 = k + whites V c hs
  | [], V, k, _, _ => ⟨fun a => by simp, by simp [whites]⟩
  | x :: hs, V, k, hn, hi => by
    obtain ⟨hx, hn⟩ := List.nodup_cons.1 hn
    rw [List.foldl_cons]
    have hst : ∃ V1 k1, visitR c (V, k) x = (V1, k1) ∧ V1.length = V.length ∧ (∀ a, rdz V1 a = if a = x ∧ tellOf (rdz V x) c = 1 then freeOf (rdz V x) else rdz V a) ∧ k1 = k + if tellOf (rdz V x) c = 1 then 1 else 0 := by
      unfold visitR
      dsimp only
      by_cases ht : tellOf (rdz V x) c = 1
      · rw [if_pos ht]
        refine ⟨_, _, rfl, putz_length _ _ _, fun a => ?_, by simp [ht]⟩
        rw [rdz_putz]
        by_cases ha : a = x
        · subst ha
          rw [if_pos ⟨rfl, hi a (by simp)⟩, if_pos ⟨rfl, ht⟩]
        · rw [if_neg (fun y => ha y.1.symm), if_neg (fun y => ha y.1)]
      · rw [if_neg ht]
        exact ⟨_, _, rfl, rfl, fun a => by rw [if_neg (fun y => ht y.2)], by simp [ht]⟩
    obtain ⟨V1, k1, hv, hl, hg, hk⟩ := hst
    rw [hv]
    obtain ⟨r1, r2⟩ := reap_get c hs V1 k1 hn (fun a ha => by rw [hl]; exact hi a (by simp [ha]))
    refine ⟨fun a => ?_, ?_⟩
    · rw [r1 a]
      by_cases ha : a = x
      · subst ha
        rw [if_neg (fun y => hx y.1), hg a]
        by_cases ht : tellOf (rdz V a) c = 1
        · rw [if_pos ⟨rfl, ht⟩, if_pos ⟨by simp, ht⟩]
        · rw [if_neg (fun y => ht y.2), if_neg (fun y => ht y.2)]
      · rw [hg a, if_neg (c := a = x ∧ _) (fun y => ha y.1)]
        by_cases hm : a ∈ hs ∧ tellOf (rdz V a) c = 1
        · rw [if_pos hm, if_pos ⟨by simp [hm.1], hm.2⟩]
        · rw [if_neg hm, if_neg (fun y => hm ⟨(List.mem_cons.1 y.1).resolve_left ha, y.2⟩)]
    · rw [r2, hk]
      unfold whites
      rw [List.countP_cons]
      have hc : hs.countP (fun a => tellOf (rdz V1 a) c == 1) = hs.countP (fun a => tellOf (rdz V a) c == 1) := List.countP_congr fun a ha => by
        rw [hg a, if_neg (c := a = x ∧ tellOf (rdz V x) c = 1) (fun y => hx (y.1 ▸ ha))]
      rw [hc]
      by_cases ht : tellOf (rdz V x) c = 1
      · simp [ht]; omega
      · simp [ht]
theorem tell_free (x c : Int) (hx : 0 ≤ x) : tellOf (freeOf x) c = 0 := by
  have hu := freeH_u8 x hx; have hm := freeH_may x hx
  unfold tellOf freeOf
  rw [hdOf_word hu hm, if_neg]
  simp [freeH]

/-- No header says more than there is room for. -/
def SizeW (n : Nat) (bl W : List Int) : Prop := ∀ s ∈ spots n bl, 0 ≤ (takeH (rdz W s.1)).size ∧ (takeH (rdz W s.1)).size ≤ s.2
theorem fld_head {n : Nat} {bl : List Int} {s s' : Int × Int} (hs : s ∈ spots n bl) (hs' : s' ∈ spots n bl) (all f : List Int) (m : Nat) (hm : (m : Int) ≤ s.2) (W : List Int) : rdz (fldW all f s.1 m W) s'.1 = rdz W s'.1 := by
  induction m with
  | zero => rfl
  | succ m ih =>
    rw [fldW_succ, rdz_putz, if_neg, ih (by omega)]
    intro h
    have := (spots_apart hs hs' (d := 1 + m) (by omega) (by omega)).1
    omega
theorem size_put {n : Nat} {bl all : List Int} : ∀ (ss : List (Int × Int)) (cs : List Cl) (W W' : List Int), (∀ s ∈ ss, s ∈ spots n bl) → (∀ x ∈ cs, x.h.u8) → SizeW n bl W → putS all ss cs W = some W' → SizeW n bl W'
  | [], cs, W, W', _, _, h, e => by cases e; exact h
  | s :: ss, [], W, W', _, _, h, e => by cases e; exact h
  | s :: ss, x :: xs, W, W', hs, hx, h, e => by
    unfold putS at e
    split at e
    · rename_i hg
      have hu := hx x (by simp)
      have hsz := hu.2.2.2.2.1
      refine size_put ss xs _ W' (fun s' h' => hs s' (by simp [h'])) (fun y hy => hx y (by simp [hy])) (fun s' hs' => ?_) e
      unfold clW
      rw [fld_head (hs s (by simp)) hs' _ _ _ (by omega), rdz_putz]
      split
      · rename_i he
        have h2 := (spots_apart (hs s (by simp)) hs' (d := 0) (by obtain ⟨_, _, _, _, _, _, h3, _⟩ := mem_spots (hs s (by simp)); omega) (by omega)).2
        rw [takeH_word hu hg.1]
        omega
      · exact h s' hs'
    · cases e
theorem size_words (bl : List Int) (cs : List Cl) (hu : ∀ x ∈ cs, x.h.u8) (r0 r1 : Int) (W : List Int) (h : wordsS bl cs r0 r1 = some W) : SizeW bl.length bl W := by
  unfold wordsS at h
  split at h
  · cases h
  · rename_i hg
    split at h
    · cases h
    · rename_i V hV
      cases h
      have h1 := size_put (all := allS ⟨1, 2, bl.length⟩ bl bl.length) _ _ _ _ (fun s hs => hs) hu (fun s hs => (show 0 ≤ (takeH (rdz (entW bl ⟨1, 2, bl.length⟩ bl.length) s.1)).size ∧ (takeH (rdz (entW bl ⟨1, 2, bl.length⟩ bl.length) s.1)).size ≤ s.2 from by
        have hin := spots_in hs
        obtain ⟨_, _, _, _, _, _, h3, _⟩ := mem_spots hs
        rw [entW_rdz bl.length bl bl.length (Nat.le_refl _), if_neg (by omega), show (takeH 0).size = 0 from by decide]
        omega)) hV
      have hg0 : (Lay.mk 1 2 bl.length).global 0 = 4 := by unfold Lay.global spot; dsimp only; rw [if_pos (by omega)]; omega
      have hg1 : (Lay.mk 1 2 bl.length).global 1 = 5 := by unfold Lay.global spot; dsimp only; rw [if_pos (by omega)]; omega
      rw [hg0, hg1]
      intro s hs
      have hin := spots_in hs
      rw [rdz_putz, if_neg (by omega), rdz_putz, if_neg (by omega)]
      exact h1 s hs

/-- Words behind reaping, place by place. -/
theorem reapR_get {n : Nat} (hn : n ≤ 6) {bl : List Int} (c : Int) (hc : c ≤ 1) {W : List Int} (hH : HeapW n bl W) :
    (∀ i : Int, 6 + n ≤ i → rdz (reapR n bl c W).1 i = if i ∈ allS ⟨1, 2, n⟩ bl n ∧ tellOf (rdz W i) c = 1 then freeOf (rdz W i) else rdz W i) ∧ (reapR n bl c W).2 = whites W c (allS ⟨1, 2, n⟩ bl n) := by
  unfold reapR
  rw [if_pos hc]
  have h := reap_get c (allS ⟨1, 2, n⟩ bl n) W 0 (allS_nodup n bl) (fun a ha => by
    obtain ⟨s, hs, rfl⟩ := all_spots a ha
    have hin := spots_in hs
    obtain ⟨_, _, _, _, _, _, h3, _⟩ := mem_spots hs
    have hl := hH.len
    unfold inr; simp; omega)
  refine ⟨fun i hi => ?_, by dsimp only; unfold reapS; rw [h.2]; omega⟩
  dsimp only
  rw [waitW_high (l := ⟨1, 2, n⟩) _ _ _ (by show (((6 : Nat) : Int)) + n ≤ i; omega)]
  exact h.1 i
theorem reapR_heap {n : Nat} (hn : n ≤ 6) {bl : List Int} (hb : ∀ k, 0 ≤ bl.getD k 0) (c : Int) (hc : c ≤ 1) {W : List Int} (hH : HeapW n bl W) : HeapW n (blW bl) (reapR n bl c W).1 := by
  unfold reapR
  rw [if_pos hc]
  exact heapW_wait hn hb (reap_heap c _ (W, 0) (fun a ha => all_spots a ha) hH).1
/-- Reaping again finds nothing. -/
theorem reapR_again {n : Nat} (hn : n ≤ 6) {bl : List Int} (hb : ∀ k, 0 ≤ bl.getD k 0) (c : Int) (hc : c ≤ 1) {W : List Int} (hH : HeapW n bl W) : (reapR n (blW bl) c (reapR n bl c W).1).2 = 0 := by
  rw [(reapR_get hn c hc (reapR_heap hn hb c hc hH)).2, allS_blW]
  unfold whites
  rw [List.countP_eq_zero]
  intro a ha
  obtain ⟨s, hs, rfl⟩ := all_spots a ha
  have hin := spots_in hs
  rw [(reapR_get hn c hc hH).1 s.1 (by omega)]
  by_cases ht : tellOf (rdz W s.1) c = 1
  · rw [if_pos ⟨ha, ht⟩, tell_free _ _ (hH.words s.1).1]; simp
  · rw [if_neg (fun y => ht y.2)]; simpa using ht

/-- What the walker of ReapWhite holds. -/
structure WhiteI (n : Nat) (W V : List Int) (c : Int) (pw pk pc pn pm gw b : Nat) (pre : List (Int × Nat)) (V' : List Int) (w : World) : Prop where
  words : V' = V
  wbox : w.heap[pw]? = some (.cells #[.slice (some ⟨gw, 0, none⟩) (6 + 33 * n) (6 + 33 * n)] 28 (0, 0))
  ok : w.heap[pk]? = some (.cells #[.bool true] 4 (0, 0))
  col : w.heap[pc]? = some (.cells #[.int .u8 c] 5 (0, 0))
  cnt : w.heap[pn]? = some (.cells #[.int .i64 (wrap64 ((whites W c (pre.map (·.1)) : Nat) : Int))] 3 (0, 0))
  mbox : w.heap[pm]? = some (.cells #[.pointer (some ⟨b, 0, none⟩)] 25 (0, 0))
  row : w.heap[gw]? = some (.cells (cellsOf .u64 W) 27 (0, 0))

set_option maxHeartbeats 8000000 in
theorem white_walker (b g n : Nat) (hn : n ≤ 6) (bl W : List Int) (hb0 : ∀ k, 0 ≤ bl.getD k 0) (hW : HeapW n bl W) (hS : SizeW n bl W) (c : Int) (hc : 0 ≤ c ∧ c ≤ 1) (pw pk pc pn pm gw : Nat)
    (hd : (pk ≠ pn ∧ pk ≠ pw ∧ pk ≠ pc ∧ pk ≠ pm ∧ pn ≠ pw ∧ pn ≠ pc ∧ pn ≠ pm) ∧ (b ≠ pw ∧ b ≠ pk ∧ b ≠ pc ∧ b ≠ pn ∧ b ≠ pm) ∧ (g ≠ pw ∧ g ≠ pk ∧ g ≠ pc ∧ g ≠ pn ∧ g ≠ pm)) (hgw : gw ≠ b ∧ gw ≠ g ∧ gw ≠ pk ∧ gw ≠ pn) :
    Walker b g ⟨1, 2, n⟩ (fun k => enS ((blW bl).getD k 0)) [pw, pk, pc, pn, pm, gw] 71 #[.pointer (some ⟨pw, 0, none⟩), .pointer (some ⟨pk, 0, none⟩), .pointer (some ⟨pc, 0, none⟩), .pointer (some ⟨pn, 0, none⟩), .pointer (some ⟨pm, 0, none⟩)] (WhiteI n W (reapR n bl c W).1 c pw pk pc pn pm gw b) where
  enter := Try.call71
  keep := fun hI k ho => ⟨hI.words, k.get hI.wbox (ho _ (by simp)), k.get hI.ok (ho _ (by simp)), k.get hI.col (ho _ (by simp)), k.get hI.cnt (ho _ (by simp)), k.get hI.mbox (ho _ (by simp)), k.get hI.row (ho _ (by simp))⟩
  cells := fun hI x hx => by
    simp only [List.mem_cons, List.not_mem_nil, or_false] at hx
    rcases hx with rfl | rfl | rfl | rfl | rfl | rfl
    · exact ⟨_, _, _, hI.wbox⟩
    · exact ⟨_, _, _, hI.ok⟩
    · exact ⟨_, _, _, hI.col⟩
    · exact ⟨_, _, _, hI.cnt⟩
    · exact ⟨_, _, _, hI.mbox⟩
    · exact ⟨_, _, _, hI.row⟩
  words := fun hI => by
    have := (stays_heap n hn (blW bl) (blW_pos hb0) 1 (by omega)).words _ (reapR_heap hn hb0 c hc.2 hW)
    rw [hI.words]
    exact this
  apart := by
    obtain ⟨-, ⟨e1, e2, e3, e4, e5⟩, ⟨g1, g2, g3, g4, g5⟩⟩ := hd
    simp only [List.mem_cons, List.not_mem_nil, or_false, not_or]
    exact ⟨⟨e1, e2, e3, e4, e5, hgw.1.symm⟩, ⟨g1, g2, g3, g4, g5, hgw.2.1.symm⟩⟩
  round := fun pre V' w t la a k hI hA hk ha => by
    have hV := reapR_heap hn hb0 c hc.2 hW
    have hget := (reapR_get hn c hc.2 hW).1
    have hval : (enS ((blW bl).getD k 0)).val = .agg #[.int .u8 (enS ((blW bl).getD k 0)).k, .int .u8 (enS ((blW bl).getD k 0)).c, .int .u8 (enS ((blW bl).getD k 0)).r, .int .u8 (enS ((blW bl).getD k 0)).o] := rfl
    have hall := heads_enS ⟨1, 2, n⟩ k ((blW bl).getD k 0) (blW_pos hb0 k)
    dsimp only at ha hk
    rw [hall] at ha
    have ham : a ∈ allS ⟨1, 2, n⟩ bl n := by
      rw [← allS_blW]
      exact List.mem_flatMap.2 ⟨k, List.mem_range.2 hk, ha⟩
    obtain ⟨s, hs, rfl⟩ := all_spots a ham
    have hin := spots_in hs
    obtain ⟨_, _, _, _, _, _, h3, _⟩ := mem_spots hs
    have hl := hW.len
    have hlV := (reapR_ok hn (bl := bl) c hW).1
    have hsz := hS s hs
    obtain ⟨A, hA'⟩ : ∃ A : Nat, s.1 = (A : Int) := ⟨s.1.toNat, by omega⟩
    have hgA := hget s.1 (by omega)
    rw [hval, hA']
    rw [hA'] at hgA hsz ham
    have hAr : ∃ t la, Arn w b g V' t la := ⟨t, la, hA⟩
    clear hall hval ha h3 hA
    generalize (reapR n bl c W).1 = V at *
    obtain rfl := hI.words
    generalize enS ((blW bl).getD k 0) = e at *
    obtain ⟨m, hm1, hm2⟩ : ∃ m : Nat, A + m < 6 + 33 * n ∧ (m : Int) ≤ s.2 ∧ (tellOf (rdz W A) c ≠ 1 → (takeH (rdz W A)).size = m) := by
      by_cases ht : tellOf (rdz W A) c = 1
      · exact ⟨0, by omega, by omega, fun h => absurd ht h⟩
      · exact ⟨((takeH (rdz W A)).size).toNat, by omega, by omega, fun _ => by omega⟩
    have hfr : tellOf (rdz W A) c = 1 → (takeH (rdz V' A)).kind = 0 := fun ht => by
      rw [hgA, if_pos ⟨ham, ht⟩]
      have hx := (hW.words (A : Int)).1
      unfold freeOf
      rw [takeH_word (freeH_u8 _ hx) (freeH_may _ hx)]; rfl
    have hkp : tellOf (rdz W A) c ≠ 1 → rdz V' A = rdz W A ∧ (takeH (rdz V' A)).size = m ∧ ∀ j : Nat, 1 ≤ j → j ≤ m → rdz V' ((A + j : Nat) : Int) = rdz W ((A + j : Nat) : Int) := fun ht => by
      rw [hgA, if_neg (fun y => ht y.2)]
      refine ⟨rfl, hm2.2 ht, fun j hj1 hj2 => ?_⟩
      have hnot : ¬ (((A + j : Nat) : Int) ∈ allS ⟨1, 2, n⟩ bl n ∧ tellOf (rdz W ((A + j : Nat) : Int)) c = 1) := fun y => by
        obtain ⟨s', hs', he⟩ := all_spots _ y.1
        have := (spots_apart hs hs' (d := j) (by omega) (by omega)).1
        omega
      rw [hget _ (by omega), if_neg hnot]
    have hwc : whites W c ((pre ++ [((A : Int), k)]).map (·.1)) = whites W c (pre.map (·.1)) + if tellOf (rdz W (A : Int)) c = 1 then 1 else 0 := by
      unfold whites
      rw [List.map_append, List.countP_append]
      simp [List.countP_cons]
    obtain ⟨-, i1, i2, i3, i4, i5, i6⟩ := hI
    have hfar := white_fn (6 + 33 * n) A (by omega) (by omega) W V' hl (by rw [hlV]; exact hl) hW.words hV.words c hc k e.k e.c e.r e.o (whites W c (pre.map (·.1))) hfr m hm1 hkp pw pk pc pn pm b g hd gw hgw w hAr i1 i2 i3 i4 i5 i6
    clear hfr hkp hget hgA hsz hS hV hW hlV
    generalize hq : whites W c (pre.map (·.1)) = q at *
    generalize tellOf (rdz W (A : Int)) c = tt at *
    generalize rdz V' (A : Int) = xv at *
    have hcnt : ∀ w' : World, w'.heap[pn]? = some (.cells #[.int .i64 (wrap64 ((q + if tt = 1 then 1 else 0 : Nat) : Int))] 3 (0, 0)) → w'.heap[pn]? = some (.cells #[.int .i64 (wrap64 ((whites W c ((pre ++ [((A : Int), k)]).map (·.1)) : Nat) : Int))] 3 (0, 0)) := fun w' h => by rw [hwc]; exact h
    clear hwc hq
    simp only [List.append_toArray, List.cons_append, List.nil_append]
    refine hfar.mono ?_
    rintro x w' ⟨rfl, q1, q2, hA2, K⟩
    obtain ⟨⟨d1, d2, d3, d4, d5, d6, d7⟩, ⟨e1, e2, e3, e4, e5⟩, ⟨g1, g2, g3, g4, g5⟩⟩ := hd
    have n1 : pw ∉ [b, g, pk, pn] ∧ pc ∉ [b, g, pk, pn] ∧ pm ∉ [b, g, pk, pn] ∧ gw ∉ [b, g, pk, pn] := by
      simp only [List.mem_cons, List.not_mem_nil, or_false, not_or]
      exact ⟨⟨e1.symm, g1.symm, d2.symm, d5.symm⟩, ⟨e3.symm, g3.symm, d3.symm, d6.symm⟩, ⟨e5.symm, g5.symm, d4.symm, d7.symm⟩, ⟨hgw.1, hgw.2.1, hgw.2.2.1, hgw.2.2.2⟩⟩
    have n2 : ∀ x ∈ [b, g, pk, pn], x ∈ [b, g, pw, pk, pc, pn, pm, gw] := fun x hx => by
      simp only [List.mem_cons, List.not_mem_nil, or_false] at hx ⊢
      rcases hx with rfl | rfl | rfl | rfl <;> simp
    exact ⟨rfl, _, hA2, ⟨rfl, K.get i1 n1.1, q1, K.get i3 n1.2.1, hcnt w' q2, K.get i5 n1.2.2.1, K.get i6 n1.2.2.2⟩, K.mono n2⟩

set_option maxRecDepth 100000 in
set_option maxHeartbeats 16000000 in
theorem reap_white_law (bv cv : Value) (bl : List Int) (cs : List Cl) (r0 r1 c : Int) (hc : 0 ≤ c ∧ c ≤ 255) (w : World) (hh : HpIn w bv cv bl cs r0 r1) :
    Calls Try.prog 12 #[heapV bv cv r0 r1, .int .u8 c] w fun e w' => e = .returned (.bool true) ∧ Keep [] w w' := by
  refine calls_abs fun R hR => ?_
  have mixed : Try.prog.follows .mixedOrders = true := by kernel_rfl
  have hmf : ∀ (fn : Fn) (first cap : Array Value) (w : World), (Instr.makeFunc fn first cap).run Try.prog w = .ok (.func fn first cap) w := fun _ _ _ _ => rfl
  have hb0 : ∀ k, 0 ≤ bl.getD k 0 := fun k => by
    rw [List.getD_eq_getElem?_getD]
    cases hk : bl[k]? with
    | none => simp
    | some x => exact (hh.bytes x (List.mem_of_getElem? hk)).1
  have hwd := fun (w' : World) (K : Keep [] w w') => law21_words _ _ _ _ _ _ w' (hh.keep K)
  have hheap := fun W h => heapW_words bl hb0 cs (fun x hx => (hh.ok x hx).1) r0 r1 W h
  have hsize := fun W h => size_words bl cs (fun x hx => (hh.ok x hx).1) r0 r1 W h
  generalize wordsS bl cs r0 r1 = o at *
  obtain ⟨n, hn⟩ : ∃ n, n = bl.length := ⟨_, rfl⟩
  rw [← hn] at hwd hheap hsize
  unfold WordsR heapV at hwd
  unfold heapV
  unfold Lay.val at hwd
  have HB0 := Lib.hid hb0
  have hlate : ∀ w1 w2, Keep [] w w1 → Keep [] w1 w2 → R (.returned (.bool true)) w2 := fun w1 w2 k1 k2 => hR.out _ _ ⟨rfl, k1.trans k2⟩
  have HLATE := Lib.hid hlate
  clear hlate
  cases o with
  | none =>
    dsimp only at hwd
    push_cast at hwd
    have HWD := Lib.hid hwd
    clear hwd hheap hsize hh hn hb0
    go_enter Try.func12, Try.ntmps12
    go_wp2_with fail
    refine (HWD.out _ (by repeat (first | (with_reducible exact Keep.refl _ _) | (with_reducible refine Keep.drew ?_) | (with_reducible refine Keep.drewN ?_ _) | (with_reducible refine Keep.alloc ?_ _) | (with_reducible refine Keep.setCell ?_ (by first | (simp; done) | (simp; omega) | (left; dsimp only; omega)) _)))).mono ?_
    rintro e w2 ⟨rfl, K2⟩
    have HK2 := Lib.hid (show Keep [] w w2 from by refine Keep.trans ?_ K2; ((repeat (first | (with_reducible exact Keep.refl _ _) | (with_reducible refine Keep.drew ?_) | (with_reducible refine Keep.drewN ?_ _) | (with_reducible refine Keep.alloc ?_ _) | ((with_reducible refine Keep.setCell ?_ ?_ _); rotate_left; focus (first | (simp; done) | (simp; omega) | (left; dsimp only; omega))))); done))
    clear K2
    go_wp2_with fail
    refine (law22_wakes _).mono ?_
    rintro e w3 ⟨rfl, K3⟩
    go_wp2_with fail
    refine HLATE.out _ _ ?_ K3
    ((repeat (first | (with_reducible exact HK2.out) | (with_reducible refine Keep.drew ?_) | (with_reducible refine Keep.drewN ?_ _) | (with_reducible refine Keep.alloc ?_ _) | ((with_reducible refine Keep.setCell ?_ ?_ _); rotate_left; focus (first | (simp; done) | (simp; omega) | (left; dsimp only; omega))))); done)
  | some W =>
    dsimp only at hwd
    push_cast at hwd
    have hHW := (hheap W rfl).1
    have hnb := (hheap W rfl).2
    have hSZ := hsize W rfl
    have HHW := Lib.hid hHW; have HSZ := Lib.hid hSZ
    have HWD := Lib.hid hwd
    clear hwd hheap hsize hSZ hh hHW hn hb0
    go_enter Try.func12, Try.ntmps12
    go_wp2_with fail
    have hpc0 : Hid (w.heap.size + 1 < ((w.alloc (.cells #[bv, cv, .int .u8 r0, .int .u8 r1] 86)).alloc (.cells #[.int .u8 c] 5)).heap.size) := by show _ < _; simp
    refine (HWD.out _ (by repeat (first | (with_reducible exact Keep.refl _ _) | (with_reducible refine Keep.drew ?_) | (with_reducible refine Keep.drewN ?_ _) | (with_reducible refine Keep.alloc ?_ _) | (with_reducible refine Keep.setCell ?_ (by first | (simp; done) | (simp; omega) | (left; dsimp only; omega)) _)))).mono ?_
    rintro e w2 ⟨g0, rfl, hg0, hgb, K2⟩
    have bc := K2.get (alloc_new (w.alloc (.cells #[bv, cv, .int .u8 r0, .int .u8 r1] 86)) (.cells #[.int .u8 c] 5) (w.heap.size + 1) (by simp)) (by simp)
    have hg0w : w.heap.size + 1 < g0 := by simp at hgb; omega
    obtain ⟨pc, hpc⟩ : ∃ x, x = w.heap.size + 1 := ⟨_, rfl⟩
    simp only [← hpc] at bc hg0w ⊢
    have HPC := Lib.hid hpc; have HBC := Lib.hid bc
    have cc := cell_at bc; have lc := lt_of_block bc
    have HG0 := Lib.hid hg0; have HK2 := Lib.hid (show Keep [] w w2 from by refine Keep.trans ?_ K2; ((repeat (first | (with_reducible exact Keep.refl _ _) | (with_reducible refine Keep.drew ?_) | (with_reducible refine Keep.drewN ?_ _) | (with_reducible refine Keep.alloc ?_ _) | ((with_reducible refine Keep.setCell ?_ ?_ _); rotate_left; focus (first | (simp; done) | (simp; omega) | (left; dsimp only; omega))))); done))
    clear hg0 hgb K2 bc hpc hpc0
    by_cases hc1 : 1 < c
    · have q0 : decide (1 < c) = true := by simpa using hc1
      go_wp2_with fail
      refine (law22_wakes _).mono ?_
      rintro e w3 ⟨rfl, K3⟩
      go_wp2_with fail
      refine HLATE.out _ _ ?_ K3
      ((repeat (first | (with_reducible exact HK2.out) | (with_reducible refine Keep.drew ?_) | (with_reducible refine Keep.drewN ?_ _) | (with_reducible refine Keep.alloc ?_ _) | ((with_reducible refine Keep.setCell ?_ ?_ _); rotate_left; focus (first | (simp; done) | (simp; omega) | (left; dsimp only; omega))))); done)
    have q0 : decide (1 < c) = false := by simpa using hc1
    go_wp2_with fail
    obtain ⟨z, hz⟩ : ∃ z, z = w2.heap.size := ⟨_, rfl⟩
    simp only [← hz] at lc ⊢
    generalize hw3 : World.alloc _ _ = w3
    have b5 : w3.heap[z]? = some (.cells #[.slice (some ⟨g0, 0, none⟩) (6 + 33 * n) (6 + 33 * n)] 28 (0, 0)) := by rw [← hw3]; exact alloc_keeps (alloc_new _ _ _ hz) _
    have b6 : w3.heap[z + 1]? = some (.cells #[.int .i64 1, .int .i64 2, .int .i64 n] 88 (0, 0)) := by rw [← hw3]; exact alloc_new _ _ _ (by simp [hz])
    have K3 : Keep [] w2 w3 := by rw [← hw3]; exact (by repeat (first | (with_reducible exact Keep.refl _ _) | (with_reducible refine Keep.drew ?_) | (with_reducible refine Keep.drewN ?_ _) | (with_reducible refine Keep.alloc ?_ _) | (with_reducible refine Keep.setCell ?_ (by first | (simp; done) | (simp; omega) | (left; dsimp only; omega)) _)))
    have hlen := HHW.out.len
    have hg03 := K3.get HG0.out (by simp)
    have hr0 : Rd w3 (.slice (some ⟨g0, 0, none⟩) (6 + 33 * n) (6 + 33 * n)) W.length (u64s W) := by
      have h := rd_of_u64 hg03 (by rw [hlen]; omega)
      rw [hlen] at h ⊢
      exact h
    have hmade := law21_made n hnb W hlen _ w3 hr0
    unfold Lay.val at hmade
    dsimp only at hmade
    push_cast at hmade
    have hgz : g0 < z := by have := lt_of_block HG0.out; omega
    have HB5 := Lib.hid b5; have HB6 := Lib.hid b6; have HK3 := Lib.hid (HK2.out.trans K3); have HM := Lib.hid hmade; have HG03 := Lib.hid hg03; have HLEN := Lib.hid hlen; have HBC3 := Lib.hid (K3.get HBC.out (by simp))
    clear hw3 b5 b6 hr0 K3 hmade hz hg03 hlen HBC cc lc
    refine HM.out.mono ?_
    rintro e w4 ⟨b, g, rfl, hA4, K4, hb4, hg4⟩
    have HA4 := Lib.hid hA4; have HK4 := Lib.hid (HK3.out.trans K4); have HB54 := Lib.hid (K4.get HB5.out (by simp)); have HB64 := Lib.hid (K4.get HB6.out (by simp)); have HG4 := Lib.hid (K4.get HG03.out (by simp)); have HBC4 := Lib.hid (K4.get HBC3.out (by simp))
    have hzb : z + 1 < b ∧ z + 1 < g := by have := lt_of_block HB6.out; omega
    clear hA4 K4 hb4 hg4 HM HB5 HB6 HG03 HG0 HBC3
    have c6 := cell_at HB64.out; have l6 := lt_of_block HB64.out
    go_upto_region 5 with (fail)
    obtain ⟨z8, hz8⟩ : ∃ z, z = w4.heap.size := ⟨_, rfl⟩
    simp only [← hz8] at l6 ⊢
    generalize hw5 : World.alloc _ _ = w5
    have b8 : w5.heap[z8]? = some (.cells #[.pointer (some ⟨b, 0, none⟩)] 25 (0, 0)) := by rw [← hw5]; exact alloc_keeps (alloc_new _ _ _ hz8) _
    have b9 : w5.heap[z8 + 1]? = some (.cells #[.int .i64 1, .int .i64 2, .int .i64 n] 53 (0, 0)) := by rw [← hw5]; exact alloc_new _ _ _ (by simp [hz8])
    have K5 : Keep [] w4 w5 := by rw [← hw5]; exact (by repeat (first | (with_reducible exact Keep.refl _ _) | (with_reducible refine Keep.drew ?_) | (with_reducible refine Keep.drewN ?_ _) | (with_reducible refine Keep.alloc ?_ _) | (with_reducible refine Keep.setCell ?_ (by first | (simp; done) | (simp; omega) | (left; dsimp only; omega)) _)))
    have hbg9 : b < z8 ∧ g < z8 := by have := arn_lt HA4.out; omega
    have HB8 := Lib.hid b8; have HB9 := Lib.hid b9; have HK5 := Lib.hid (HK4.out.trans K5); have HA5 := Lib.hid (arn_far HA4.out K5)
    have HB55 := Lib.hid (K5.get HB54.out (by simp)); have HB65 := Lib.hid (K5.get HB64.out (by simp)); have HG5 := Lib.hid (K5.get HG4.out (by simp)); have HBC5 := Lib.hid (K5.get HBC4.out (by simp))
    have hblk := fun w => layout_blocks (Lay.mk 1 2 n) w
    unfold Lay.val at hblk
    dsimp only at hblk
    push_cast at hblk
    have HBLK := Lib.hid hblk
    have D0 : Hid (w5.cell? ⟨z8, 0, none⟩ = some (.pointer (some ⟨b, 0, none⟩))) := by rw [Hid, cell_at b8]; rfl
    have D1 : Hid (w5.cell? ⟨z8 + 1, 0, none⟩ = some (.int .i64 1)) := by rw [Hid, cell_at b9]; rfl
    have D2 : Hid (w5.cell? ⟨z8 + 1, 1, none⟩ = some (.int .i64 2)) := by rw [Hid, cell_at b9]; rfl
    have D3 : Hid (w5.cell? ⟨z8 + 1, 2, none⟩ = some (.int .i64 n)) := by rw [Hid, cell_at b9]; rfl
    have D4 : Hid (w5.cell? ⟨z + 1, 2, none⟩ = some (.int .i64 n)) := by rw [Hid, cell_at HB65.out]; rfl
    have qn : ((n : Int) != (n : Int)) = false := by simp
    clear hw5 hblk b8 b9 K5 hz8 c6 l6 HA4 HB54 HB64 HK4 HG4 HBC4
    (go_region_held3 (fun w' => w'.cell? ⟨z8, 0, none⟩ = some (.pointer (some ⟨b, 0, none⟩)) ∧ w'.cell? ⟨z8 + 1, 0, none⟩ = some (.int .i64 1) ∧ w'.cell? ⟨z8 + 1, 1, none⟩ = some (.int .i64 2) ∧ w'.cell? ⟨z8 + 1, 2, none⟩ = some (.int .i64 n) ∧ w'.cell? ⟨z + 1, 2, none⟩ = some (.int .i64 n))
        (first
          | (refine ⟨Keep.cell (S := []) (w := w5) ?_ D0.out (by simp), Keep.cell (S := []) (w := w5) ?_ D1.out (by simp), Keep.cell (S := []) (w := w5) ?_ D2.out (by simp), Keep.cell (S := []) (w := w5) ?_ D3.out (by simp), Keep.cell (S := []) (w := w5) ?_ D4.out (by simp)⟩; all_goals (((repeat (first | (with_reducible exact Keep.refl _ _) | (with_reducible refine Keep.drew ?_) | (with_reducible refine Keep.drewN ?_ _) | (with_reducible refine Keep.alloc ?_ _) | ((with_reducible refine Keep.setCell ?_ ?_ _); rotate_left; focus (first | (simp; done) | (simp; omega) | (left; dsimp only; omega))))); done)))
          | (refine ⟨Keep.cell (S := []) (w := w5) ?_ D0.out (by simp), Keep.cell (S := []) (w := w5) ?_ D1.out (by simp), Keep.cell (S := []) (w := w5) ?_ D2.out (by simp), Keep.cell (S := []) (w := w5) ?_ D3.out (by simp), Keep.cell (S := []) (w := w5) ?_ D4.out (by simp)⟩; all_goals (((repeat (first | (with_reducible exact HK6.out) | (with_reducible refine Keep.drew ?_) | (with_reducible refine Keep.drewN ?_ _) | (with_reducible refine Keep.alloc ?_ _) | ((with_reducible refine Keep.setCell ?_ ?_ _); rotate_left; focus (first | (simp; done) | (simp; omega) | (left; dsimp only; omega))))); done))))
        (first | (go_at_call 53; refine (HBLK.out _).mono ?_; rintro e w6 ⟨rfl, K6⟩; have HK6 := Lib.hid (show Keep [] w5 w6 from by refine Keep.trans (a := w5) ?_ K6; ((repeat (first | (with_reducible exact Keep.refl _ _) | (with_reducible refine Keep.drew ?_) | (with_reducible refine Keep.drewN ?_ _) | (with_reducible refine Keep.alloc ?_ _) | ((with_reducible refine Keep.setCell ?_ ?_ _); rotate_left; focus (first | (simp; done) | (simp; omega) | (left; dsimp only; omega))))); done)); clear K6)))
    have HK6' := Lib.hid (HK5.out.trans HK6.out); have HA6 := Lib.hid (arn_far HA5.out HK6.out)
    have HB56 := Lib.hid (HK6.out.get HB55.out (by simp)); have HG6 := Lib.hid (HK6.out.get HG5.out (by simp)); have HBC6 := Lib.hid (HK6.out.get HBC5.out (by simp)); have HB86 := Lib.hid (HK6.out.get HB8.out (by simp)); have HB96 := Lib.hid (HK6.out.get HB9.out (by simp))
    have c8 := cell_at HB86.out; have c9 := cell_at HB96.out; have cc := cell_at HBC6.out
    clear HB55 HB65 HG5 HBC5 HB8 HB9 HA5 HK5 D0 D1 D2 D3 D4
    go_wp2_with fail
    have hrp := reap_any hnb.2 HB0.out c hc HHW.out HA6.out
    have hok := reapR_ok hnb.2 (bl := bl) c HHW.out
    have hgt := (reapR_get hnb.2 c (by omega) HHW.out).2
    have hV := reapR_heap hnb.2 HB0.out c (by omega) HHW.out
    have hag := fun (w' : World) (h : ∃ t la, Arn w' b g (reapR n bl c W).1 t la) => reap_any hnb.2 (blW_pos HB0.out) c hc hV h
    rw [reapR_again hnb.2 HB0.out c (by omega) HHW.out] at hag
    have hwalk := fun (w' : World) (pk pn : Nat) hd hgw (t la : Int) (h : Arn w' b g (reapR n bl c W).1 t la) hI => trace_walk (W := (reapR n bl c W).1) ⟨by show (1 : Nat) ≤ 64; omega, by show (2 : Nat) ≤ 8; omega, by show n ≤ 64; omega⟩ (white_walker b g n hnb.2 bl W HB0.out HHW.out HSZ.out c (by omega) z pk pc pn z8 g0 hd hgw) h hI
    have hho := headsOf_all ⟨1, 2, n⟩ (blW bl) (blW_pos HB0.out) n
    rw [allS_blW] at hho
    unfold Lay.val at hrp hag hwalk
    dsimp only at hrp hag hwalk
    push_cast at hrp hag hwalk
    obtain ⟨V, hVV⟩ : ∃ V, V = (reapR n bl c W).1 := ⟨_, rfl⟩
    obtain ⟨m, hm⟩ : ∃ m, m = (reapR n bl c W).2 := ⟨_, rfl⟩
    rw [← hVV, ← hm] at hrp hok
    rw [← hVV] at hag hwalk
    rw [← hm] at hgt
    have HRP := Lib.hid hrp; have HOK := Lib.hid hok; have HGT := Lib.hid hgt; have HAG := Lib.hid hag; have HWALK := Lib.hid hwalk; have HHO := Lib.hid hho
    clear hrp hok hgt hV hag hwalk hho hVV hm
    refine HRP.out.mono ?_
    rintro e w7 ⟨rfl, hA7, K7⟩
    have hnot : z ∉ [b, g] ∧ z8 ∉ [b, g] ∧ z8 + 1 ∉ [b, g] ∧ pc ∉ [b, g] ∧ g0 ∉ [b, g] := by simp; omega
    obtain ⟨no1, no2, no3, no4, no5⟩ := hnot
    have HB57 := Lib.hid (K7.get HB56.out no1); have HB87 := Lib.hid (K7.get HB86.out no2); have HB97 := Lib.hid (K7.get HB96.out no3); have HBC7 := Lib.hid (K7.get HBC6.out no4); have HG7 := Lib.hid (K7.get HG6.out no5)
    have hpw : w.heap.size ≤ pc := by have := HPC.out; omega
    have HK7 := Lib.hid (HK6'.out.fresh K7 (by simp; omega)); have HA7 := Lib.hid hA7
    have c8 := cell_at HB87.out; have c9 := cell_at HB97.out; have cc := cell_at HBC7.out; have l8 := lt_of_block HB87.out; have l9 := lt_of_block HB97.out; have lc := lt_of_block HBC7.out
    clear hA7 K7 HB56 HB86 HB96 HBC6 HG6 HK6 HK6' HA6 HRP no1 no2 no3 no4 no5
    obtain ⟨y, hy⟩ : ∃ y, y = w7.heap.size := ⟨_, rfl⟩
    have ly : z8 + 1 < y := by omega
    have l81 : z8 < w7.heap.size + 1 := by omega
    have l91 : z8 + 1 < w7.heap.size + 1 := by omega
    have lc1 : pc < w7.heap.size + 1 := by omega
    have HY := Lib.hid hy
    clear hy
    go_wp2_with fail
    have hy := HY.out
    simp only [← hy] at l8 l9 lc l81 l91 lc1 ⊢
    generalize hw8 : World.alloc _ _ = w8
    have b11 : w8.heap[y]? = some (.cells #[.bool true] 4 (0, 0)) := by rw [← hw8]; exact alloc_keeps (alloc_new _ _ _ hy) _
    have b12 : w8.heap[y + 1]? = some (.cells #[.int .i64 0] 3 (0, 0)) := by rw [← hw8]; exact alloc_new _ _ _ (by simp [hy])
    have K8 : Keep [] w7 w8 := by rw [← hw8]; exact (by repeat (first | (with_reducible exact Keep.refl _ _) | (with_reducible refine Keep.drew ?_) | (with_reducible refine Keep.drewN ?_ _) | (with_reducible refine Keep.alloc ?_ _) | (with_reducible refine Keep.setCell ?_ (by first | (simp; done) | (simp; omega) | (left; dsimp only; omega)) _)))
    have hA8 := arn_far HA7.out K8
    have hI0 : WhiteI n W V c z y pc (y + 1) z8 g0 b [] V w8 := ⟨rfl, K8.get HB57.out (by simp), b11, K8.get HBC7.out (by simp), by show w8.heap[y + 1]? = some (.cells #[.int .i64 (wrap64 ((0 : Nat) : Int))] 3 (0, 0)); rw [show wrap64 ((0 : Nat) : Int) = 0 from by unfold wrap64; omega]; exact b12, K8.get HB87.out (by simp), K8.get HG7.out (by simp)⟩
    have hpg : pc < g0 := by have := HPC.out; omega
    have hwk := HWALK.out w8 y (y + 1) ⟨⟨by omega, by omega, by omega, by omega, by omega, by omega, by omega⟩, ⟨by omega, by omega, by omega, by omega, by omega⟩, by omega, by omega, by omega, by omega, by omega⟩ ⟨by omega, by omega, by omega, by omega⟩ hA8.choose hA8.choose_spec.choose hA8.choose_spec.choose_spec hI0
    have HWK := Lib.hid hwk; have HB98 := Lib.hid (K8.get HB97.out (by simp)); have HK8 := Lib.hid (HK7.out.trans K8)
    clear hw8 b11 b12 K8 hA8 hI0 hwk HWALK HB57 HB87 HB97 HBC7 HG7 HK7 HA7 c8 c9 cc l8 l9 lc l81 l91 lc1 hy
    refine HWK.out.mono ?_
    rintro e w9 ⟨rfl, V9, hA9, hI9, K9⟩
    obtain ⟨rfl, i5, i11, ic, i12, i8, ig⟩ := hI9
    rw [HHO.out, ← HGT.out] at i12
    have hm96 := HOK.out.2
    rw [wrap64_small' m (by omega)] at i12
    have hown : ∀ x ∈ [b, g, z, y, pc, y + 1, z8, g0], w.heap.size ≤ x ∧ x ≠ z8 + 1 := fun x hx => by
      simp only [List.mem_cons, List.not_mem_nil, or_false] at hx
      rcases hx with rfl | rfl | rfl | rfl | rfl | rfl | rfl | rfl <;> omega
    have i9 := K9.get HB98.out (fun h => (hown _ h).2 rfl)
    have HK9 := Lib.hid (HK8.out.fresh K9 (fun x hx => .inl (hown x hx).1))
    have HA9 := Lib.hid hA9
    have c11 := cell_at i11; have c12 := cell_at i12; have c8 := cell_at i8; have c9 := cell_at i9; have cc := cell_at ic
    have qm : ((m : Int) == (m : Int)) = true := by simp
    clear hA9 i5 i11 ic i12 i8 ig i9 K9 hown HWK HB98 HK8
    go_wp2_with fail
    refine (HAG.out w9 HA9.out).mono ?_
    rintro e w10 ⟨rfl, hA10, K10⟩
    have HK10 := Lib.hid (HK9.out.fresh K10 (by simp; omega))
    clear hA10 K10
    go_wp2_with fail
    refine (law22_wakes _).mono ?_
    rintro e w11 ⟨rfl, K11⟩
    go_wp2_with fail
    exact HLATE.out _ _ HK10.out K11

open Go.ChangeShapes Go.WideShapes in
set_option maxRecDepth 100000 in
theorem lawReapWhite_walk {H : Type} {enc : TypeId × Value → H} {base : Nat} (W : World) {v0 v1 : Value} {d0 d1 : DataW H} {p0 p1 : List MemPlace}
    (ok0 : Value.okWide Try.prog W .any base 86 v0) (h0 : DataW.Trod enc Try.prog W 0 (fun _ => true) true 86 v0 d0 p0)
    (ok1 : Value.okWide Try.prog W .any base 5 v1) (h1 : DataW.Trod enc Try.prog W 0 (fun _ => true) true 5 v1 d1 p1) :
    Calls Try.prog 12 #[v0, v1] W fun e w' => e = .returned (.bool true) ∧ Below W.heap.size W w' := by
  obtain ⟨c, rfl, rfl, rfl, w1⟩ := open_int Try.underlying5 ok1 h1
  obtain ⟨bv, cv, bl, cs, r0, r1, rfl, hh⟩ := heap_opened ok0 h0
  refine (reap_white_law bv cv bl cs r0 r1 c (lit_wf_u8 w1) W hh).mono ?_
  rintro e w' ⟨rfl, K⟩
  exact ⟨rfl, K.below (Nat.le_refl _) (by simp)⟩
end Go.Proofs.Ytnadiddaeolanaa
