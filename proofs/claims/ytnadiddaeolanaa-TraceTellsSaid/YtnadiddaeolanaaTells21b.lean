/- The walk of TraceTells. -/
import Derived.Test.YtnadiddaeolanaaTells21
namespace Go.Proofs.Ytnadiddaeolanaa
open Go.RowKit
set_option linter.unusedVariables false
set_option linter.unusedSimpArgs false

/-- What the walker of TraceTells holds. -/
structure TellsI (n : Nat) (hs W : List Int) (pk pn ph pw pp : Nat) (vh vw : Value) (pre : List (Int × Nat)) (V : List Int) (w : World) : Prop where
  words : V = W
  ok : w.heap[pk]? = some (.cells #[.bool ((pre.map (·.1)).isPrefixOf hs)] 4 (0, 0))
  cnt : w.heap[pn]? = some (.cells #[.int .i64 (wrap64 (pre.length : Nat))] 3 (0, 0))
  heads : w.heap[ph]? = some (.cells #[vh] 22 (0, 0))
  wbox : w.heap[pw]? = some (.cells #[vw] 28 (0, 0))
  lay : w.heap[pp]? = some (.cells #[.int .i64 1, .int .i64 2, .int .i64 n] 53 (0, 0))
  rh : Rd w vh hs.length (intsV hs)
  rw : Rd w vw W.length (u64s W)
  bh : ∀ x, vh.ownBlock = some x → ∃ cs t fr, w.heap[x]? = some (.cells cs t fr)
  bw : ∀ x, vw.ownBlock = some x → ∃ cs t fr, w.heap[x]? = some (.cells cs t fr)

def tellsOwn (pk pn ph pw pp : Nat) (vh vw : Value) : List Nat := [pk, pn, ph, pw, pp] ++ (vh.ownBlock.toList ++ vw.ownBlock.toList)
theorem mem_tellsOwn {pk pn ph pw pp : Nat} {vh vw : Value} {x : Nat} : x ∈ tellsOwn pk pn ph pw pp vh vw ↔ x = pk ∨ x = pn ∨ x = ph ∨ x = pw ∨ x = pp ∨ vh.ownBlock = some x ∨ vw.ownBlock = some x := by
  simp [tellsOwn]

theorem TellsI.keep {n : Nat} {hs W : List Int} {pk pn ph pw pp : Nat} {vh vw : Value} {pre : List (Int × Nat)} {V : List Int} {w w' : World} {T : List Nat} (h : TellsI n hs W pk pn ph pw pp vh vw pre V w) (k : Keep T w w') (hT : ∀ x ∈ tellsOwn pk pn ph pw pp vh vw, x ∉ T) : TellsI n hs W pk pn ph pw pp vh vw pre V w' := by
  have hh : ∀ x, vh.ownBlock = some x → x ∉ T := fun x hx => hT x (by rw [mem_tellsOwn]; simp [hx])
  have hw : ∀ x, vw.ownBlock = some x → x ∉ T := fun x hx => hT x (by rw [mem_tellsOwn]; simp [hx])
  refine ⟨h.words, k.get h.ok (hT _ (by rw [mem_tellsOwn]; simp)), k.get h.cnt (hT _ (by rw [mem_tellsOwn]; simp)), k.get h.heads (hT _ (by rw [mem_tellsOwn]; simp)), k.get h.wbox (hT _ (by rw [mem_tellsOwn]; simp)), k.get h.lay (hT _ (by rw [mem_tellsOwn]; simp)), h.rh.keep k hh, h.rw.keep k hw, fun x hx => ?_, fun x hx => ?_⟩
  · obtain ⟨cs, t, fr, hc⟩ := h.bh x hx
    exact ⟨cs, t, fr, k.get hc (hh x hx)⟩
  · obtain ⟨cs, t, fr, hc⟩ := h.bw x hx
    exact ⟨cs, t, fr, k.get hc (hw x hx)⟩

theorem tells_walker (b g n : Nat) (hn : n ≤ 6) (bl hs W : List Int) (hb0 : ∀ k, 0 ≤ bl.getD k 0) (hW : HeapW n bl W) (hsl : hs.length ≤ 1000) (pk pn ph pw pp : Nat) (vh vw : Value)
    (hd : pk ≠ pn ∧ ph ≠ pk ∧ ph ≠ pn ∧ pw ≠ pk ∧ pw ≠ pn ∧ pp ≠ pk ∧ pp ≠ pn) (hvh : vh.ownBlock ≠ some pk ∧ vh.ownBlock ≠ some pn) (hvw : vw.ownBlock ≠ some pk ∧ vw.ownBlock ≠ some pn)
    (hap : b ∉ tellsOwn pk pn ph pw pp vh vw ∧ g ∉ tellsOwn pk pn ph pw pp vh vw) :
    Walker b g ⟨1, 2, n⟩ (fun k => enS (bl.getD k 0)) (tellsOwn pk pn ph pw pp vh vw) 64 #[.pointer (some ⟨pk, 0, none⟩), .pointer (some ⟨pn, 0, none⟩), .pointer (some ⟨ph, 0, none⟩), .pointer (some ⟨pw, 0, none⟩), .pointer (some ⟨pp, 0, none⟩)] (TellsI n hs W pk pn ph pw pp vh vw) where
  enter := Try.call64
  keep := fun hI k ho => hI.keep k ho
  cells := fun hI x hx => by
    rw [mem_tellsOwn] at hx
    rcases hx with rfl | rfl | rfl | rfl | rfl | hx | hx
    · exact ⟨_, _, _, hI.ok⟩
    · exact ⟨_, _, _, hI.cnt⟩
    · exact ⟨_, _, _, hI.heads⟩
    · exact ⟨_, _, _, hI.wbox⟩
    · exact ⟨_, _, _, hI.lay⟩
    · exact hI.bh x hx
    · exact hI.bw x hx
  words := fun hI => by
    have := (stays_heap n hn bl hb0 1 (by omega)).words W hW
    rw [hI.words]
    exact this
  apart := hap
  round := fun pre V w t la a k hI hA hk ha => by
    obtain ⟨c, d, he, hk2, hk0, hk4, hd0, hd3, hor⟩ := enS_cases ⟨1, 2, n⟩ k (bl.getD k 0) (hb0 k)
    have hall := heads_enS ⟨1, 2, n⟩ k (bl.getD k 0) (hb0 k)
    dsimp only at ha hk
    rw [hall] at ha
    rw [he]
    obtain ⟨rfl, rfl⟩ : c = 1 ∧ d = bl.getD k 0 := by
      rcases hor with h | h
      · exact h
      · rw [h.2] at ha; simp at ha
    unfold cellsAt at ha
    obtain ⟨s, hs', rfl⟩ := List.mem_map.1 ha
    have h1 := startsC_bd _ s hs'
    have h2 := wordsC_pos _ s hs'
    have h3 := start_is n k hk
    obtain ⟨A, hA'⟩ : ∃ A : Nat, ((Lay.mk 1 2 n).start k + s) = (A : Int) := ⟨((Lay.mk 1 2 n).start k + s).toNat, by omega⟩
    rw [hA']
    have hlW := hW.len
    obtain rfl := hI.words
    refine (tells_fn n hn V (by omega) hs hsl A (by omega) k 0 0 (bl.getD k 0) _ rfl (by omega) (by omega) _ pre.length (fun h => by simpa using okP_len _ _ h) pk pn ph pw pp hd vh vw w hI.ok hI.cnt hI.heads hI.wbox hI.lay hI.rh hI.rw).mono ?_
    rintro x w' ⟨rfl, q1, q2, K⟩
    have hne : ∀ x ∈ tellsOwn pk pn ph pw pp vh vw, x ≠ pk → x ≠ pn → x ∉ [pk, pn] := fun x _ h1 h2 => by simp [h1, h2]
    have hh : ∀ x, vh.ownBlock = some x → x ∉ [pk, pn] := fun x hx => by
      simp only [List.mem_cons, List.not_mem_nil, or_false, not_or]
      exact ⟨fun e => hvh.1 (by rw [hx, e]), fun e => hvh.2 (by rw [hx, e])⟩
    have hw : ∀ x, vw.ownBlock = some x → x ∉ [pk, pn] := fun x hx => by
      simp only [List.mem_cons, List.not_mem_nil, or_false, not_or]
      exact ⟨fun e => hvw.1 (by rw [hx, e]), fun e => hvw.2 (by rw [hx, e])⟩
    have hbk : b ∉ [pk, pn] ∧ g ∉ [pk, pn] := by
      have h1 := hap.1; have h2 := hap.2
      rw [mem_tellsOwn] at h1 h2
      simp only [List.mem_cons, List.not_mem_nil, or_false, not_or]
      simp only [not_or] at h1 h2
      exact ⟨⟨h1.1, h1.2.1⟩, ⟨h2.1, h2.2.1⟩⟩
    refine ⟨rfl, V, ⟨t, la, hA.keep K hbk.1 hbk.2⟩, ⟨rfl, ?_, ?_, K.get hI.heads (by simp; omega), K.get hI.wbox (by simp; omega), K.get hI.lay (by simp; omega), hI.rh.keep K hh, hI.rw.keep K hw, fun x hx => ?_, fun x hx => ?_⟩, K.mono (fun x hx => ?_)⟩
    · rw [List.map_append, show List.map (fun x : Int × Nat => x.1) [((A : Int), k)] = [(A : Int)] from rfl, okP_snoc, List.length_map]
      exact q1
    · rw [List.length_append]
      exact q2
    · obtain ⟨cs, t, fr, hc⟩ := hI.bh x hx
      exact ⟨cs, t, fr, K.get hc (hh x hx)⟩
    · obtain ⟨cs, t, fr, hc⟩ := hI.bw x hx
      exact ⟨cs, t, fr, K.get hc (hw x hx)⟩
    · simp only [List.mem_cons, List.not_mem_nil, or_false] at hx
      simp only [List.mem_cons, mem_tellsOwn]
      rcases hx with rfl | rfl <;> simp
end Go.Proofs.Ytnadiddaeolanaa
