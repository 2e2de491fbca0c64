/- A row of whole numbers of the call's own that may begin within its block. -/
import Derived.Test.YtnadiddaeolanaaApp
namespace Go.Proofs.Ytnadiddaeolanaa
open Go.RowKit
set_option linter.unusedVariables false
set_option linter.unusedSimpArgs false

/-- v has n numbers xs: a slice of a block from base on, wherever it begins in it. -/
def Offs (w : World) (base : Nat) (e : TypeId) (v : Value) (n : Nat) (xs : List Int) : Prop :=
  xs.length = n ∧ ((v = .slice none 0 0 ∧ n = 0) ∨
    ∃ g o cap cur, v = .slice (some ⟨g, o, none⟩) n cap ∧ base ≤ g ∧ w.heap[g]? = some (.cells cur e (0, 0)) ∧ n ≤ cap ∧ cap ≤ maxLen ∧ o + cap ≤ cur.size ∧ ∀ (i : Nat) (x : Int), xs[i]? = some x → cur[o + i]? = some (Value.int .i64 x))

theorem Offs.nil (w : World) (base : Nat) (e : TypeId) : Offs w base e (.slice none 0 0) 0 [] := ⟨rfl, .inl ⟨rfl, rfl⟩⟩
theorem Offs.block {w : World} {base : Nat} {e : TypeId} {v : Value} {n : Nat} {xs : List Int} (h : Offs w base e v n xs) : ∀ g, v.ownBlock = some g → base ≤ g ∧ g < w.heap.size := fun g hg => by
  obtain ⟨_, ⟨rfl, _⟩ | ⟨g', o, cap, cur, rfl, h1, h2, _⟩⟩ := h
  · simp [Value.ownBlock] at hg
  · simp [Value.ownBlock] at hg
    subst hg
    exact ⟨h1, lt_of_block h2⟩
theorem Offs.keep {S : List Nat} {w w' : World} {base : Nat} {e : TypeId} {v : Value} {n : Nat} {xs : List Int} (h : Offs w base e v n xs) (k : Keep S w w') (hS : ∀ g, v.ownBlock = some g → g ∉ S) : Offs w' base e v n xs := by
  obtain ⟨h0, ⟨rfl, h1⟩ | ⟨g', o, cap, cur, rfl, h1, h2, h3⟩⟩ := h
  · exact ⟨h0, .inl ⟨rfl, h1⟩⟩
  · exact ⟨h0, .inr ⟨g', o, cap, cur, rfl, h1, k.get h2 (hS g' rfl), h3⟩⟩
theorem Offs.shape {w : World} {base : Nat} {e : TypeId} {v : Value} {n : Nat} {xs : List Int} (h : Offs w base e v n xs) : ∃ ao cap, v = .slice ao n cap ∧ n ≤ cap ∧ cap ≤ maxLen := by
  obtain ⟨_, ⟨rfl, rfl⟩ | ⟨g', o, cap, cur, rfl, _, _, h3, h4, _⟩⟩ := h
  · exact ⟨_, _, rfl, Nat.le_refl _, Nat.zero_le _⟩
  · exact ⟨_, _, rfl, h3, h4⟩

/-- The first element; what is left behind '[1:]'. -/
theorem Offs.head {w : World} {base : Nat} {e : TypeId} {v : Value} {x : Int} {xs : List Int} (h : Offs w base e v (xs.length + 1) (x :: xs)) :
    ∃ g o cap, v = .slice (some ⟨g, o, none⟩) (xs.length + 1) cap ∧ g < w.heap.size ∧ w.cell? ⟨g, o, none⟩ = some (.int .i64 x) ∧ xs.length + 1 ≤ cap ∧ cap ≤ maxLen ∧
      (cap = 1 → Offs w base e (.slice (some ⟨g, o, none⟩) 0 0) xs.length xs) ∧ (cap ≠ 1 → Offs w base e (.slice (some ⟨g, o + 1, none⟩) xs.length (cap - 1)) xs.length xs) := by
  obtain ⟨h0, ⟨rfl, h1⟩ | ⟨g, o, cap, cur, rfl, h1, h2, h3, h4, h5, h6⟩⟩ := h
  · omega
  · refine ⟨g, o, cap, rfl, lt_of_block h2, by rw [cell_at h2]; simpa using h6 0 x rfl, h3, h4, fun hc => ?_, fun hc => ?_⟩
    · have : xs.length = 0 := by omega
      have hx : xs = [] := List.eq_nil_of_length_eq_zero this
      subst hx
      exact ⟨rfl, .inr ⟨g, o, 0, cur, rfl, h1, h2, Nat.le_refl _, Nat.zero_le _, by omega, fun i x hx => by simp at hx⟩⟩
    · refine ⟨rfl, .inr ⟨g, o + 1, cap - 1, cur, rfl, h1, h2, by omega, by omega, by omega, fun i y hy => ?_⟩⟩
      have := h6 (i + 1) y (by simpa using hy)
      rwa [show o + 1 + i = o + (i + 1) from by omega]

theorem run_append_off {P : Program} (w : World) (t ty e : TypeId) (i : TypeInfo) (ht : P.underlying t = some (.slice e)) (hi : P.info? e = some i) (hsz : i.size = 1)
    (g o sLen sCap : Nat) (cur : Array Value) (hg : w.heap[g]? = some (.cells cur e (0, 0)))
    (a : Addr) (m c : Nat) (news : List Value) (hl : news.length = m) (hnews : ∀ j u, news[j]? = some u → w.cell? (a.add j) = some u) (h1 : ∀ u ∈ news, u.oneCell' = true)
    (hroom : sLen + m ≤ sCap) (hfit : o + sLen + news.length ≤ cur.size) :
    (Builtin.append_ #[t, t] ty #[.slice (some ⟨g, o, none⟩) sLen sCap, .slice (some a) m c]).run P w =
      .ok (.slice (some ⟨g, o, none⟩) (sLen + m) sCap) (w.setRow g (cur.toList.take (o + sLen) ++ news ++ cur.toList.drop (o + sLen + news.length)).toArray) := by
  have hf := run_firstCells_some (P := P) w i.size m a m c news (by rw [hsz]; omega) hnews
  have hst := run_storeCells_at P g (o + sLen) e news 0 cur w hg (by simpa using hfit) h1
  simp only [Nat.add_zero] at hst
  rw [hsz] at hf
  simp [Builtin.append_, run_underlying ht, sizeOf, typeInfo, hi, Builtin.lenOf, hroom, hsz, hf, Addr.add_lit, hst]

/-- 'append' of one number. -/
theorem run_append_offs {P : Program} (w : World) (t ty : TypeId) {e : TypeId} {z : Value} {bytes : Nat} (E : Elem P t e z 1 bytes) (base : Nat)
    (v : Value) (n : Nat) (xs : List Int) (hown : Offs w base e v n xs) (xv : Value) (x : Int) (hr : Rd w xv 1 [.int .i64 x])
    (h63 : n + 1 ≤ maxLen) (hbytes : (n + 1) * bytes ≤ 140737488355328) (hbase : base ≤ w.heap.size) :
    ∃ ao cap w', (Builtin.append_ #[t, t] ty #[v, xv]).run P w = .ok (.slice ao (n + 1) cap) w' ∧ Offs w' base e (.slice ao (n + 1) cap) (n + 1) (xs ++ [x]) ∧ w.grownBy w' v.ownBlock ∧
      ∀ g, (Value.slice ao (n + 1) cap).ownBlock = some g → v.ownBlock = some g ∨ w.heap.size ≤ g := by
  obtain ⟨i, i2, i3, i4, i5⟩ := E.info
  obtain ⟨ax, cx, rfl, r1, r2, r3, r4, r5⟩ := hr
  obtain ⟨h0, h⟩ := hown
  have hsm : n + 1 ≤ 9223372036854775807 := by simp only [maxLen] at h63; omega
  cases ax with
  | none => have := (r3 rfl).1; omega
  | some ad =>
    have owned : ∀ {w' : World} {v' : Value} {ys : List Int}, w'.ownsRow base e 1 v' (n + 1) (ys.map (Value.int .i64)) → ys.length = n + 1 → Offs w' base e v' (n + 1) ys := fun {w' v' ys} ho hy => by
      obtain ⟨_, ⟨_, h2⟩ | ⟨g, cap, cur, rfl, b1, b2, b3, b4, b5, b6⟩⟩ := ho
      · omega
      · refine ⟨hy, .inr ⟨g, 0, cap, cur, rfl, b1, b2, b3, b4, by omega, fun j y hj => ?_⟩⟩
        have h7 : (cur.toList.take ((n + 1) * 1))[j]? = some (Value.int .i64 y) := by rw [b6]; simp [hj]
        rw [List.getElem?_take] at h7
        split at h7
        · simpa using h7
        · cases h7
    rcases h with ⟨rfl, rfl⟩ | ⟨g, o, cap, cur, rfl, h1, h2, h3, h4, h5, h6⟩
    · have hx : xs = [] := List.eq_nil_of_length_eq_zero h0
      subst hx
      obtain ⟨ao, cap, w', hrun, q1, q2, q3⟩ := run_append_rd2 (P := P) w t ty E base (.slice none 0 0) 0 [] (World.ownsRow_nil _ _ _ _) (.slice (some ad) 1 cx) 1 [.int .i64 x] ⟨some ad, cx, rfl, r1, r2, r3, r4, r5⟩ rfl h63 hbytes hbase
      exact ⟨ao, cap, w', hrun, owned (by simpa using q1) rfl, q2, q3⟩
    · by_cases hroom : n + 1 ≤ cap
      · have hx := run_append_off (P := P) w t ty e i E.under i2 i4 g o n cap cur h2 ad 1 cx [.int .i64 x] rfl (r5 ad rfl) r4 hroom (by simp; omega)
        refine ⟨_, _, _, hx, ⟨by simp [h0], .inr ⟨g, o, cap, _, rfl, h1, setRow_heap w g cur _ e _ h2, hroom, h4, ?_, fun j y hj => ?_⟩⟩, ⟨rfl, rfl, rfl, by simp, fun k _ hk => setRow_other w g k _ (fun e => hk (by simp [Value.ownBlock, e]))⟩, fun g' hg' => .inl hg'⟩
        · simp; omega
        · rw [List.getElem?_toArray, List.append_assoc, List.getElem?_append]
          simp only [List.length_take, Array.length_toList, Nat.min_eq_left (show o + n ≤ cur.size from by omega)]
          by_cases hjn : j < n
          · rw [if_pos (by omega), List.getElem?_take_of_lt (by omega)]
            rw [List.getElem?_append_left (by omega)] at hj
            simpa using h6 j y hj
          · rw [if_neg (by omega)]
            rw [List.getElem?_append_right (by omega)] at hj
            obtain rfl : j = n := by
              have := (List.getElem?_eq_some_iff.1 hj).1
              simp at this; omega
            simp [h0] at hj
            simp [hj]
      · have holds : ∀ j u, (xs.map (Value.int .i64))[j]? = some u → w.cell? ((⟨g, o, none⟩ : Addr).add j) = some u := fun j u hj => by
          rw [Addr.add_lit, cell_at h2]
          simp at hj
          obtain ⟨y, hy, rfl⟩ := hj
          exact h6 j y hy
        have hx := run_append_grow (P := P) w t ty e i z E.under i2 i3 ⟨g, o, none⟩ n cap (xs.map (Value.int .i64)) (by rw [i4]; simpa using h0) holds ad 1 cx [.int .i64 x] (by rw [i4]; rfl) (r5 ad rfl) (by omega) (by omega) (growslice_fits (by omega) (by rw [i5]; exact hbytes))
        have hge := grownCap_ge w (n + 1) cap e
        have hcm := grownCap_le_maxLen w (n + 1) cap e h63
        refine ⟨_, _, _, hx, ⟨by simp [h0], .inr ⟨w.heap.size, 0, _, _, rfl, hbase, alloc_new w.drew _ _ rfl, hge, hcm, ?_, fun j y hj => ?_⟩⟩, ⟨rfl, rfl, rfl, by simp, fun k hk _ => Below.heap_alloc w.drew _ k hk⟩, fun g' hg' => ?_⟩
        · have hz := E.zs
          simp [size_zeroCells, hz, h0]; omega
        · have hjl := (List.getElem?_eq_some_iff.1 hj).1
          simp at hjl
          rw [Nat.zero_add, Array.getElem?_append_left (by simp; omega)]
          have : ((xs.map (Value.int .i64)).toArray ++ [Value.int .i64 x].toArray) = ((xs ++ [x]).map (Value.int .i64)).toArray := by simp
          rw [this, List.getElem?_toArray, List.getElem?_map, hj]
          rfl
        · simp [Value.ownBlock] at hg'
          exact .inr (by omega)

/-- The same at a step of a region that draws its order. -/
theorem step_append_offs {P : Program} (w : World) {ops : Array Oper} {o : Oper} {a : Act} {K : Act → World → Prop} {Q : Exit → Act → World → Prop} {G : Prop}
    (hg : o.guard = none) (s x : Operand) (t : TypeId) (hop : o.op = Op.call { callee := Callee.builtin Builtin.append, args := #[s, x], argTypes := #[t, t] })
    {e : TypeId} {z : Value} {bytes : Nat} (E : Elem P t e z 1 bytes) (base : Nat)
    (v : Value) (n : Nat) (xs : List Int) (hs : a.eval s = v) (hown : Offs w base e v n xs)
    (xv : Value) (y : Int) (hx : a.eval x = xv) (hr : Rd w xv 1 [.int .i64 y])
    (h63 : n + 1 ≤ maxLen) (hbytes : (n + 1) * bytes ≤ 140737488355328) (hbase : base ≤ w.heap.size)
    (hK : ∀ ao cap w', Offs w' base e (.slice ao (n + 1) cap) (n + 1) (xs ++ [y]) → w.grownBy w' v.ownBlock → (∀ g, (Value.slice ao (n + 1) cap).ownBlock = some g → v.ownBlock = some g ∨ w.heap.size ≤ g) → K (a.put o.dst (.slice ao (n + 1) cap)) w') :
    if Region.wanted o (yielded ops a.tmps) = true then Oper.wp P o a w K Q else G := by
  rw [if_pos (by simp [Region.wanted, hg])]
  obtain ⟨ao, cap, w', hrun, q1, q2, q3⟩ := run_append_offs (P := P) w t o.type E base v n xs hown xv y hr h63 hbytes hbase
  unfold Oper.wp
  simp [execOp, hop, resolve, invoke, builtin, hs, hx, hrun, Result.andThen]
  exact hK ao cap w' q1 q2 q3
end Go.Proofs.Ytnadiddaeolanaa
