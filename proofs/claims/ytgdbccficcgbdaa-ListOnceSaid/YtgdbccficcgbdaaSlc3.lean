/- Contracts of slices.IndexFunc and slices.DeleteFunc with list.Drop's own function. -/
import Derived.Test.YtgdbccficcgbdaaSlc2
import Derived.Lib.SliceRun
namespace Go.Proofs.Ytgdbccficcgbdaa
open Go.RowKit
set_option linter.unusedVariables false
set_option linter.unusedSimpArgs false

theorem Keep.setCells {S : List Nat} {a : World} {b : Nat} (hb : a.heap.size ≤ b ∨ b ∈ S) : ∀ (vs : List Value) (o : Nat) {w : World}, Keep S a w → Keep S a (w.setCells b o vs)
  | [], _, _, h => h
  | v :: r, o, w, h => Keep.setCells hb r (o + 1) (h.setCell (p := ⟨b, o, none⟩) hb v)
theorem heap_setCells {t : TypeId} {fr : Nat × Nat} {b : Nat} : ∀ (vs : List Value) (o : Nat) {w : World} {cur : Array Value}, w.heap[b]? = some (.cells cur t fr) →
    ∃ cur', (w.setCells b o vs).heap[b]? = some (.cells cur' t fr) ∧ cur'.size = cur.size ∧ ∀ j, j < o → cur'[j]? = cur[j]?
  | [], _, _, cur, h => ⟨cur, h, rfl, fun _ _ => rfl⟩
  | v :: r, o, w, cur, h => by
    obtain ⟨cur', h1, h2, h3⟩ := heap_setCells r (o + 1) (put_at h o v)
    refine ⟨cur', h1, by simpa using h2, fun j hj => ?_⟩
    rw [h3 j (by omega), Array.getElem?_setIfInBounds, if_neg (by omega)]
theorem Row.clear {w : World} {base g n cap : Nat} {xs : List Int} (h : Row w base g n cap xs) (i : Nat) (hi : i ≤ n) (vs : List Value) : Row (w.setCells g i vs) base g i cap (xs.take i) := by
  obtain ⟨h1, h2, h3, h4, cur, h5, h6, h7⟩ := h
  obtain ⟨cur', e1, e2, e3⟩ := heap_setCells vs i h5
  refine ⟨by simp; omega, h2, by omega, h4, cur', e1, by omega, ?_⟩
  have := congrArg (List.take i) h7
  rw [List.take_take, Nat.min_eq_left hi] at this
  rw [show ints (xs.take i) = (ints xs).take i from by simp [ints, List.map_take], ← this]
  apply List.ext_getElem?
  intro j
  rw [List.getElem?_take, List.getElem?_take]
  split
  · rename_i hj
    simpa using e3 j hj
  · rfl

/-- Between from and to. -/
def btw (lo hi x : Int) : Bool := decide (lo ≤ x ∧ x < hi)

/-- What list.Drop's function has captured: the bounds, the number so far. -/
structure Dropping (w : World) (f t c : Nat) (lo hi : Int) (k : Nat) : Prop where
  from' : w.heap[f]? = some (.cells #[.int .i64 lo] 3 (0, 0))
  to' : w.heap[t]? = some (.cells #[.int .i64 hi] 3 (0, 0))
  count : w.heap[c]? = some (.cells #[.int .i64 k] 3 (0, 0))
  ne1 : f ≠ c
  ne2 : t ≠ c
theorem Dropping.keep {S : List Nat} {w w' : World} {f t c : Nat} {lo hi : Int} {k : Nat} (h : Dropping w f t c lo hi k) (kp : Keep S w w') (hf : f ∉ S) (ht : t ∉ S) (hc : c ∉ S) : Dropping w' f t c lo hi k :=
  ⟨kp.get h.from' hf, kp.get h.to' ht, kp.get h.count hc, h.ne1, h.ne2⟩

set_option maxRecDepth 100000 in
theorem list_goes {w : World} {f t c : Nat} {lo hi : Int} {k : Nat} (h : Dropping w f t c lo hi k) (hk : k < 1000000) (x : Int) :
    Calls Try.prog 75 #[.int .i64 x, .pointer (some ⟨f, 0, none⟩), .pointer (some ⟨t, 0, none⟩), .pointer (some ⟨c, 0, none⟩)] w fun e w' =>
      e = .returned (.bool (btw lo hi x)) ∧ Dropping w' f t c lo hi (if btw lo hi x then k + 1 else k) ∧ Keep [c] w w' := by
  refine calls_abs fun R hR => ?_
  have c1 := cell_at h.from'
  have c2 := cell_at h.to'
  have c3 := cell_at h.count
  have f3 := frozen_at h.count
  have hw : IntKind.i64.wrap ((k : Int) + 1) = ((k + 1 : Nat) : Int) := by rw [IntKind.wrap_i64]; omega
  have H := Lib.hid h
  clear h
  by_cases h1 : lo ≤ x
  · by_cases h2 : x < hi
    · go_enter Try.func75, Try.ntmps75
      go_wp2_with fail
      refine hR.out _ _ ⟨by simp [btw, h1, h2], ?_, (by repeat (first | (with_reducible exact Keep.refl _ _) | (with_reducible refine Keep.drew ?_) | (with_reducible refine Keep.drewN ?_ _) | (with_reducible refine Keep.alloc ?_ _) | (with_reducible refine Keep.setCell ?_ (by first | (simp; done) | (simp; omega) | (left; dsimp only; omega)) _)))⟩
      rw [show btw lo hi x = true from by simp [btw, h1, h2]]
      have h := H.out
      exact ⟨put_other h.from' h.ne1 _, put_other h.to' h.ne2 _, (put_at h.count 0 _).trans (by simp [hw]), h.ne1, h.ne2⟩
    · go_enter Try.func75, Try.ntmps75
      go_wp2_with fail
      have hb : btw lo hi x = false := by unfold btw; exact decide_eq_false (by omega)
      rw [hb] at hR
      refine hR.out _ _ ⟨rfl, ?_, (by repeat (first | (with_reducible exact Keep.refl _ _) | (with_reducible refine Keep.drew ?_) | (with_reducible refine Keep.drewN ?_ _) | (with_reducible refine Keep.alloc ?_ _) | (with_reducible refine Keep.setCell ?_ (by first | (simp; done) | (simp; omega) | (left; dsimp only; omega)) _)))⟩
      exact H.out
  · go_enter Try.func75, Try.ntmps75
    go_wp2_with fail
    have hb : btw lo hi x = false := by unfold btw; exact decide_eq_false (by omega)
    rw [hb] at hR
    exact hR.out _ _ ⟨rfl, H.out, (by repeat (first | (with_reducible exact Keep.refl _ _) | (with_reducible refine Keep.drew ?_) | (with_reducible refine Keep.drewN ?_ _) | (with_reducible refine Keep.alloc ?_ _) | (with_reducible refine Keep.setCell ?_ (by first | (simp; done) | (simp; omega) | (left; dsimp only; omega)) _)))⟩

set_option maxRecDepth 100000 in
set_option maxHeartbeats 4000000 in
theorem slices_indexfunc {w : World} {base g n cap f t c : Nat} {xs : List Int} {lo hi : Int} {k0 : Nat} (h : Row w base g n cap xs) (hd : Dropping w f t c lo hi k0) (hc : c ≠ g) (hk0 : k0 < 1000000) (hs : n ≤ 100000) :
    Calls Try.prog 81 #[.slice (some ⟨g, 0, none⟩) n cap, .func (.func 75) #[] #[.pointer (some ⟨f, 0, none⟩), .pointer (some ⟨t, 0, none⟩), .pointer (some ⟨c, 0, none⟩)]] w fun e w' =>
      ((∃ i, i < n ∧ btw lo hi (xs.getD i 0) = true ∧ (∀ p, p < i → btw lo hi (xs.getD p 0) = false) ∧ e = .returned (.int .i64 (i : Nat)) ∧ Dropping w' f t c lo hi (k0 + 1)) ∨
       ((∀ p, p < n → btw lo hi (xs.getD p 0) = false) ∧ e = .returned (.int .i64 (-1)) ∧ Dropping w' f t c lo hi k0)) ∧ Keep [c] w w' := by
  refine calls_abs fun R hR => ?_
  have H := Lib.hid h; have HD := Lib.hid hd
  have hl := h.len
  clear h hd
  have hF := Try.call75
  go_enter Try.func81, Try.ntmps81
  go_wp2_with fail
  go_loopg [8] n (fun j i wr => ∃ k : Nat, k + j = n ∧ i = .int .i64 k ∧ (∀ p, p < k → btw lo hi (xs.getD p 0) = false) ∧ Dropping wr f t c lo hi k0 ∧ Keep [c] w wr)
  case atStart => exact ⟨0, by omega, rfl, fun p hp => by omega, HD.out, Keep.refl _ _⟩
  case round =>
    obtain ⟨k, hk, rfl, hne, hdr, hkeep⟩ := hrel
    have HNE := Lib.hid hne; have HDR := Lib.hid hdr; have HK := Lib.hid hkeep
    clear hne hdr hkeep
    by_cases hkn : k < n
    · have e4 := (H.out.keep HK.out (by simp; exact fun h => hc h.symm)).cell k (by omega)
      have hxk : xs.getD k 0 = xs[k] := by simp [show k < xs.length from by omega]
      generalize xs[k] = xk at e4 hxk
      have i0 : (0 : Int) ≤ (k : Int) := by omega
      have i1 : (k : Int) < (n : Int) := by omega
      go_wp2_with fail
      refine (list_goes HDR.out hk0 xk).mono ?_
      rintro e w2 ⟨rfl, D2, K2⟩
      have HD2 := Lib.hid D2; have HK2 := Lib.hid (HK.out.trans K2)
      clear D2 K2
      cases hp : btw lo hi xk with
      | true =>
        rw [hp] at HD2
        go_wp2_with fail
        exact hR.out _ _ ⟨.inl ⟨k, hkn, by rw [hxk]; exact hp, HNE.out, rfl, HD2.out⟩, HK2.out⟩
      | false =>
        rw [hp] at HD2
        go_wp2_with fail
        go_roundg (n - (k + 1))
        case measure => omega
        case rel =>
          refine ⟨k + 1, by omega, by go_num, fun p hp' => ?_, HD2.out, HK2.out⟩
          by_cases e : p = k
          · subst e; rw [hxk]; exact hp
          · exact HNE.out p (by omega)
    · have hkn2 : k = n := by omega
      go_wp2_with fail
      exact hR.out _ _ ⟨.inr ⟨fun p hp => HNE.out p (by omega), rfl, HDR.out⟩, HK.out⟩
end Go.Proofs.Ytgdbccficcgbdaa
