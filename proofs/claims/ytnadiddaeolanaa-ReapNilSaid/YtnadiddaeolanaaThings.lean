/- The things of a heap of objects of four words; Words. -/
import Derived.Test.YtnadiddaeolanaaLaw16
import Derived.Test.YtnadiddaeolanaaRef01
import Derived.Test.YtnadiddaeolanaaApp
import Derived.Deep.DeepCutAuto
namespace Go.Proofs.Ytnadiddaeolanaa
open Go.RowKit
set_option linter.unusedVariables false
set_option linter.unusedSimpArgs false

structure Th where
  h : Hd
  a : Int
  b : Int
  c : Int
def Th.f (t : Th) (k : Nat) : Int := if k = 0 then t.a else if k = 1 then t.b else t.c
def Th.cells (t : Th) : List Value := [.int .u8 t.h.kind, .int .u8 t.h.colour, .bool t.h.grey, .bool t.h.marked, .int .u8 t.h.owner, .int .u8 t.h.refs, .int .u8 t.h.size, .int .u8 t.a, .int .u8 t.b, .int .u8 t.c]
def Th.u8 (t : Th) : Prop := t.h.u8 ∧ (0 ≤ t.a ∧ t.a ≤ 255) ∧ (0 ≤ t.b ∧ t.b ≤ 255) ∧ (0 ≤ t.c ∧ t.c ≤ 255)
theorem Th.f_u8 {t : Th} (h : t.u8) (k : Nat) : 0 ≤ t.f k ∧ t.f k ≤ 255 := by
  obtain ⟨_, h1, h2, h3⟩ := h
  unfold Th.f
  split
  · exact h1
  · split
    · exact h2
    · exact h3

theorem flat_get {α β : Type} (f : α → List β) (m : Nat) (hf : ∀ a, (f a).length = m) : ∀ (l : List α) (i j : Nat), j < m → (l.flatMap f)[i * m + j]? = (l[i]?).bind fun a => (f a)[j]?
  | [], i, j, hj => by simp
  | a :: l, 0, j, hj => by
    rw [List.flatMap_cons, List.getElem?_append_left (by rw [hf]; omega)]
    simp
  | a :: l, i + 1, j, hj => by
    rw [List.flatMap_cons, Nat.add_mul, Nat.one_mul, List.getElem?_append_right (by rw [hf]; omega), hf, show i * m + m + j - m = i * m + j from by omega, flat_get f m hf l i j hj]
    simp
theorem flat_len {α β : Type} (f : α → List β) (m : Nat) (hf : ∀ a, (f a).length = m) (l : List α) : (l.flatMap f).length = l.length * m := by
  induction l with
  | nil => simp
  | cons a l ih => rw [List.flatMap_cons, List.length_append, ih, hf, List.length_cons, Nat.add_mul, Nat.one_mul]; omega

/-- A slice of things. -/
structure Ths (w : World) (v : Value) (l : List Th) : Prop where
  rd : Rd w v l.length (l.flatMap Th.cells)
  ok : ∀ t ∈ l, t.u8
theorem Ths.keep {w w' : World} {v : Value} {l : List Th} {S : List Nat} (h : Ths w v l) (k : Keep S w w') (hn : ∀ g, v.ownBlock = some g → g ∉ S) : Ths w' v l := ⟨h.rd.keep k hn, h.ok⟩

def putF (n f : Int) : Int := if 0 < f then (if f ≤ n then 4 * f - 3 else 1000 + f) else 0
def Th.okay (t : Th) : Bool := t.h.may && decide (t.h.size ≤ 3)
def Th.words (n : Int) (t : Th) : List Int := [t.h.word, putF n t.a, putF n t.b, putF n t.c]
theorem Th.words_len (n : Int) (t : Th) : (t.words n).length = 4 := rfl
def wordsOf (l : List Th) : List Int := 0 :: l.flatMap (Th.words l.length)
theorem wordsOf_len (l : List Th) : (wordsOf l).length = l.length * 4 + 1 := by
  unfold wordsOf
  rw [List.length_cons, flat_len _ 4 (fun t => rfl)]

set_option maxRecDepth 100000 in
theorem law16_place (n : Nat) (hn : 1 ≤ n ∧ n ≤ 255) (w : World) :
    Calls Try.prog 22 #[.int .i64 n] w fun e w' => e = .returned (.int .i64 (4 * n - 3)) ∧ Keep [] w w' := by
  refine calls_abs fun R hR => ?_
  go_enter Try.func22, Try.ntmps22
  go_wp2_with fail
  exact hR.out _ _ ⟨by simp, (by repeat (first | (with_reducible exact Keep.refl _ _) | (with_reducible refine Keep.drew ?_) | (with_reducible refine Keep.drewN ?_ _) | (with_reducible refine Keep.alloc ?_ _) | (with_reducible refine Keep.setCell ?_ (by first | (simp; done) | (simp; omega) | (left; dsimp only; omega)) _)))⟩


theorem Ths.cell {w : World} {ao : Option Addr} {n cap : Nat} {l : List Th} (h : Ths w (.slice ao n cap) l) {k : Nat} {t : Th} (hk : l[k]? = some t) :
    ∃ b o, ao = some ⟨b, o, none⟩ ∧ b < w.heap.size ∧ ∀ i u, t.cells[i]? = some u → w.cell? ⟨b, o + k * 10 + i, none⟩ = some u := by
  have hlt : k < l.length := (List.getElem?_eq_some_iff.1 hk).1
  obtain ⟨b, o, rfl, hb, hc⟩ := h.rd.some (by rw [flat_len _ 10 (fun t => rfl)]; omega)
  refine ⟨b, o, rfl, hb, fun i u hu => ?_⟩
  have hi : i < 10 := (List.getElem?_eq_some_iff.1 hu).1
  rw [Nat.add_assoc]
  refine hc _ u ?_
  rw [flat_get _ 10 (fun t => rfl) l k i hi, hk]
  exact hu

def okAll (l : List Th) : Bool := l.all Th.okay
theorem okAll_not {l : List Th} {k : Nat} {t : Th} (h : l[k]? = some t) (ho : t.okay = false) : okAll l = false := by
  rw [okAll, List.all_eq_false]
  exact ⟨t, List.mem_of_getElem? h, by simp [ho]⟩
theorem words_step (t : Th) (n : Int) (q : Nat) (hq : q < 3) : (t.words n).take (1 + (q + 1)) = (t.words n).take (1 + q) ++ [putF n (t.f q)] := by
  match q, hq with
  | 0, _ => rfl
  | 1, _ => rfl
  | 2, _ => rfl
theorem cells_f (t : Th) (q : Nat) (hq : q < 3) : t.cells[7 + q]? = some (.int .u8 (t.f q)) := by
  match q, hq with
  | 0, _ => rfl
  | 1, _ => rfl
  | 2, _ => rfl

set_option maxRecDepth 100000 in
set_option maxHeartbeats 4000000 in
theorem law16_words {w : World} {v0 : Value} {l : List Th} (h : Ths w v0 l) (hl : l.length ≤ 1048576) :
    Calls Try.prog 21 #[v0] w fun e w' => ∃ v', e = .returned (.tuple #[v', .bool (okAll l)]) ∧ Keep [] w w' ∧ (okAll l = true → w'.ownsRow w.heap.size 27 1 v' (wordsOf l).length (u64s (wordsOf l))) := by
  refine calls_abs fun R hR => ?_
  obtain ⟨ao, cap, rfl, hcap, hmax⟩ := h.rd.shape
  have H := Lib.hid h
  clear h
  generalize hn : l.length = n at *
  have HN := Lib.hid hn
  clear hn
  go_enter Try.func21, Try.ntmps21
  go_wp2_with fail
  go_loopg [4, 5] n (fun j s i wr => ∃ k : Nat, k + j = n ∧ i = .int .i64 k ∧ wr.ownsRow w.heap.size 27 1 s (4 * k + 1) (u64s (0 :: (l.take k).flatMap (Th.words n))) ∧ Keep [] w wr ∧ okAll (l.take k) = true)
  case atStart => exact ⟨0, by omega, rfl, World.ownsRow_lit w #[.int .u64 0] 1 (Nat.le_refl _) (by simp [maxLen]) rfl, (by repeat (first | (with_reducible exact Keep.refl _ _) | (with_reducible refine Keep.drew ?_) | (with_reducible refine Keep.drewN ?_ _) | (with_reducible refine Keep.alloc ?_ _) | (with_reducible refine Keep.setCell ?_ (by first | (simp; done) | (simp; omega) | (left; dsimp only; omega)) _))), by simp [okAll]⟩
  case round =>
    obtain ⟨k, hkj, rfl, hown, hkw, hok⟩ := hrel
    have HOW := Lib.hid hown; have HKW := Lib.hid hkw; have HOK := Lib.hid hok
    obtain ⟨ar, cr, rfl, _, _⟩ := owns_val hown
    clear hown hkw hok
    have hln := HN.out
    by_cases hkn : k < n
    · obtain ⟨t, ht⟩ : ∃ t, l[k]? = some t := ⟨l[k], List.getElem?_eq_getElem (by omega)⟩
      obtain ⟨b4, o4, rfl, hb4, hc4⟩ := H.out.cell ht
      have htu := H.out.ok t (List.mem_of_getElem? ht)
      have HTU := Lib.hid htu
      have HT := Lib.hid ht
      have htake : Hid (l.take (k + 1) = l.take k ++ [t]) := by rw [Hid, List.take_add_one, ht]; rfl
      clear ht htu hln
      have i0 : (0 : Int) ≤ (k : Int) := by omega
      have i1 : (k : Int) < (n : Int) := by omega
      have e0 := HKW.out.cell (hc4 0 _ rfl) (by simp); have e1 := HKW.out.cell (hc4 1 _ rfl) (by simp); have e2 := HKW.out.cell (hc4 2 _ rfl) (by simp); have e3 := HKW.out.cell (hc4 3 _ rfl) (by simp); have e4 := HKW.out.cell (hc4 4 _ rfl) (by simp); have e5 := HKW.out.cell (hc4 5 _ rfl) (by simp); have e6 := HKW.out.cell (hc4 6 _ rfl) (by simp)
      rw [Nat.add_zero] at e0
      have HC4 := Lib.hid hc4
      clear hc4
      generalize hd : t.h = d at *
      have HD := Lib.hid hd
      clear hd
      obtain ⟨kind, colour, grey, marked, owner, refs, size⟩ := d
      dsimp only at e0 e1 e2 e3 e4 e5 e6
      go_wp2_with fail
      generalize hw2 : wr.alloc _ = w2
      have b2 : w2.heap[wr.heap.size]? = some (.cells #[.int .u8 kind, .int .u8 colour, .bool grey, .bool marked, .int .u8 owner, .int .u8 refs, .int .u8 size] 122 (0, 0)) := by rw [← hw2]; exact alloc_new wr _ _ rfl
      have K2 : Keep [] wr w2 := by rw [← hw2]; exact (by repeat (first | (with_reducible exact Keep.refl _ _) | (with_reducible refine Keep.drew ?_) | (with_reducible refine Keep.drewN ?_ _) | (with_reducible refine Keep.alloc ?_ _) | (with_reducible refine Keep.setCell ?_ (by first | (simp; done) | (simp; omega) | (left; dsimp only; omega)) _)))
      clear hw2 e0 e1 e2 e3 e4 e5
      refine (ref01_may ⟨kind, colour, grey, marked, owner, refs, size⟩ (by have := HTU.out.1; rw [HD.out] at this; exact this) w2).mono ?_
      rintro e w3 ⟨rfl, K3⟩
      have b3 := K3.get b2 (by simp)
      have HK3 := Lib.hid (HKW.out.trans (K2.trans K3))
      have HOW3 := Lib.hid ((K2.trans K3).owns HOW.out (fun _ _ => by simp))
      have c3 := cell_at b3
      have B3 := Lib.hid b3
      clear K2 K3 b2 b3
      generalize hz : wr.heap.size = z at *
      clear hz
      have hokay : Hid (t.okay = ((Hd.mk kind colour grey marked owner refs size).may && decide (size ≤ 3))) := by rw [Hid, Th.okay, HD.out]
      generalize hm : (Hd.mk kind colour grey marked owner refs size).may = bm at *
      cases bm with
      | false =>
        go_wp2_with fail
        have hall : okAll l = false := okAll_not HT.out (by rw [hokay.out]; rfl)
        exact hR.out _ _ ⟨_, by rw [hall]; rfl, by ((repeat (first | (with_reducible exact HK3.out) | (with_reducible refine Keep.drew ?_) | (with_reducible refine Keep.drewN ?_ _) | (with_reducible refine Keep.alloc ?_ _) | ((with_reducible refine Keep.setCell ?_ ?_ _); rotate_left; focus (first | (simp; done) | (simp; omega) | (left; dsimp only; omega))))); done), fun h => by rw [hall] at h; cases h⟩
      | true =>
        by_cases hs3 : 3 < size
        · go_wp2_with fail
          have hall : okAll l = false := okAll_not HT.out (by rw [hokay.out]; simp; omega)
          exact hR.out _ _ ⟨_, by rw [hall]; rfl, by ((repeat (first | (with_reducible exact HK3.out) | (with_reducible refine Keep.drew ?_) | (with_reducible refine Keep.drewN ?_ _) | (with_reducible refine Keep.alloc ?_ _) | ((with_reducible refine Keep.setCell ?_ ?_ _); rotate_left; focus (first | (simp; done) | (simp; omega) | (left; dsimp only; omega))))); done), fun h => by rw [hall] at h; cases h⟩
        · have hoT : Hid (t.okay = true) := by rw [Hid, hokay.out]; simp; omega
          go_wp2_with fail
          refine (ref01_word ⟨kind, colour, grey, marked, owner, refs, size⟩ (by have := HTU.out.1; rw [HD.out] at this; exact this) w3).mono ?_
          rintro e w4 ⟨rfl, K4⟩
          have HK4 := Lib.hid (HK3.out.trans K4)
          have HOW4 := Lib.hid (K4.owns HOW3.out (fun _ _ => by simp))
          have hwd : Hid (t.words n = [(Hd.mk kind colour grey marked owner refs size).word, putF n t.a, putF n t.b, putF n t.c]) := by rw [Hid, Th.words, HD.out]
          generalize (Hd.mk kind colour grey marked owner refs size).word = x at *
          clear K4 c3 hm hs3
          have hlk : 4 * k + 5 ≤ 4 * 1048576 + 5 := by omega
          have hsz4 := HK4.out.size
          go_wp2_with (at_builtin; go_loud (refine wpList_append_rd _ rfl _ _ _ rfl elem_u64 w.heap.size (.slice ar (4 * k + 1) cr) (4 * k + 1) _ rfl (((by repeat (first | (with_reducible exact Keep.refl _ _) | (with_reducible refine Keep.drew ?_) | (with_reducible refine Keep.drewN ?_ _) | (with_reducible refine Keep.alloc ?_ _) | (with_reducible refine Keep.setCell ?_ (by first | (simp; done) | (simp; omega) | (left; dsimp only; omega)) _))) : Keep [] w4 _).owns HOW4.out (fun _ _ => by simp)) _ 1 [.int .u64 x] rfl (Rd.lit _ _ _ rfl) (by simp) (by simp only [maxLen]; omega) (by omega) (by simp; omega) ?_); intro ao' cap' w5 ho hg; go_loud (have hK5 : Keep [] w w5 := Keep.grown (w := w4.alloc _) (by repeat (first | (with_reducible exact HK4.out) | (with_reducible refine Keep.drew ?_) | (with_reducible refine Keep.drewN ?_ _) | (with_reducible refine Keep.alloc ?_ _) | (with_reducible refine Keep.setCell ?_ (by first | (simp; done) | (simp; omega) | (left; dsimp only; omega)) _))) hg (fun g hg => .inl (owns_block HOW4.out g hg).1); have HO5 := Lib.hid ho; have HK5 := Lib.hid hK5; clear ho hK5 hg))
          have ho5 : w5.ownsRow w.heap.size 27 1 (.slice ao' (4 * k + 1 + 1) cap') (4 * k + 2 + 0) (u64s (0 :: (l.take k).flatMap (Th.words n) ++ (t.words n).take (1 + 0))) := by
            have := HO5.out
            rw [hwd.out]
            simpa [u64s] using this
          have HO5' := Lib.hid ho5
          clear HO5 HOW4 HOW3 HOW ho5
          go_loopg [4, 7] 3 (fun j s i wr => ∃ q : Nat, q + j = 3 ∧ i = .int .i64 q ∧ wr.ownsRow w.heap.size 27 1 s (4 * k + 2 + q) (u64s (0 :: (l.take k).flatMap (Th.words n) ++ (t.words n).take (1 + q))) ∧ Keep [] w wr)
          case atStart => exact ⟨0, by omega, rfl, HO5'.out, HK5.out⟩
          case round =>
            obtain ⟨q, hq, rfl, hoq, hkq⟩ := hrel
            obtain ⟨ap, cp, rfl, _, _⟩ := owns_val hoq
            have HOQ := Lib.hid hoq; have HKQ := Lib.hid hkq
            clear hoq hkq
            by_cases hq3 : q < 3
            · have eq := (HKQ.out.cell (HC4.out (7 + q) _ (cells_f t q hq3)) (by simp))
              rw [← Nat.add_assoc] at eq
              have hf := Th.f_u8 HTU.out q
              have HQF : Hid (t.f q = t.f q) := rfl
              have hq0 : (0 : Int) ≤ (q : Int) := by omega
              have hq1 : (q : Int) < 3 := by omega
              have hszq := HKQ.out.size
              generalize hfe : t.f q = f at eq hf
              have HFE := Lib.hid hfe
              clear hfe HQF
              by_cases hf0 : 0 < f
              · by_cases hfn : f ≤ n
                · have hput : Hid (putF n f = 4 * f - 3) := by rw [Hid, putF, if_pos hf0, if_pos hfn]
                  obtain ⟨m, rfl⟩ : ∃ m : Nat, f = m := ⟨f.toNat, by omega⟩
                  go_wp2_with fail
                  refine (law16_place m (by omega) wr).mono ?_
                  rintro e w6 ⟨rfl, K6⟩
                  have HK6 := Lib.hid (HKQ.out.trans K6)
                  have HO6 := Lib.hid (K6.owns HOQ.out (fun _ _ => by simp))
                  have hsz6 := HK6.out.size
                  have hc6 : IntKind.u64.wrap (4 * (m : Int) - 3) = 4 * m - 3 := wrap_u64_small (by omega) (by omega)
                  clear K6 eq
                  generalize hv : 4 * (m : Int) - 3 = x6 at *
                  go_wp2_with (at_builtin; go_loud (refine wpList_append_rd _ rfl _ _ _ rfl elem_u64 w.heap.size (.slice ap (4 * k + 2 + q) cp) (4 * k + 2 + q) _ rfl (((by repeat (first | (with_reducible exact Keep.refl _ _) | (with_reducible refine Keep.drew ?_) | (with_reducible refine Keep.drewN ?_ _) | (with_reducible refine Keep.alloc ?_ _) | (with_reducible refine Keep.setCell ?_ (by first | (simp; done) | (simp; omega) | (left; dsimp only; omega)) _))) : Keep [] w6 _).owns HO6.out (fun _ _ => by simp)) _ 1 [.int .u64 x6] rfl (Rd.lit _ _ _ rfl) (by simp) (by simp only [maxLen]; omega) (by omega) (by simp; omega) ?_); intro ao' cap' w7 ho hg; go_loud (have hK7 : Keep [] w w7 := Keep.grown (w := w6.alloc _) (by repeat (first | (with_reducible exact HK6.out) | (with_reducible refine Keep.drew ?_) | (with_reducible refine Keep.drewN ?_ _) | (with_reducible refine Keep.alloc ?_ _) | (with_reducible refine Keep.setCell ?_ (by first | (simp; done) | (simp; omega) | (left; dsimp only; omega)) _))) hg (fun g hg => .inl (owns_block HO6.out g hg).1); have HO7 := Lib.hid ho; have HK7 := Lib.hid hK7; clear ho hK7 hg))
                  go_roundg (3 - (q + 1))
                  case measure => omega
                  case rel =>
                    refine ⟨q + 1, by omega, by go_num, ?_, HK7.out⟩
                    have := HO7.out
                    rw [words_step t n q hq3, HFE.out, hput.out]
                    simpa [u64s, Nat.add_assoc] using this
                · have hput : Hid (putF n f = 1000 + f) := by rw [Hid, putF, if_pos hf0, if_neg hfn]
                  have hc6 : IntKind.u64.wrap (1000 + f) = 1000 + f := wrap_u64_small (by omega) (by omega)
                  go_wp2_with (at_builtin; go_loud (refine wpList_append_rd _ rfl _ _ _ rfl elem_u64 w.heap.size (.slice ap (4 * k + 2 + q) cp) (4 * k + 2 + q) _ rfl (((by repeat (first | (with_reducible exact Keep.refl _ _) | (with_reducible refine Keep.drew ?_) | (with_reducible refine Keep.drewN ?_ _) | (with_reducible refine Keep.alloc ?_ _) | (with_reducible refine Keep.setCell ?_ (by first | (simp; done) | (simp; omega) | (left; dsimp only; omega)) _))) : Keep [] wr _).owns HOQ.out (fun _ _ => by simp)) _ 1 [.int .u64 (1000 + f)] rfl (Rd.lit _ _ _ rfl) (by simp) (by simp only [maxLen]; omega) (by omega) (by simp; omega) ?_); intro ao' cap' w7 ho hg; go_loud (have hK7 : Keep [] w w7 := Keep.grown (w := wr.alloc _) (by repeat (first | (with_reducible exact HKQ.out) | (with_reducible refine Keep.drew ?_) | (with_reducible refine Keep.drewN ?_ _) | (with_reducible refine Keep.alloc ?_ _) | (with_reducible refine Keep.setCell ?_ (by first | (simp; done) | (simp; omega) | (left; dsimp only; omega)) _))) hg (fun g hg => .inl (owns_block HOQ.out g hg).1); have HO7 := Lib.hid ho; have HK7 := Lib.hid hK7; clear ho hK7 hg))
                  go_roundg (3 - (q + 1))
                  case measure => omega
                  case rel =>
                    refine ⟨q + 1, by omega, by go_num, ?_, HK7.out⟩
                    have := HO7.out
                    rw [words_step t n q hq3, HFE.out, hput.out]
                    simpa [u64s, Nat.add_assoc] using this
              · have hput : Hid (putF n f = 0) := by rw [Hid, putF, if_neg hf0]
                go_wp2_with (at_builtin; go_loud (refine wpList_append_rd _ rfl _ _ _ rfl elem_u64 w.heap.size (.slice ap (4 * k + 2 + q) cp) (4 * k + 2 + q) _ rfl (((by repeat (first | (with_reducible exact Keep.refl _ _) | (with_reducible refine Keep.drew ?_) | (with_reducible refine Keep.drewN ?_ _) | (with_reducible refine Keep.alloc ?_ _) | (with_reducible refine Keep.setCell ?_ (by first | (simp; done) | (simp; omega) | (left; dsimp only; omega)) _))) : Keep [] wr _).owns HOQ.out (fun _ _ => by simp)) _ 1 [.int .u64 0] rfl (Rd.lit _ _ _ rfl) (by simp) (by simp only [maxLen]; omega) (by omega) (by simp; omega) ?_); intro ao' cap' w7 ho hg; go_loud (have hK7 : Keep [] w w7 := Keep.grown (w := wr.alloc _) (by repeat (first | (with_reducible exact HKQ.out) | (with_reducible refine Keep.drew ?_) | (with_reducible refine Keep.drewN ?_ _) | (with_reducible refine Keep.alloc ?_ _) | (with_reducible refine Keep.setCell ?_ (by first | (simp; done) | (simp; omega) | (left; dsimp only; omega)) _))) hg (fun g hg => .inl (owns_block HOQ.out g hg).1); have HO7 := Lib.hid ho; have HK7 := Lib.hid hK7; clear ho hK7 hg))
                go_roundg (3 - (q + 1))
                case measure => omega
                case rel =>
                  refine ⟨q + 1, by omega, by go_num, ?_, HK7.out⟩
                  have := HO7.out
                  rw [words_step t n q hq3, HFE.out, hput.out]
                  simpa [u64s, Nat.add_assoc] using this
            · obtain rfl : q = 3 := by omega
              go_wp2_with fail
              go_roundg (n - (k + 1))
              case measure => omega
              case rel =>
                refine ⟨k + 1, by omega, by go_num, ?_, HKQ.out, ?_⟩
                · have := HOQ.out
                  rw [htake.out, List.flatMap_append]
                  simpa [Th.words, Nat.mul_add, Nat.add_assoc] using this
                · rw [htake.out]
                  have := HOK.out
                  simp only [okAll, List.all_append, List.all_cons, List.all_nil, Bool.and_true, Bool.and_eq_true] at this ⊢
                  exact ⟨this, hoT.out⟩
    · have hke : k = n := by omega
      subst hke
      have htk : l.take k = l := by rw [← HN.out, List.take_length]
      have hok := HOK.out
      have hown := HOW.out
      rw [htk] at hok hown
      have HA := Lib.hid hok; have HB := Lib.hid hown
      clear hok hown HOK HOW htk
      go_wp2_with fail
      refine hR.out _ _ ⟨_, by rw [HA.out]; rfl, HKW.out, fun _ => ?_⟩
      rw [wordsOf_len, HN.out]
      unfold wordsOf
      rw [HN.out, Nat.mul_comm k 4]
      exact HB.out
end Go.Proofs.Ytnadiddaeolanaa
