/- The contracts of a publisher's turn and look. -/
import Derived.Test.YtnadiddaeolanaaPublish
import Derived.Test.YtnadiddaeolanaaWordsPut
import Derived.Test.YtnadiddaeolanaaOff
import Derived.Deep.RegionHeld3
import Derived.Shelf.RegionOpenPlain
namespace Go.Proofs.Ytnadiddaeolanaa
open Go.RowKit
set_option linter.unusedVariables false
set_option linter.unusedSimpArgs false

theorem Try.info3 : (Try.prog.info? 3).map (fun i => (i.zero, i.size, i.bytes)) = some (some (.int .i64 0), 1, 8) := by kernel_rfl
theorem elem_int : Elem Try.prog 22 3 (.int .i64 0) 1 8 := Elem.of Try.underlying22 Try.info3 rfl (by omega)

/-- What lies behind publishing: the words, the worklist (its value v). -/
structure Pub (w : World) (b g k base : Nat) (v : Value) (W : List Int) (Q : List Int) : Prop where
  arn : ∃ t l, Arn w b g W t l
  words : Words W
  work : w.heap[k]? = some (.cells #[v] 22 (0, 0))
  row : Offs w base 3 v Q.length Q
  above : b < base ∧ g < base ∧ k < base
  apart : k ≠ b ∧ k ≠ g

/-- What publishing keeps: all but the arena's blocks and the worklist's; the worklist's row stays or is new. -/
def PKeep (b g k : Nat) (v v' : Value) (w w' : World) : Prop := Keep (b :: g :: k :: v.ownBlock.toList) w w' ∧ ∀ r, v'.ownBlock = some r → v.ownBlock = some r ∨ w.heap.size ≤ r
theorem PKeep.of {b g k : Nat} {v : Value} {w w' : World} {S : List Nat} (h : Keep S w w') (hS : ∀ x ∈ S, x = b ∨ x = g ∨ x = k) : PKeep b g k v v w w' :=
  ⟨h.mono (fun x hx => by rcases hS x hx with rfl | rfl | rfl <;> simp), fun r hr => .inl hr⟩
theorem PKeep.trans {b g k : Nat} {v v' v2 : Value} {w w' w2 : World} (h : PKeep b g k v v' w w') (h' : PKeep b g k v' v2 w' w2) : PKeep b g k v v2 w w2 := by
  refine ⟨h.1.fresh h'.1 (fun x hx => ?_), fun r hr => ?_⟩
  · simp only [List.mem_cons, Option.mem_toList] at hx
    rcases hx with rfl | rfl | rfl | hx
    · exact .inr (by simp)
    · exact .inr (by simp)
    · exact .inr (by simp)
    · rcases h.2 x hx with h1 | h1
      · exact .inr (by simp [h1])
      · exact .inl h1
  · rcases h'.2 r hr with h1 | h1
    · exact h.2 r h1
    · exact .inr (Nat.le_trans h.1.size h1)

/-- A turn's words, its worklist. -/
def turnWs (W : List Int) (n c : Int) : List Int := putz W n (turnW (rdz W n) c)
def turnQ (W Q : List Int) (n : Int) : List Int := if isLoc (rdz W n) then Q ++ [n] else Q

theorem turnW_bounds {x c : Int} (hx : 0 ≤ x ∧ x < 18446744073709551616) (hc : 0 ≤ c ∧ c ≤ 1) : 0 ≤ turnW x c ∧ turnW x c < 18446744073709551616 := by
  unfold turnW
  split
  · rename_i h
    have hu := pubH_u8 (c := c) hx.1 ⟨hc.1, by omega⟩
    obtain ⟨b1, b2, b3, b4, b5⟩ := Hd.may_bounds (pubH_may h hc.2)
    obtain ⟨h1, h2, h3, h4, h5⟩ := hu
    unfold pubOf Hd.word
    split <;> split <;> omega
  · exact hx

set_option maxRecDepth 100000 in
set_option maxHeartbeats 4000000 in
theorem publish_turn {w : World} {b g k base : Nat} {v : Value} {W Q : List Int} (h : Pub w b g k base v W Q) (c : Int) (hc : 0 ≤ c ∧ c ≤ 1) (n : Int) (hs : Q.length ≤ 100000) (hbase : base ≤ w.heap.size) :
    Calls Try.prog 73 #[pubVal b c k, .int .i64 n] w fun e w' => ∃ v', e = .returned (.tuple #[]) ∧ Pub w' b g k base v' (turnWs W n c) (turnQ W Q n) ∧ PKeep b g k v v' w w' := by
  refine calls_abs fun R hR => ?_
  obtain ⟨⟨t, l, hA⟩, hW, hk, ho, ⟨hb1, hb2, hb3⟩, ⟨hn1, hn2⟩⟩ := h
  obtain ⟨ao, cap, rfl, hcap, hmax⟩ := ho.shape
  have HA := Lib.hid hA; have HK := Lib.hid hk; have HO := Lib.hid ho; have HW := Lib.hid hW
  have hF := Try.call125
  have hmf : ∀ (fn : Fn) (first cap : Array Value) (w : World), (Instr.makeFunc fn first cap).run Try.prog w = .ok (.func fn first cap) w := fun _ _ _ _ => rfl
  have hinv := mem_update
  simp [go_sem] at hinv
  clear hA hk ho hW
  unfold pubVal
  go_enter Try.func73, Try.ntmps73
  go_wp2_with fail
  obtain ⟨z, hz⟩ : ∃ z, z = w.heap.size := ⟨_, rfl⟩
  have HZ := Lib.hid hz
  simp only [← hz] at hbase ⊢
  generalize hw1 : World.alloc w _ = w1
  have hp1 : w1.heap[z]? = some (.cells #[.iface 25 (.pointer (some ⟨b, 0, none⟩)), .int .u8 c, .pointer (some ⟨k, 0, none⟩)] 120 (0, 0)) := by rw [← hw1]; exact alloc_new w _ _ hz
  have K1 : Keep [] w w1 := by rw [← hw1]; exact (by repeat (first | (with_reducible exact Keep.refl _ _) | (with_reducible refine Keep.drew ?_) | (with_reducible refine Keep.drewN ?_ _) | (with_reducible refine Keep.alloc ?_ _) | (with_reducible refine Keep.setCell ?_ (by first | (simp; done) | (simp; omega) | (left; dsimp only; omega)) _)))
  clear hw1 hz
  have HP1 := Lib.hid hp1; have HK1 := Lib.hid K1
  clear hp1 K1
  refine (arena_update_any (b := b) (g := g) (W := W) (t := t) (l := l) (w := w1) (HA.out.keep HK1.out (by simp) (by simp)) n 125 hF #[.pointer (some ⟨z, 0, none⟩)] [] (fun _ => .map #[] 0) (turnW (rdz W n) c) (by simp) (by simp) (by simp) (fun hin wz kz => (publish_fn _ c (HW.out n) hc z _ _ wz (kz.get HP1.out (by simp; omega))).mono (fun e w6 h6 => ⟨h6.1, h6.2, by simp⟩))).mono ?_
  rintro e w2 ⟨rfl, A2, K2, -, -⟩
  have HA2 := Lib.hid A2; have HK2 := Lib.hid K2
  have HP2 := Lib.hid (K2.get HP1.out (by simp; omega))
  clear A2 K2
  go_wp2_with fail
  refine (publish_local (rdz W n) (HW.out n) w2).mono ?_
  rintro e w3 ⟨rfl, K3⟩
  have HA3 := Lib.hid (HA2.out.keep K3 (by simp) (by simp))
  have hp3 := K3.get HP2.out (by simp)
  have hk3 := K3.get (HK2.out.get (HK1.out.get HK.out (by simp)) (by simp; omega)) (by simp)
  have ho3 := ((HO.out.keep HK1.out (fun _ _ => by simp)).keep HK2.out (fun g' hg' => by have := HO.out.block g' hg'; simp; omega)).keep K3 (fun _ _ => by simp)
  have HK3 : Hid (PKeep b g k (.slice ao Q.length cap) (.slice ao Q.length cap) w w3) := ((PKeep.of HK1.out (by simp)).trans (PKeep.of HK2.out (by simp))).trans (PKeep.of K3 (by simp))
  have hlz := lt_of_block hp3
  have hlk := lt_of_block hk3
  have e2 : w3.cell? ⟨z, 2, none⟩ = some (.pointer (some ⟨k, 0, none⟩)) := by rw [cell_at hp3]; rfl
  have ek : w3.cell? ⟨k, 0, none⟩ = some (.slice ao Q.length cap) := by rw [cell_at hk3]; rfl
  have HO3 := Lib.hid ho3; have HKK3 := Lib.hid hk3
  clear K3 ho3 hp3 hk3
  have hwd : Words (turnWs W n c) := Words.put HW.out n _ (turnW_bounds (HW.out n) hc)
  cases hl : isLoc (rdz W n) with
  | false =>
    have hq : turnQ W Q n = Q := by simp [turnQ, hl]
    unfold Hd.val
    generalize takeH (rdz W n) = d
    go_wp2_with fail
    refine bodyPost_end (v := .tuple #[]) ?_ rfl ?_
    · kernel_rfl
    have hka : Keep [] w3 (w3.alloc (.cells #[.int .u8 d.kind, .int .u8 d.colour, .bool d.grey, .bool d.marked, .int .u8 d.owner, .int .u8 d.refs, .int .u8 d.size] 100)) := (by repeat (first | (with_reducible exact Keep.refl _ _) | (with_reducible refine Keep.drew ?_) | (with_reducible refine Keep.drewN ?_ _) | (with_reducible refine Keep.alloc ?_ _) | (with_reducible refine Keep.setCell ?_ (by first | (simp; done) | (simp; omega) | (left; dsimp only; omega)) _)))
    refine hR.out _ _ ⟨_, rfl, ⟨⟨_, _, HA3.out.keep hka (by simp) (by simp)⟩, hwd, hka.get HKK3.out (by simp), by rw [hq]; exact HO3.out.keep hka (fun _ _ => by simp), ⟨hb1, hb2, hb3⟩, ⟨hn1, hn2⟩⟩, HK3.out.trans (PKeep.of hka (by simp))⟩
  | true =>
    have hq : turnQ W Q n = Q ++ [n] := by simp [turnQ, hl]
    unfold Hd.val
    generalize takeH (rdz W n) = d
    go_wp2_with fail
    generalize hW4 : World.alloc w3 _ = W4
    have K4 : Keep [] w3 W4 := by rw [← hW4]; exact (by repeat (first | (with_reducible exact Keep.refl _ _) | (with_reducible refine Keep.drew ?_) | (with_reducible refine Keep.drewN ?_ _) | (with_reducible refine Keep.alloc ?_ _) | (with_reducible refine Keep.setCell ?_ (by first | (simp; done) | (simp; omega) | (left; dsimp only; omega)) _)))
    clear hW4
    have HA4 := Lib.hid (HA3.out.keep K4 (by simp) (by simp))
    have E2 := Lib.hid (K4.cell e2 (by simp)); have EK := Lib.hid (K4.cell ek (by simp))
    have hk4 := K4.get HKK3.out (by simp)
    have HKK4 := Lib.hid hk4
    have HO4 := Lib.hid (HO3.out.keep K4 (fun _ _ => by simp))
    have HK4 := Lib.hid (HK3.out.trans (PKeep.of K4 (by simp)))
    have fk := frozen_at hk4
    have lk4 := lt_of_block hk4
    have lz4 : z < W4.heap.size := Nat.lt_of_lt_of_le hlz K4.size
    have m1 : ¬ k = W4.heap.size := by omega
    have m2 : ¬ W4.heap.size = k := by omega
    have m3 : ¬ z = W4.heap.size := by omega
    have m4 : ¬ W4.heap.size = z := by omega
    have e20 := E2.out; have ek0 := EK.out
    have hsz4 := K4.size
    have hbs4 : base ≤ W4.heap.size := by have := HK1.out.size; have := HK2.out.size; have := HK3.out.1; have := HZ.out; omega
    have hown_ne : ∀ g', (Value.slice ao Q.length cap).ownBlock = some g' → g' ≠ k := fun g' hg' => by have := HO.out.block g' hg'; omega
    have mixed : Try.prog.follows .mixedOrders = true := by kernel_rfl
    have hnk : k ∉ (Value.slice ao Q.length cap).ownBlock.toList := fun hm => hown_ne k (by simpa using hm) rfl
    have hnz : z ∉ (Value.slice ao Q.length cap).ownBlock.toList := fun hm => by have := HO.out.block z (by simpa using hm); have := HZ.out; omega
    clear K4 hk4 e2 ek
    go_region_law_o (refine step_append_offs _ (by rfl) _ _ _ (by rfl) elem_int base (.slice ao Q.length cap) Q.length Q (by rfl) (HO4.out.keep (S := []) (by repeat (first | (with_reducible exact Keep.refl _ _) | (with_reducible refine Keep.drew ?_) | (with_reducible refine Keep.drewN ?_ _) | (with_reducible refine Keep.alloc ?_ _) | (with_reducible refine Keep.setCell ?_ (by first | (simp; done) | (simp; omega) | (left; dsimp only; omega)) _))) (fun _ _ => by simp)) _ n (by rfl) (Rd.one (alloc_new _ _ _ (by simp)) rfl) (by simp only [maxLen]; omega) (by omega) (by simp; omega) ?_; intro ao' cap' w5 ho hg hwh; have hK5 : Keep (Value.slice ao Q.length cap).ownBlock.toList W4 w5 := Keep.grown (w := World.alloc W4.drew _) (by repeat (first | (with_reducible exact Keep.refl _ _) | (with_reducible refine Keep.drew ?_) | (with_reducible refine Keep.drewN ?_ _) | (with_reducible refine Keep.alloc ?_ _) | (with_reducible refine Keep.setCell ?_ (by first | (simp; done) | (simp; omega) | (left; dsimp only; omega)) _))) hg (fun g hg => .inr (by simpa using hg)); have ee2 := hK5.cell E2.out hnz; have eek := hK5.cell EK.out hnk; have fk5 := frozen_at (hK5.get HKK4.out hnk); have HK5 := Lib.hid hK5; have HO5 := Lib.hid ho; have HWH5 := Lib.hid hwh; clear ho hg hwh hK5)
    all_goals go_wp2_with fail
    all_goals (
      refine bodyPost_end (v := .tuple #[]) ?_ rfl ?_
      · kernel_rfl
      have ho5 := HO5.out
      rw [show Q.length + 1 = (Q ++ [n]).length from by simp] at ho5
      have hS : ∀ r ∈ (Value.slice ao Q.length cap).ownBlock.toList, base ≤ r := fun r hr => (HO.out.block r (by simpa using hr)).1
      refine hR.out _ _ ⟨.slice ao' (Q.length + 1) cap', rfl, ⟨⟨_, _, (HA4.out.keep HK5.out (fun hm => by have := hS b hm; omega) (fun hm => by have := hS g hm; omega)).keep (S := [k]) (by repeat (first | (with_reducible exact Keep.refl _ _) | (with_reducible refine Keep.drew ?_) | (with_reducible refine Keep.drewN ?_ _) | (with_reducible refine Keep.alloc ?_ _) | (with_reducible refine Keep.setCell ?_ (by first | (simp; done) | (simp; omega) | (left; dsimp only; omega)) _))) (by simp; omega) (by simp; omega)⟩, hwd, ?_, ?_, ⟨hb1, hb2, hb3⟩, ⟨hn1, hn2⟩⟩, ?_⟩
      · exact (put_at (HK5.out.get HKK4.out hnk) 0 _).trans (by simp)
      · rw [hq]
        refine Offs.keep (S := [k]) (w := w5) (by simpa using ho5) (by repeat (first | (with_reducible exact Keep.refl _ _) | (with_reducible refine Keep.drew ?_) | (with_reducible refine Keep.drewN ?_ _) | (with_reducible refine Keep.alloc ?_ _) | (with_reducible refine Keep.setCell ?_ (by first | (simp; done) | (simp; omega) | (left; dsimp only; omega)) _))) (fun r hr => by have := ho5.block r (by simpa using hr); simp; omega)
      · refine HK4.out.trans ⟨?_, fun r hr => ?_⟩
        · refine Keep.trans (HK5.out.mono (fun x hx => by simp at hx ⊢; exact .inr (.inr (.inr hx)))) ?_
          exact Keep.mono (S := [k]) (by repeat (first | (with_reducible exact Keep.refl _ _) | (with_reducible refine Keep.drew ?_) | (with_reducible refine Keep.drewN ?_ _) | (with_reducible refine Keep.alloc ?_ _) | (with_reducible refine Keep.setCell ?_ (by first | (simp; done) | (simp; omega) | (left; dsimp only; omega)) _))) (by simp)
        · rcases HWH5.out r hr with h1 | h1
          · exact .inl h1
          · exact .inr (by simp at h1; omega))
end Go.Proofs.Ytnadiddaeolanaa
