/- The walk of publish.Publish. -/
import Derived.Test.YtnadiddaeolanaaPublish4
namespace Go.Proofs.Ytnadiddaeolanaa
open Go.RowKit
set_option linter.unusedVariables false
set_option linter.unusedSimpArgs false

theorem publish_no_memory (n c : Int) (p : Value) (w : World) :
    Calls Try.prog 14 #[.nilIface, .int .i64 n, .int .u8 c, p] w fun e w' => e = .returned (.tuple #[]) ∧ w' = w := by
  refine calls_abs fun R hR => ?_
  go_enter Try.func14, Try.ntmps14
  go_wp2_with fail
  refine bodyPost_ret (v := .tuple #[]) ?_ rfl ?_
  · kernel_rfl
  exact hR.out _ _ ⟨rfl, rfl⟩
theorem publish_no_work (n c : Int) (m : Value) (w : World) :
    Calls Try.prog 14 #[.iface 25 m, .int .i64 n, .int .u8 c, .pointer none] w fun e w' => e = .returned (.tuple #[]) ∧ w' = w := by
  refine calls_abs fun R hR => ?_
  go_enter Try.func14, Try.ntmps14
  go_wp2_with fail
  refine bodyPost_ret (v := .tuple #[]) ?_ rfl ?_
  · kernel_rfl
  exact hR.out _ _ ⟨rfl, rfl⟩
theorem publish_no_colour (n c : Int) (hc : 1 < c) (m : Value) (p : Addr) (w : World) :
    Calls Try.prog 14 #[.iface 25 m, .int .i64 n, .int .u8 c, .pointer (some p)] w fun e w' => e = .returned (.tuple #[]) ∧ w' = w := by
  refine calls_abs fun R hR => ?_
  go_enter Try.func14, Try.ntmps14
  go_wp2_with fail
  refine bodyPost_ret (v := .tuple #[]) ?_ rfl ?_
  · kernel_rfl
  exact hR.out _ _ ⟨rfl, rfl⟩

set_option maxRecDepth 100000 in
set_option maxHeartbeats 4000000 in
theorem publish_publish {w : World} {b g k base : Nat} {v : Value} {W : List Int} (h : Pub w b g k base v W []) (c : Int) (hc : 0 ≤ c ∧ c ≤ 1) (n : Int) (hbase : base ≤ w.heap.size) :
    Calls Try.prog 14 #[.iface 25 (.pointer (some ⟨b, 0, none⟩)), .int .i64 n, .int .u8 c, .pointer (some ⟨k, 0, none⟩)] w fun e w' =>
      ∃ v' W', e = .returned (.tuple #[]) ∧ Pub w' b g k base v' W' [] ∧ PubTo c (turnWs W n c, turnQ W [] n) W' ∧ W'.length = W.length ∧ PKeep b g k v v' w w' := by
  refine calls_abs fun R hR => ?_
  have H := Lib.hid h
  have hsmall : W.length ≤ 4096 := by obtain ⟨⟨t, l, hA⟩, _⟩ := h; exact hA.small
  have hW := h.words
  have hab := h.above
  have hc1 : ¬ 1 < c := by omega
  have mixed : Try.prog.follows .mixedOrders = true := by kernel_rfl
  clear h
  go_enter Try.func14, Try.ntmps14
  go_wp2_with fail
  obtain ⟨z, hz⟩ : ∃ z, z = w.heap.size := ⟨_, rfl⟩
  have HZ := Lib.hid hz
  simp only [← hz] at hbase ⊢
  generalize hw1 : World.alloc w _ = w1
  have hp1 : w1.heap[z]? = some (.cells #[.iface 25 (.pointer (some ⟨b, 0, none⟩)), .int .u8 c, .pointer (some ⟨k, 0, none⟩)] 120 (0, 0)) := by rw [← hw1]; exact alloc_new w _ _ hz
  have K1 : Keep [] w w1 := by rw [← hw1]; exact (by repeat (first | (with_reducible exact Keep.refl _ _) | (with_reducible refine Keep.drew ?_) | (with_reducible refine Keep.drewN ?_ _) | (with_reducible refine Keep.alloc ?_ _) | (with_reducible refine Keep.setCell ?_ (by first | (simp; done) | (simp; omega) | (left; dsimp only; omega)) _)))
  have hs1 : w1.heap.size = z + 1 := by rw [← hw1, hz]; simp
  clear hw1 hz
  have hturn := publish_turn (H.out.still K1) c hc n (by simp) (by omega)
  unfold pubVal at hturn
  refine hturn.mono ?_
  clear hturn
  rintro e w2 ⟨v2, rfl, P2, PK2⟩
  have hvz : ∀ r, v.ownBlock = some r → r ≠ z := fun r hr => by have := H.out.row.block r hr; have := HZ.out; omega
  have hv2z : ∀ r, v2.ownBlock = some r → r ≠ z := fun r hr => by
    rcases PK2.2 r hr with h1 | h1
    · exact hvz r h1
    · omega
  have hp2 := PK2.1.get hp1 (by
    simp only [List.mem_cons, Option.mem_toList]
    rintro (h1 | h1 | h1 | h1)
    · omega
    · omega
    · omega
    · exact hvz z h1 rfl)
  have hin2 : ∀ q ∈ turnQ W [] n, 0 ≤ q ∧ q < W.length := fun q hq => by
    unfold turnQ at hq
    split at hq
    · rename_i hl
      simp at hq
      subst hq
      obtain ⟨i, rfl, hlt⟩ := inr_true (loc_in hl)
      omega
    · cases hq
  have hm2 := turn_measure W [] n c hW hc
  have hlw : locs W ≤ W.length := List.countP_le_length
  have HP2 := Lib.hid P2; have HPP2 := Lib.hid hp2; have HPK2 : Hid (PKeep b g k v v2 w w2) := (PKeep.of K1 (by simp)).trans PK2
  have hl2 : (turnWs W n c).length = W.length := putz_length _ _ _
  have hs2 := PK2.1.size
  clear P2 hp2 PK2 K1 hp1
  simp at hm2
  generalize hs : turnWs W n c = Wa at *
  generalize hsq : turnQ W [] n = Qa at *
  go_wp2_with fail
  go_loopg [] (2 * locs Wa + Qa.length) (fun j wr => ∃ (W' Q' : List Int) (v' : Value), Pub wr b g k base v' W' Q' ∧ wr.heap[z]? = some (.cells #[.iface 25 (.pointer (some ⟨b, 0, none⟩)), .int .u8 c, .pointer (some ⟨k, 0, none⟩)] 120 (0, 0)) ∧ 2 * locs W' + Q'.length = j ∧ (∀ q ∈ Q', 0 ≤ q ∧ q < W.length) ∧ W'.length = W.length ∧
    (∀ Wf, PubTo c (W', Q') Wf → PubTo c (Wa, Qa) Wf) ∧ PKeep b g k v v' w wr ∧ (∀ r, v'.ownBlock = some r → r ≠ z) ∧ locs W' ≤ W.length ∧ Q'.length ≤ 10000 ∧ locs W' + Q'.length ≤ 10000)
  case atStart => exact ⟨Wa, Qa, v2, HP2.out, HPP2.out, rfl, hin2, hl2, fun _ h => h, HPK2.out, hv2z, by omega, by omega, by omega⟩
  case round =>
    obtain ⟨W', Q', v', hP, hp, hj, hin, hl, hto, hpk, hvz', hlo, hq1, hq2⟩ := hrel
    have HP := Lib.hid hP; have HPP := Lib.hid hp; have HIN := Lib.hid hin; have HTO := Lib.hid hto; have HPK := Lib.hid hpk; have HVZ := Lib.hid hvz'
    have hk := cell_at hP.work
    have lk := lt_of_block hP.work
    have cp := cell_at hp
    have lz := lt_of_block hp
    clear hP hp hin hto hpk hvz'
    cases Q' with
    | nil =>
      obtain ⟨ao, cap, rfl, _, _⟩ := HP.out.row.shape
      go_wp2_with fail
      refine bodyPost_end (v := .tuple #[]) ?_ rfl ?_
      · kernel_rfl
      exact hR.out _ _ ⟨_, W', rfl, HP.out, HTO.out _ (.done _), hl, HPK.out⟩
    | cons q rest =>
      obtain ⟨g', o', cap, rfl, hg', hce, hcap, hmax, htl1, htl2⟩ := HP.out.row.head
      have hqb := HIN.out q (by simp)
      have i0 : (0 : Int) < ((rest.length + 1 : Nat) : Int) := by omega
      simp only [List.length_cons] at hk hj hq1 hq2
      have hlook : ∀ wx, Keep [] wr wx → base ≤ wx.heap.size → Calls Try.prog 74 #[.agg #[.iface 25 (.pointer (some ⟨b, 0, none⟩)), .int .u8 c, .pointer (some ⟨k, 0, none⟩)], .int .i64 q] wx _ := fun wx K hb => by
        have := publish_look (HP.out.still K) c hc q ⟨hqb.1, by omega⟩ (by simp; omega) hb
        unfold pubVal at this
        exact this
      have HLOOK := Lib.hid hlook
      have hbr : base ≤ wr.heap.size := by have := HPK.out.1.size; have := HZ.out; omega
      clear hlook
      go_wp2_with fail
      go_region_with_o (go_at_call 74; refine (HLOOK.out _ (by repeat (first | (with_reducible exact Keep.refl _ _) | (with_reducible refine Keep.drew ?_) | (with_reducible refine Keep.drewN ?_ _) | (with_reducible refine Keep.alloc ?_ _) | (with_reducible refine Keep.setCell ?_ (by first | (simp; done) | (simp; omega) | (left; dsimp only; omega)) _))) (by simp; omega)).mono ?_; rintro e w5 ⟨v5, rfl, P5, PK5⟩; have HP5 := Lib.hid P5; have HPK5 := Lib.hid PK5; clear P5 PK5)
      all_goals (
        have hli := look_inv c q hc (W', q :: rest) HP.out.words (fun x hx => by have := HIN.out x hx; simp only; omega) (takeH (rdz W' q)).refs.toNat
        have hps : pubStep c (W', q :: rest) = ((lookRun c q (takeH (rdz W' q)).refs.toNat (W', q :: rest)).1, (lookRun c q (takeH (rdz W' q)).refs.toNat (W', q :: rest)).2.tail) := rfl
        generalize lookRun c q (takeH (rdz W' q)).refs.toNat (W', q :: rest) = r at *
        obtain ⟨i1, i2, i3, i4, i5, t, i6⟩ := hli
        simp only [List.cons_append, List.length_cons] at i1 i2 i4 i5 i6
        have hr2l : r.2.length = (rest ++ t).length + 1 := by rw [i6]; simp
        have HR2 := Lib.hid i6; have HI5 := Lib.hid i5
        have HPS : Hid (pubStep c (W', q :: rest) = (r.1, rest ++ t)) := by rw [hps, i6]; rfl
        have hrow5 := HP5.out.row
        rw [hr2l, i6] at hrow5
        obtain ⟨g5, o5, cap5, rfl, hg5, hce5, hcap5, hmax5, htl51, htl52⟩ := hrow5.head
        have PKD : Hid (PKeep b g k (.slice (some ⟨g', o', none⟩) (rest.length + 1) cap) (.slice (some ⟨g', o', none⟩) (rest.length + 1) cap) wr wr.drew) := PKeep.of (S := []) (by repeat (first | (with_reducible exact Keep.refl _ _) | (with_reducible refine Keep.drew ?_) | (with_reducible refine Keep.drewN ?_ _) | (with_reducible refine Keep.alloc ?_ _) | (with_reducible refine Keep.setCell ?_ (by first | (simp; done) | (simp; omega) | (left; dsimp only; omega)) _))) (by simp)
        have hzk : z ≠ b ∧ z ≠ g ∧ z ≠ k := by have := HZ.out; have := HP.out.above; omega
        have hpp5 := HPK5.out.1.get (show wr.drew.heap[z]? = _ from HPP.out) (by
          simp only [List.mem_cons, Option.mem_toList]
          rintro (h1 | h1 | h1 | h1)
          · exact hzk.1 h1
          · exact hzk.2.1 h1
          · exact hzk.2.2 h1
          · exact HVZ.out z h1 rfl)
        have HPP5 := Lib.hid hpp5
        have hk5 := cell_at HP5.out.work
        have fk5 := frozen_at HP5.out.work
        have lk5 := lt_of_block HP5.out.work
        have cp5 := cell_at hpp5
        have lz5 := lt_of_block hpp5
        have HTL1 := Lib.hid htl51; have HTL2 := Lib.hid htl52
        have j1 : (1 : Int) ≤ (((rest ++ t).length + 1 : Nat) : Int) := by omega
        have j2 : (((rest ++ t).length + 1 : Nat) : Int) ≤ (cap5 : Int) := by omega
        have j3 : (1 : Int) ≤ (cap5 : Int) := by omega
        clear hps i6 i5 hrow5 hpp5 htl51 htl52
        by_cases hc5 : cap5 = 1
        · subst hc5
          have hN0 : (rest ++ t).length = 0 := by omega
          have htl0 := HTL1.out rfl
          have HTL0 := Lib.hid htl0
          clear htl0 HTL1 HTL2
          go_wp2_with fail
          go_roundg (2 * locs r.1 + (rest ++ t).length)
          case measure => omega
          case rel =>
            obtain ⟨⟨tt, ll, hA5⟩, hW5, hk5', ho5, hab5, hap5⟩ := HP5.out
            have htl : Offs w5 base 3 (.slice (some ⟨g5, o5, none⟩) 0 0) (rest ++ t).length (rest ++ t) := HTL0.out
            refine ⟨r.1, rest ++ t, .slice (some ⟨g5, o5, none⟩) 0 0, ⟨⟨tt, ll, hA5.keep (S := [k]) (by repeat (first | (with_reducible exact Keep.refl _ _) | (with_reducible refine Keep.drew ?_) | (with_reducible refine Keep.drewN ?_ _) | (with_reducible refine Keep.alloc ?_ _) | (with_reducible refine Keep.setCell ?_ (by first | (simp; done) | (simp; omega) | (left; dsimp only; omega)) _))) (by simp; omega) (by simp; omega)⟩, hW5, (put_at HP5.out.work 0 _).trans (by simp), htl.keep (S := [k]) (by repeat (first | (with_reducible exact Keep.refl _ _) | (with_reducible refine Keep.drew ?_) | (with_reducible refine Keep.drewN ?_ _) | (with_reducible refine Keep.alloc ?_ _) | (with_reducible refine Keep.setCell ?_ (by first | (simp; done) | (simp; omega) | (left; dsimp only; omega)) _))) (fun x hx => by have := htl.block x hx; simp; omega), hab5, hap5⟩, Keep.get (S := [k]) (w := w5) (by repeat (first | (with_reducible exact Keep.refl _ _) | (with_reducible refine Keep.drew ?_) | (with_reducible refine Keep.drewN ?_ _) | (with_reducible refine Keep.alloc ?_ _) | (with_reducible refine Keep.setCell ?_ (by first | (simp; done) | (simp; omega) | (left; dsimp only; omega)) _))) HPP5.out (by simp; omega), rfl, fun x hx => ?_, by omega, fun Wf hW => HTO.out Wf (.step (W', q :: rest) Wf (by simp) (by rw [HPS.out]; exact hW)), HPK.out.trans (PKD.out.trans (HPK5.out.trans ⟨Keep.mono (S := [k]) (by repeat (first | (with_reducible exact Keep.refl _ _) | (with_reducible refine Keep.drew ?_) | (with_reducible refine Keep.drewN ?_ _) | (with_reducible refine Keep.alloc ?_ _) | (with_reducible refine Keep.setCell ?_ (by first | (simp; done) | (simp; omega) | (left; dsimp only; omega)) _))) (by simp), fun x hx => .inl (by simpa [Value.ownBlock] using hx)⟩)), fun x hx => ?_, by omega, by omega, by omega⟩
            · have := HI5.out x (by rw [HR2.out]; exact List.mem_cons_of_mem _ hx)
              rwa [hl] at this
            · have hx5 : (Value.slice (some ⟨g5, o5, none⟩) ((rest ++ t).length + 1) 1).ownBlock = some x := by simpa [Value.ownBlock] using hx
              rcases HPK5.out.2 x hx5 with h1 | h1
              · exact HVZ.out x h1
              · simp at h1; omega
        · have htl0 := HTL2.out hc5
          have HTL0 := Lib.hid htl0
          have hc6 : ¬ 1 = cap5 := fun h => hc5 h.symm
          clear htl0 HTL1 HTL2
          go_wp2_with fail
          go_roundg (2 * locs r.1 + (rest ++ t).length)
          case measure => omega
          case rel =>
            obtain ⟨⟨tt, ll, hA5⟩, hW5, hk5', ho5, hab5, hap5⟩ := HP5.out
            have htl : Offs w5 base 3 (.slice (some ⟨g5, o5 + 1, none⟩) (rest ++ t).length (cap5 - 1)) (rest ++ t).length (rest ++ t) := HTL0.out
            refine ⟨r.1, rest ++ t, .slice (some ⟨g5, o5 + 1, none⟩) (rest ++ t).length (cap5 - 1), ⟨⟨tt, ll, hA5.keep (S := [k]) (by repeat (first | (with_reducible exact Keep.refl _ _) | (with_reducible refine Keep.drew ?_) | (with_reducible refine Keep.drewN ?_ _) | (with_reducible refine Keep.alloc ?_ _) | (with_reducible refine Keep.setCell ?_ (by first | (simp; done) | (simp; omega) | (left; dsimp only; omega)) _))) (by simp; omega) (by simp; omega)⟩, hW5, (put_at HP5.out.work 0 _).trans (by simp), htl.keep (S := [k]) (by repeat (first | (with_reducible exact Keep.refl _ _) | (with_reducible refine Keep.drew ?_) | (with_reducible refine Keep.drewN ?_ _) | (with_reducible refine Keep.alloc ?_ _) | (with_reducible refine Keep.setCell ?_ (by first | (simp; done) | (simp; omega) | (left; dsimp only; omega)) _))) (fun x hx => by have := htl.block x hx; simp; omega), hab5, hap5⟩, Keep.get (S := [k]) (w := w5) (by repeat (first | (with_reducible exact Keep.refl _ _) | (with_reducible refine Keep.drew ?_) | (with_reducible refine Keep.drewN ?_ _) | (with_reducible refine Keep.alloc ?_ _) | (with_reducible refine Keep.setCell ?_ (by first | (simp; done) | (simp; omega) | (left; dsimp only; omega)) _))) HPP5.out (by simp; omega), rfl, fun x hx => ?_, by omega, fun Wf hW => HTO.out Wf (.step (W', q :: rest) Wf (by simp) (by rw [HPS.out]; exact hW)), HPK.out.trans (PKD.out.trans (HPK5.out.trans ⟨Keep.mono (S := [k]) (by repeat (first | (with_reducible exact Keep.refl _ _) | (with_reducible refine Keep.drew ?_) | (with_reducible refine Keep.drewN ?_ _) | (with_reducible refine Keep.alloc ?_ _) | (with_reducible refine Keep.setCell ?_ (by first | (simp; done) | (simp; omega) | (left; dsimp only; omega)) _))) (by simp), fun x hx => .inl (by simpa [Value.ownBlock] using hx)⟩)), fun x hx => ?_, by omega, by omega, by omega⟩
            · have := HI5.out x (by rw [HR2.out]; exact List.mem_cons_of_mem _ hx)
              rwa [hl] at this
            · have hx5 : (Value.slice (some ⟨g5, o5, none⟩) ((rest ++ t).length + 1) cap5).ownBlock = some x := by simpa [Value.ownBlock] using hx
              rcases HPK5.out.2 x hx5 with h1 | h1
              · exact HVZ.out x h1
              · simp at h1; omega
        )
end Go.Proofs.Ytnadiddaeolanaa
