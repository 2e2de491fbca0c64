/- The contract of a publisher's look. -/
import Derived.Test.YtnadiddaeolanaaPublish2
namespace Go.Proofs.Ytnadiddaeolanaa
open Go.RowKit
set_option linter.unusedVariables false
set_option linter.unusedSimpArgs false

def lookStep (c n : Int) (s : List Int × List Int) (i : Nat) : List Int × List Int :=
  let v := rdz s.1 (n + 1 + i)
  if v = 0 then s else (turnWs s.1 (wrap64 v) c, turnQ s.1 s.2 (wrap64 v))
def lookRun (c n : Int) (m : Nat) (s : List Int × List Int) : List Int × List Int := (List.range m).foldl (lookStep c n) s
theorem lookRun_succ (c n : Int) (m : Nat) (s : List Int × List Int) : lookRun c n (m + 1) s = lookStep c n (lookRun c n m s) m := by
  simp [lookRun, List.range_succ]
theorem turnQ_len (W Q : List Int) (n : Int) : (turnQ W Q n).length ≤ Q.length + 1 := by
  unfold turnQ; split <;> simp
theorem lookStep_len (c n : Int) (s : List Int × List Int) (i : Nat) : (lookStep c n s i).2.length ≤ s.2.length + 1 := by
  unfold lookStep
  dsimp only
  split
  · omega
  · exact turnQ_len _ _ _
theorem lookRun_len (c n : Int) (s : List Int × List Int) (m : Nat) : (lookRun c n m s).2.length ≤ s.2.length + m := by
  induction m with
  | zero => simp [lookRun]
  | succ m ih =>
    rw [lookRun_succ]
    have := lookStep_len c n (lookRun c n m s) m
    omega

theorem Pub.still {w w' : World} {b g k base : Nat} {v : Value} {W Q : List Int} (h : Pub w b g k base v W Q) (K : Keep [] w w') : Pub w' b g k base v W Q := by
  obtain ⟨⟨t, l, hA⟩, hW, hk, ho, h4, h5⟩ := h
  exact ⟨⟨t, l, hA.keep K (by simp) (by simp)⟩, hW, K.get hk (by simp), ho.keep K (fun _ _ => by simp), h4, h5⟩
/-- A read of a word. -/
theorem Pub.read {w : World} {b g k base : Nat} {v : Value} {W Q : List Int} (h : Pub w b g k base v W Q) (n : Int) :
    Calls Try.prog 30 #[.pointer (some ⟨b, 0, none⟩), .int .i64 n] w fun e w' => e = .returned (.int .u64 (rdz W n)) ∧ Pub w' b g k base v W Q ∧ PKeep b g k v v w w' ∧ Keep [b, g] w w' := by
  obtain ⟨⟨t, l, hA⟩, hW, hk, ho, h4, h5⟩ := h
  refine (arena_read_any hA n).mono ?_
  rintro e w' ⟨rfl, A, K⟩
  exact ⟨rfl, ⟨⟨_, _, A⟩, hW, K.get hk (by simp; omega), ho.keep K (fun x hx => by have := ho.block x hx; simp; omega), h4, h5⟩, PKeep.of K (by simp), K⟩

theorem takeH_refs (x : Int) (hx : 0 ≤ x) : 0 ≤ (takeH x).refs ∧ (takeH x).refs ≤ 127 := by
  unfold takeH
  split
  · simp only [hdOf]; omega
  · simp [Hd.zero]

set_option maxRecDepth 100000 in
set_option maxHeartbeats 4000000 in
theorem publish_look {w : World} {b g k base : Nat} {v : Value} {W Q : List Int} (h : Pub w b g k base v W Q) (c : Int) (hc : 0 ≤ c ∧ c ≤ 1) (n : Int) (hn : 0 ≤ n ∧ n ≤ 5000) (hs : Q.length ≤ 90000) (hbase : base ≤ w.heap.size) :
    Calls Try.prog 74 #[pubVal b c k, .int .i64 n] w fun e w' => ∃ v', e = .returned (.tuple #[]) ∧
      Pub w' b g k base v' (lookRun c n (takeH (rdz W n)).refs.toNat (W, Q)).1 (lookRun c n (takeH (rdz W n)).refs.toNat (W, Q)).2 ∧ PKeep b g k v v' w w' := by
  refine calls_abs fun R hR => ?_
  have H := Lib.hid h
  have hWn := h.words n
  have hinr := mem_read
  simp [go_sem] at hinr
  have hab := h.above
  have happ := h.apart
  clear h
  unfold pubVal
  go_enter Try.func74, Try.ntmps74
  go_wp2_with fail
  obtain ⟨z, hz⟩ : ∃ z, z = w.heap.size := ⟨_, rfl⟩
  have HZ := Lib.hid hz
  simp only [← hz] at hbase ⊢
  generalize hw1 : World.alloc w _ = w1
  have hp1 : w1.heap[z]? = some (.cells #[.iface 25 (.pointer (some ⟨b, 0, none⟩)), .int .u8 c, .pointer (some ⟨k, 0, none⟩)] 120 (0, 0)) := by rw [← hw1]; exact alloc_new w _ _ hz
  have K1 : Keep [] w w1 := by rw [← hw1]; exact (by repeat (first | (with_reducible exact Keep.refl _ _) | (with_reducible refine Keep.drew ?_) | (with_reducible refine Keep.drewN ?_ _) | (with_reducible refine Keep.alloc ?_ _) | (with_reducible refine Keep.setCell ?_ (by first | (simp; done) | (simp; omega) | (left; dsimp only; omega)) _)))
  clear hw1 hz
  refine ((H.out.still K1).read n).mono ?_
  rintro e w2 ⟨rfl, P2, PK2, K2⟩
  have hp2 := K2.get hp1 (by simp; omega)
  go_wp2_with fail
  refine (word_take (rdz W n) hWn w2).mono ?_
  rintro e w3 ⟨rfl, K3⟩
  have P3 := Lib.hid (P2.still K3)
  have hp3 := K3.get hp2 (by simp)
  have HPK3 : Hid (PKeep b g k v v w w3) := ((PKeep.of K1 (by simp)).trans PK2).trans (PKeep.of K3 (by simp))
  have HP3 := Lib.hid hp3
  have hz3 := lt_of_block hp3
  have hrefs := takeH_refs (rdz W n) hWn.1
  clear K1 hp1 P2 PK2 K2 hp2 K3 hp3
  unfold Hd.val
  generalize takeH (rdz W n) = d at *
  obtain ⟨m, hm⟩ : ∃ m : Nat, d.refs = m := ⟨d.refs.toNat, by omega⟩
  have HM := Lib.hid hm
  generalize (if isHd (rdz W n) = true then (0 : Int) else 3) = er
  obtain ⟨kind, colour, grey, marked, owner, refs, size⟩ := d
  dsimp only at hm hR hrefs HM ⊢
  subst hm
  go_wp2_with fail
  generalize hw4 : World.alloc w3 _ = w4
  have K4 : Keep [] w3 w4 := by rw [← hw4]; exact (by repeat (first | (with_reducible exact Keep.refl _ _) | (with_reducible refine Keep.drew ?_) | (with_reducible refine Keep.drewN ?_ _) | (with_reducible refine Keep.alloc ?_ _) | (with_reducible refine Keep.setCell ?_ (by first | (simp; done) | (simp; omega) | (left; dsimp only; omega)) _)))
  clear hw4
  have P4 := Lib.hid (P3.out.still K4)
  have HP4 := Lib.hid (K4.get HP3.out (by simp))
  have HPK4 := Lib.hid (HPK3.out.trans (PKeep.of K4 (by simp)))
  have hs4 : base ≤ w4.heap.size := by have := lt_of_block HP4.out; omega
  have hlt4 := lt_of_block HP4.out
  clear K4
  simp only [Int.toNat_natCast] at hR
  go_loopg [19] m (fun j i wr => ∃ q : Nat, q + j = m ∧ i = .int .i64 q ∧ ∃ vq, Pub wr b g k base vq (lookRun c n q (W, Q)).1 (lookRun c n q (W, Q)).2 ∧ wr.heap[z]? = some (.cells #[.iface 25 (.pointer (some ⟨b, 0, none⟩)), .int .u8 c, .pointer (some ⟨k, 0, none⟩)] 120 (0, 0)) ∧ PKeep b g k v vq w wr ∧ ∀ r, vq.ownBlock = some r → r ≠ z)
  case atStart => exact ⟨0, by omega, rfl, v, P4.out, HP4.out, HPK4.out, fun r hr => by have := H.out.row.block r hr; have := HZ.out; omega⟩
  case round =>
    obtain ⟨q, hq, rfl, vq, hP, hp, hpk, hnz⟩ := hrel
    have HNZ := Lib.hid hnz; clear hnz
    have HP := Lib.hid hP; have HPP := Lib.hid hp; have HPK := Lib.hid hpk
    have cp := cell_at hp
    have lz := lt_of_block hp
    clear hP hp hpk
    by_cases hqm : q < m
    · have i0 : (q : Int) < (m : Int) := by omega
      have hw1 : IntKind.i64.wrap (n + 1) = n + 1 := by rw [IntKind.wrap_i64]; omega
      have hw2 : IntKind.i64.wrap (n + 1 + q) = n + 1 + q := by rw [IntKind.wrap_i64]; omega
      go_wp2_with fail
      refine (HP.out.read (n + 1 + q)).mono ?_
      rintro e w5 ⟨rfl, P5, PK5, K5⟩
      have hp5 := K5.get HPP.out (by simp; omega)
      have cp5 := cell_at hp5
      have HP5 := Lib.hid P5; have HPP5 := Lib.hid hp5; have HPK5 := Lib.hid (HPK.out.trans PK5)
      have lz5 := lt_of_block hp5
      have hl5 := lookRun_len c n (W, Q) q
      clear P5 PK5 K5 hp5 cp
      have hsucc := lookRun_succ c n q (W, Q)
      unfold lookStep at hsucc
      dsimp only at hsucc hl5
      have HSU := Lib.hid hsucc
      clear hsucc
      generalize hS : lookRun c n q (W, Q) = S at *
      by_cases hv : rdz S.1 (n + 1 + q) = 0
      · have hv1 : (rdz S.1 (n + 1 + q) == 0) = true := by simp [hv]
        have hs2 : Hid (lookRun c n (q + 1) (W, Q) = S) := by have := HSU.out; rwa [if_pos hv] at this
        clear HSU
        rw [hv]
        clear hv hv1
        go_wp2_with fail
        go_roundg (m - (q + 1))
        case measure => omega
        case rel => exact ⟨q + 1, by omega, by go_num, vq, by rw [hs2.out]; exact HP5.out, HPP5.out, HPK5.out, HNZ.out⟩
      · have hv1 : (rdz S.1 (n + 1 + q) == 0) = false := by simp [hv]
        have hv2 : (rdz S.1 (n + 1 + q) != 0) = true := by simp [hv]
        have hs2 : Hid (lookRun c n (q + 1) (W, Q) = (turnWs S.1 (wrap64 (rdz S.1 (n + 1 + q))) c, turnQ S.1 S.2 (wrap64 (rdz S.1 (n + 1 + q))))) := by have := HSU.out; rw [if_neg hv] at this; exact this
        clear HSU hv
        generalize rdz S.1 (n + 1 + q) = x at hv1 hv2 hs2
        have hbl5 : base ≤ w5.heap.size := by omega
        go_wp2_with fail
        have hturn := publish_turn HP5.out c hc (wrap64 x) (by omega) hbl5
        unfold pubVal at hturn
        refine hturn.mono ?_
        clear hturn
        rintro e w6 ⟨v6, rfl, P6, PK6⟩
        have HP6 := Lib.hid P6
        have hz6 : z ≠ b ∧ z ≠ g ∧ z ≠ k := by omega
        have hp6 : w6.heap[z]? = some (.cells #[.iface 25 (.pointer (some ⟨b, 0, none⟩)), .int .u8 c, .pointer (some ⟨k, 0, none⟩)] 120 (0, 0)) := by
          refine PK6.1.get HPP5.out (fun hm => ?_)
          simp only [List.mem_cons, Option.mem_toList] at hm
          rcases hm with h1 | h1 | h1 | h1
          · exact hz6.1 h1
          · exact hz6.2.1 h1
          · exact hz6.2.2 h1
          · exact HNZ.out z h1 rfl
        have hnz6 : ∀ r, v6.ownBlock = some r → r ≠ z := fun r hr => by
          rcases PK6.2 r hr with h1 | h1
          · exact HNZ.out r h1
          · omega
        have HNZ6 := Lib.hid hnz6
        have HPP6 := Lib.hid hp6; have HPK6 := Lib.hid (HPK5.out.trans PK6)
        clear P6 PK6 hp6
        go_wp2_with fail
        go_roundg (m - (q + 1))
        case measure => omega
        case rel => exact ⟨q + 1, by omega, by go_num, v6, by rw [hs2.out]; exact HP6.out, HPP6.out, HPK6.out, HNZ6.out⟩
    · have hqe : q = m := by omega
      subst hqe
      go_wp2_with fail
      refine bodyPost_end (v := .tuple #[]) ?_ rfl ?_
      · kernel_rfl
      exact hR.out _ _ ⟨vq, rfl, HP.out, HPK.out⟩
end Go.Proofs.Ytnadiddaeolanaa
