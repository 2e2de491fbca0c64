/- The contracts of package stack. -/
import Derived.Test.YtgdbccficcgbdaaProg
import Derived.Test.YtgdbccficcgbdaaLib
import Derived.WalkSpells
import Derived.Lib.SliceRun
import Derived.BigQuiet
import Derived.Deep.QuietTactic
namespace Go.Proofs.Ytgdbccficcgbdaa
open Go.RowKit
set_option linter.unusedVariables false

theorem Try.info3 : (Try.prog.info? 3).map (fun i => (i.zero, i.size, i.bytes)) = some (some (.int .i64 0), 1, 8) := by kernel_rfl

/-- A stack at block b: its flood's block f, its places' block s; its room, its places, whether it has overflowed. -/
structure Stk (w : World) (b f s room : Nat) (L : List Int) (over : Bool) : Prop where
  head : w.heap[b]? = some (.cells #[.pointer (some ⟨f, 0, none⟩), .slice (some ⟨s, 0, none⟩) L.length room] 111 (0, 0))
  flood : w.heap[f]? = some (.cells #[.bool over] 109 (0, 0))
  row : ∃ cur, w.heap[s]? = some (.cells cur 3 (0, 0)) ∧ cur.size = 64 ∧ ∀ (i : Nat) (x : Int), L[i]? = some x → cur[i]? = some (Value.int .i64 x)
  fits : L.length ≤ room
  small : room ≤ 64
  ne1 : b ≠ f
  ne2 : b ≠ s
  ne3 : f ≠ s

theorem Stk.keep {S : List Nat} {w w' : World} {b f s room : Nat} {L : List Int} {over : Bool} (h : Stk w b f s room L over) (k : Keep S w w') (hb : b ∉ S) (hf : f ∉ S) (hs : s ∉ S) : Stk w' b f s room L over := by
  obtain ⟨cur, h1, h2, h3⟩ := h.row
  exact ⟨k.get h.head hb, k.get h.flood hf, ⟨cur, k.get h1 hs, h2, h3⟩, h.fits, h.small, h.ne1, h.ne2, h.ne3⟩

theorem stack_len_nil (w : World) : Calls Try.prog 20 #[.pointer none] w fun e w' => e = .returned (.int .i64 0) ∧ w' = w := by
  go_enter Try.func20, Try.ntmps20
  go_wp2
  go_ret
  exact ⟨rfl, rfl⟩

theorem stack_len {w : World} {b f s room : Nat} {L : List Int} {over : Bool} (h : Stk w b f s room L over) :
    Calls Try.prog 20 #[.pointer (some ⟨b, 0, none⟩)] w fun e w' => e = .returned (.int .i64 L.length) ∧ w' = w := by
  have c := cell_at h.head
  clear h
  go_enter Try.func20, Try.ntmps20
  go_wp2
  go_ret
  exact ⟨rfl, rfl⟩

theorem stack_pop_nil (w : World) : Calls Try.prog 17 #[.pointer none] w fun e w' => e = .returned (.tuple #[.int .i64 0, .bool false]) ∧ w' = w := by
  go_enter Try.func17, Try.ntmps17
  go_wp2_with (go_at_call 20; refine (stack_len_nil _).mono ?_; rintro e w' ⟨rfl, rfl⟩)
  go_ret2
  exact ⟨rfl, rfl⟩

theorem stack_pop_empty {w : World} {b f s room : Nat} {over : Bool} (h : Stk w b f s room [] over) :
    Calls Try.prog 17 #[.pointer (some ⟨b, 0, none⟩)] w fun e w' => e = .returned (.tuple #[.int .i64 0, .bool false]) ∧ w' = w := by
  have H := Lib.hid h
  clear h
  go_enter Try.func17, Try.ntmps17
  go_wp2_with (go_at_call 20; refine (stack_len H.out).mono ?_; rintro e w' ⟨rfl, rfl⟩)
  go_ret2
  exact ⟨rfl, rfl⟩

theorem stack_pop_some {w : World} {b f s room : Nat} {L : List Int} {x : Int} {over : Bool} (h : Stk w b f s room (L ++ [x]) over) :
    Calls Try.prog 17 #[.pointer (some ⟨b, 0, none⟩)] w fun e w' => e = .returned (.tuple #[.int .i64 x, .bool true]) ∧ Stk w' b f s room L over ∧ Keep [b, f, s] w w' := by
  obtain ⟨cur, hr, hcs, hc⟩ := h.row
  have c := cell_at h.head
  have f1 := frozen_at h.head
  have f2 := frozen_at hr
  have cx : w.cell? ⟨s, L.length, none⟩ = some (.int .i64 x) := by rw [cell_at hr]; exact hc _ _ (by simp)
  have hfit := h.fits
  have hsm := h.small
  simp only [List.length_append, List.length_singleton] at c hfit
  have H := Lib.hid h
  have HC := Lib.hid hc
  have hlen := Lib.hid (stack_len h)
  simp only [List.length_append, List.length_singleton] at hlen
  clear h hc hcs
  have hpost : Stk (w.setCell ⟨b, 1, none⟩ (.slice (some ⟨s, 0, none⟩) L.length room)) b f s room L over := by
    have h := H.out
    refine ⟨?_, put_other h.flood h.ne1.symm _, ⟨cur, put_other hr h.ne2.symm _, ?_, fun i y hy => ?_⟩, by omega, h.small, h.ne1, h.ne2, h.ne3⟩
    · rw [put_at h.head]; simp
    · obtain ⟨cur', hr', hcs', _⟩ := h.row
      rw [hr] at hr'
      simp at hr'
      rw [hr']; exact hcs'
    · refine HC.out i y ?_
      rw [List.getElem?_append_left (by have := (List.getElem?_eq_some_iff.1 hy).1; exact this)]
      exact hy
  have HP := Lib.hid hpost
  clear hpost
  go_enter Try.func17, Try.ntmps17
  go_wp2_with (go_at_call 20; refine (hlen.out).mono ?_; rintro e w' ⟨rfl, rfl⟩)
  go_ret2
  exact ⟨rfl, HP.out, (Keep.refl _ _).setCell (by simp) _⟩

theorem stack_over_nil (w : World) : Calls Try.prog 18 #[.pointer none] w fun e w' => e = .returned (.bool false) ∧ w' = w := by
  go_enter Try.func18, Try.ntmps18
  go_wp2
  go_ret
  exact ⟨rfl, rfl⟩

theorem stack_over {w : World} {b f s room : Nat} {L : List Int} {over : Bool} (h : Stk w b f s room L over) :
    Calls Try.prog 18 #[.pointer (some ⟨b, 0, none⟩)] w fun e w' => e = .returned (.bool over) ∧ Stk w' b f s room L false ∧ Keep [b, f, s] w w' := by
  have c := cell_at h.head
  have c2 := cell_at h.flood
  have f2 := frozen_at h.flood
  have hpost : Stk (w.setCell ⟨f, 0, none⟩ (.bool false)) b f s room L false := by
    obtain ⟨cur, hr, h2⟩ := h.row
    refine ⟨put_other h.head h.ne1 _, ?_, ⟨cur, put_other hr h.ne3.symm _, h2⟩, h.fits, h.small, h.ne1, h.ne2, h.ne3⟩
    rw [put_at h.flood]; simp
  have HP := Lib.hid hpost
  clear hpost h
  go_enter Try.func18, Try.ntmps18
  go_wp2
  go_ret
  exact ⟨rfl, HP.out, (Keep.refl _ _).setCell (by simp) _⟩

theorem stack_push_nil (x : Int) (w : World) : Calls Try.prog 19 #[.pointer none, .int .i64 x] w fun e w' => e = .returned (.bool false) ∧ w' = w := by
  go_enter Try.func19, Try.ntmps19
  go_wp2
  go_ret
  exact ⟨rfl, rfl⟩

theorem stack_push_full {w : World} {b f s room : Nat} {L : List Int} {over : Bool} (h : Stk w b f s room L over) (hl : L.length = room) (x : Int) :
    Calls Try.prog 19 #[.pointer (some ⟨b, 0, none⟩), .int .i64 x] w fun e w' => e = .returned (.bool false) ∧ Stk w' b f s room L true ∧ Keep [b, f, s] w w' := by
  have c := cell_at h.head
  have c2 := cell_at h.flood
  have f2 := frozen_at h.flood
  rw [hl] at c
  have hsm := h.small
  have hpost : Stk (w.setCell ⟨f, 0, none⟩ (.bool true)) b f s room L true := by
    obtain ⟨cur, hr, h2⟩ := h.row
    exact ⟨put_other h.head h.ne1 _, (put_at h.flood 0 _).trans (by simp), ⟨cur, put_other hr h.ne3.symm _, h2⟩, h.fits, h.small, h.ne1, h.ne2, h.ne3⟩
  have HP := Lib.hid hpost
  clear hpost h hl
  go_enter Try.func19, Try.ntmps19
  go_wp2
  go_quiet (fail)
  go_wp2
  go_end0
  go_wp2
  go_ret
  exact ⟨rfl, HP.out.keep ((Keep.refl [] _).drewN _) (by simp) (by simp) (by simp), ((Keep.refl _ _).setCell (by simp) _).drewN _⟩

theorem stack_push {w : World} {b f s room : Nat} {L : List Int} {over : Bool} (h : Stk w b f s room L over) (hl : L.length < room) (x : Int) :
    Calls Try.prog 19 #[.pointer (some ⟨b, 0, none⟩), .int .i64 x] w fun e w' => e = .returned (.bool true) ∧ Stk w' b f s room (L ++ [x]) over ∧ Keep [b, f, s] w w' := by
  obtain ⟨cur, hr, hcs, hc⟩ := h.row
  have c := cell_at h.head
  have f1 := frozen_at h.head
  have hsm := h.small
  have hpost : Stk ((w.setCell ⟨s, L.length, none⟩ (.int .i64 x)).setCell ⟨b, 1, none⟩ (.slice (some ⟨s, 0, none⟩) (L.length + 1) room)) b f s room (L ++ [x]) over := by
    refine ⟨?_, put_other (put_other h.flood h.ne3 _) h.ne1.symm _, ⟨_, put_other (put_at hr _ _) h.ne2.symm _, by simpa using hcs, fun i y hy => ?_⟩, by simp; omega, h.small, h.ne1, h.ne2, h.ne3⟩
    · rw [put_at (put_other h.head h.ne2 _)]; simp
    · rw [Array.getElem?_setIfInBounds]
      by_cases hi : L.length = i
      · subst hi
        rw [if_pos rfl, if_pos (by omega)]
        simp at hy
        rw [hy]
      · rw [if_neg hi]
        refine hc i y ?_
        have : i < (L ++ [x]).length := (List.getElem?_eq_some_iff.1 hy).1
        simp at this
        rwa [List.getElem?_append_left (by omega)] at hy
  have HR := Lib.hid hr
  have HP := Lib.hid hpost
  have hn2 := h.ne2
  have hn3 := h.ne2.symm
  have hlt := lt_of_block h.head
  have hlt2 := lt_of_block hr
  have hcs2 : 64 ≤ cur.size := Nat.le_of_eq hcs.symm
  obtain ⟨i0, hi, hz0, hz1, hz2⟩ := info_parts Try.info3
  have HI := Lib.hid (And.intro hi hz1)
  have hne : ((L.length : Int) == (room : Int)) = false := by simp; omega
  clear hpost h hr hc hcs hi hz0 hz1 hz2
  go_enter Try.func19, Try.ntmps19
  go_wp2
  go_quiet (fail)
  go_wp2_with (at_builtin; go_loud (refine wpList_append_one _ rfl _ _ 28 rfl 3 i0 Try.underlying28 HI.out.1 HI.out.2 s L.length room rfl cur (alloc_keeps HR.out _) ⟨w.heap.size, 0, none⟩ 1 (.int .i64 x) rfl (World.cell?_alloc_new w #[.int .i64 x] _ 0) rfl hl (by omega) ?_))
  go_ret
  exact ⟨rfl, HP.out.keep (((Keep.refl [] _).alloc _).drewN _) (by simp) (by simp) (by simp), (((((Keep.refl _ _).setCell (by simp) _).setCell (by simp) _).alloc _).drewN _)⟩

theorem stack_new_bad (room : Int) (h : room < 1 ∨ 64 < room) (w : World) :
    Calls Try.prog 16 #[.int .i64 room] w fun e w' => e = .returned (.tuple #[.pointer none, .int .i64 2]) ∧ w' = w := by
  rcases h with h | h
  · go_enter Try.func16, Try.ntmps16
    go_wp2
    go_ret2
    exact ⟨rfl, rfl⟩
  · have h1 : ¬ room < 1 := by omega
    go_enter Try.func16, Try.ntmps16
    go_wp2
    go_ret2
    exact ⟨rfl, rfl⟩

theorem stack_new (n : Int) (room : Nat) (hn : n = room) (h1 : 1 ≤ room) (h2 : room ≤ 64) (w : World) :
    Calls Try.prog 16 #[.int .i64 n] w fun e w' => ∃ b f s, e = .returned (.tuple #[.pointer (some ⟨b, 0, none⟩), .int .i64 0]) ∧ Stk w' b f s room [] false ∧ Keep [] w w' ∧ w.heap.size ≤ b ∧ w.heap.size ≤ f ∧ w.heap.size ≤ s := by
  subst hn
  refine calls_abs fun R hR => ?_
  have n1 : ¬ (room : Int) < 1 := by omega
  have n2 : ¬ (64 : Int) < (room : Int) := by omega
  obtain ⟨i0, hi, hz0, hz1, hz2⟩ := info_parts Try.info3
  have hmk : ∀ w, (Instr.makeSlice 28 (.int .i64 64) (.int .i64 64)).run Try.prog w = .ok (.slice (some ⟨w.heap.size, 0, none⟩) 64 64) (w.alloc (.cells (madeCells #[.int .i64 0] 64) 3)) := by
    intro w
    have h := run_make (P := Try.prog) w 28 3 i0 _ Try.underlying28 hi hz0 .i64 .i64 64 64 (by omega) (by omega) (by rw [hz2]; omega) (by omega)
    rw [hz1] at h
    exact h
  clear hi hz0 hz1 hz2
  go_enter Try.func16, Try.ntmps16
  go_wp2
  refine hR.out _ _ ⟨_, _, _, rfl, ⟨alloc_new _ _ _ (by simp), alloc_keeps (alloc_keeps (alloc_new _ _ _ rfl) _) _, ⟨_, alloc_keeps (alloc_new _ _ _ (by simp)) _, size_madeCells _ _, by simp⟩, by simp, h2, by omega, by omega, by omega⟩, (((Keep.refl _ _).alloc _).alloc _).alloc _, by omega, by omega, by omega⟩

theorem elem_int : Elem Try.prog 28 3 (.int .i64 0) 1 8 := Elem.of Try.underlying28 Try.info3 rfl (by omega)

theorem clone_int {w : World} {v : Value} {n : Nat} {cs : List Value} (h : Rd w v n cs) (hl : cs.length = n) (hb : n * 8 ≤ 140737488355328) :
    Calls Try.prog 66 #[v] w fun e w' => ∃ v', e = .returned v' ∧ Rd w' v' n cs ∧ Keep [] w w' ∧ (∀ g, v'.ownBlock = some g → w.heap.size ≤ g ∧ g < w'.heap.size) := by
  refine calls_abs fun R hR => ?_
  have hml : n ≤ maxLen := by obtain ⟨_, _, _, h1, h2, _⟩ := h; omega
  have H := Lib.hid h
  obtain ⟨ao, cap, rfl, h1, h2, h3, h4, h5⟩ := h
  have qT : ∀ (w : World) (a : Option Addr) (n c n' c' : Nat), (binOp .eql 28 (.slice a n c) (.slice none n' c')).run Try.prog w = .ok (.bool a.isNone) w := fun w a n c n' c' => Lib.run_eql_slice_nil w _ _ a n c n' c' Try.underlying28
  cases ao with
  | none =>
    obtain ⟨rfl, rfl, rfl⟩ := h3 rfl
    clear h1 h2 h3 h4 h5 H hb hml hl
    go_enter Try.func66, Try.ntmps66
    go_wp2
    exact hR.out _ _ ⟨_, rfl, Rd.nil _, Keep.refl _ _, by simp [Value.ownBlock]⟩
  | some a =>
    have HL := Lib.hid hl
    clear h1 h2 h3 h4 h5 hl
    go_enter Try.func66, Try.ntmps66
    go_wp2_with (at_builtin; go_loud (refine wpList_append_rd _ rfl _ _ _ rfl elem_int w.heap.size _ 0 [] rfl (World.ownsRow_lit w #[] 0 (Nat.le_refl _) (by simp [maxLen]) rfl) _ n cs rfl (H.out.keep ((Keep.refl [] w).alloc _) (by simp)) (by rw [HL.out]; omega) (by omega) (by omega) (by simp) ?_); intro ao' cap' w' ho hg)
    have hg' : World.grownBy _ w' (some w.heap.size) := hg
    exact hR.out _ _ ⟨_, rfl, by simpa using Rd.of_owns ho (by simpa using H.out.ones), ((Keep.refl [] w).alloc _).grown hg' (by simp), by have h := owns_block ho; rw [Nat.zero_add] at h; exact h⟩

theorem stack_all_nil (w : World) : Calls Try.prog 23 #[.pointer none] w fun e w' => e = .returned (.slice none 0 0) ∧ w' = w := by
  go_enter Try.func23, Try.ntmps23
  go_wp2
  go_ret
  exact ⟨rfl, rfl⟩

theorem Stk.rd {w : World} {b f s room : Nat} {L : List Int} {over : Bool} (h : Stk w b f s room L over) : Rd w (.slice (some ⟨s, 0, none⟩) L.length room) L.length (L.map (Value.int .i64)) := by
  obtain ⟨cur, hr, hcs, hc⟩ := h.row
  have hsm := h.small
  refine ⟨_, _, rfl, h.fits, by simp only [maxLen]; omega, by simp, by simp [Value.oneCell'], fun a ha => ?_⟩
  cases ha
  intro i u hu
  have hadd : (⟨s, 0, none⟩ : Addr).add i = ⟨s, i, none⟩ := by unfold Addr.add; split <;> simp_all
  rw [hadd, cell_at hr]
  rw [List.getElem?_map, Option.map_eq_some_iff] at hu
  obtain ⟨x, hx, rfl⟩ := hu
  exact hc i x hx

theorem stack_all {w : World} {b f s room : Nat} {L : List Int} {over : Bool} (h : Stk w b f s room L over) :
    Calls Try.prog 23 #[.pointer (some ⟨b, 0, none⟩)] w fun e w' => ∃ v', e = .returned v' ∧ Rd w' v' L.length (L.map (Value.int .i64)) ∧ Keep [] w w' ∧ (∀ g, v'.ownBlock = some g → w.heap.size ≤ g ∧ g < w'.heap.size) := by
  refine calls_abs fun R hR => ?_
  have c := cell_at h.head
  have hsm := h.small
  have hfit := h.fits
  have H := Lib.hid h
  clear h
  go_enter Try.func23, Try.ntmps23
  go_wp2_with (go_at_call 66; refine (clone_int H.out.rd (by simp) (by omega)).mono ?_; rintro e w' ⟨v', rfl, hv⟩; have HV := Lib.hid hv; clear hv)
  exact hR.out _ _ ⟨_, rfl, HV.out⟩

theorem stack_wakes (w : World) : Calls Try.prog 15 #[] w fun e w' => e = .returned (.bool true) ∧ Keep [] w w' := by
  refine calls_abs fun R hR => ?_
  go_enter Try.func15, Try.ntmps15
  go_wp2_with fail
  refine (stack_new 2 2 rfl (by omega) (by omega) _).mono ?_
  rintro e w1 ⟨b, f, s, rfl, S1, K1, hb, hf, hs⟩
  have HS1 := Lib.hid S1; have HK1 := Lib.hid K1; clear S1 K1
  go_wp2_with fail
  refine (stack_push HS1.out (by simp) 5).mono ?_
  rintro e w2 ⟨rfl, S2, K2⟩
  have HS2 := Lib.hid S2; have HK2 := Lib.hid K2; clear S2 K2
  go_wp2_with fail
  refine (stack_push HS2.out (by simp) 6).mono ?_
  rintro e w3 ⟨rfl, S3, K3⟩
  have HS3 := Lib.hid S3; have HK3 := Lib.hid K3; clear S3 K3
  go_wp2_with fail
  refine (stack_push_full HS3.out (by simp) 7).mono ?_
  rintro e w4 ⟨rfl, S4, K4⟩
  have HS4 := Lib.hid S4; have HK4 := Lib.hid K4; clear S4 K4
  go_wp2_with fail
  refine (stack_pop_some (L := [5]) (x := 6) HS4.out).mono ?_
  rintro e w5 ⟨rfl, S5, K5⟩
  have HS5 := Lib.hid S5; have HK5 := Lib.hid K5; clear S5 K5
  go_wp2_with fail
  refine (stack_over HS5.out).mono ?_
  rintro e w6 ⟨rfl, S6, K6⟩
  have HS6 := Lib.hid S6; have HK6 := Lib.hid K6; clear S6 K6
  go_wp2_with fail
  refine (stack_over HS6.out).mono ?_
  rintro e w7 ⟨rfl, S7, K7⟩
  have HS7 := Lib.hid S7; have HK7 := Lib.hid K7; clear S7 K7
  go_wp2_with fail
  refine (stack_len HS7.out).mono ?_
  rintro e w8 ⟨rfl, rfl⟩
  go_wp2_with fail
  refine hR.out _ _ ⟨rfl, ?_⟩
  have k := ((((((HK2.out.trans HK3.out).trans HK4.out).trans HK5.out).trans HK6.out).trans HK7.out))
  exact HK1.out.fresh k (by simp; omega)
end Go.Proofs.Ytgdbccficcgbdaa
