/- Layer 21 as the document says it: Heads. -/
import Derived.Test.YtnadiddaeolanaaRef21
namespace Go.Proofs.Ytnadiddaeolanaa
open Go.RowKit
set_option linter.unusedVariables false
set_option linter.unusedSimpArgs false

theorem enS_cases (l : Lay) (b : Nat) (c : Int) (hc : 0 ≤ c) : ∃ k d, enS c = ⟨k, d, 0, 0⟩ ∧ k ≠ 2 ∧ 0 ≤ k ∧ k ≤ 4 ∧ 0 ≤ d ∧ d ≤ 3 ∧ ((k = 1 ∧ d = c) ∨ (k ≠ 1 ∧ cellsAt l b c = [])) := by
  by_cases h4 : c = 4
  · subst h4; exact ⟨4, 0, rfl, by omega, by omega, by omega, by omega, by omega, .inr ⟨by omega, by unfold cellsAt; rw [startsC_none 4 (by omega)]; rfl⟩⟩
  by_cases h3 : 3 < c
  · exact ⟨0, 0, by unfold enS; rw [if_neg h4, if_pos h3]; rfl, by omega, by omega, by omega, by omega, by omega, .inr ⟨by omega, by unfold cellsAt; rw [startsC_none c (by omega)]; rfl⟩⟩
  · exact ⟨1, c, by unfold enS; rw [if_neg h4, if_neg h3], by omega, by omega, by omega, by omega, by omega, .inl ⟨rfl, rfl⟩⟩

set_option maxRecDepth 100000 in
set_option maxHeartbeats 8000000 in
theorem ref21_heads (n : Nat) (hn : n ≤ 6) (bl : List Int) (hb0 : ∀ k, 0 ≤ bl.getD k 0) (W : List Int) (hH : HeapW n bl W) (v : Value) (w : World) (hr : Rd w v W.length (u64s W)) :
    Calls Try.prog 63 #[v, (Lay.mk 1 2 n).val] w fun x w' => ∃ v, x = .returned v ∧ w'.ownsRow w.heap.size 3 1 v (allS ⟨1, 2, n⟩ bl n).length (intsV (allS ⟨1, 2, n⟩ bl n)) ∧ Keep [] w w' := by
  refine calls_abs fun R hR => ?_
  have mixed : Try.prog.follows .mixedOrders = true := by kernel_rfl
  obtain ⟨ab, capb, rfl, hcb1, hcb2⟩ := hr.shape
  have hl : (Lay.mk 1 2 n).fits := ⟨by dsimp only; omega, by dsimp only; omega, by dsimp only; omega⟩
  have hst := fun (b : Nat) (hb : b < n) => start_bd (Lay.mk 1 2 n) hl b hb
  have hstc := fun i w => ref06_start (Lay.mk 1 2 n) hl i w
  have henc := fun (b : Nat) (hb : b < n) w => ref06_entry (Lay.mk 1 2 n) hl b w
  have hei : ∀ b : Nat, b < n → (Lay.mk 1 2 n).entry b = ((6 + b : Nat) : Int) := fun b hb => by unfold Lay.entry spot; dsimp only; rw [if_pos (by omega)]; omega
  unfold Lay.val at hstc henc ⊢
  dsimp only at hstc henc ⊢
  push_cast at hstc henc ⊢
  have hlen := hH.len
  have hents := hH.ents; have hwords := hH.words
  obtain ⟨N, hN⟩ : ∃ N, N = W.length := ⟨_, rfl⟩
  rw [← hN] at hr hcb1 hlen ⊢
  have hlen2 : 6 + 33 * n ≤ N ∧ N ≤ 6 + 33 * n := by omega
  clear hlen
  have HR := Lib.hid hr; have HSB := Lib.hid hst; have HST := Lib.hid hstc; have HENC := Lib.hid henc; have HEI := Lib.hid hei; have HENT := Lib.hid hents; have HWD := Lib.hid hwords; have HN := Lib.hid hN
  clear hr hst hstc hl henc hei hents hwords hH hN
  obtain ⟨L, hL⟩ : ∃ L, L = Lay.mk 1 2 n := ⟨_, rfl⟩
  rw [← hL] at hR HSB HST HENC HEI
  have HL := Lib.hid hL
  clear hL
  go_enter Try.func63, Try.ntmps63
  go_wp2_with fail
  obtain ⟨z, hz⟩ : ∃ z, z = w.heap.size := ⟨_, rfl⟩
  simp only [← hz]
  generalize hw1 : World.alloc _ _ = w1
  have b1 : w1.heap[z]? = some (.cells #[.int .i64 1, .int .i64 2, .int .i64 n] 88 (0, 0)) := by rw [← hw1]; exact alloc_new _ _ _ hz
  have K1 : Keep [] w w1 := by rw [← hw1]; exact (by repeat (first | (with_reducible exact Keep.refl _ _) | (with_reducible refine Keep.drew ?_) | (with_reducible refine Keep.drewN ?_ _) | (with_reducible refine Keep.alloc ?_ _) | (with_reducible refine Keep.setCell ?_ (by first | (simp; done) | (simp; omega) | (left; dsimp only; omega)) _)))
  have hR1 := HR.out.keep K1 (fun _ _ => by simp)
  have HB1 := Lib.hid b1; have HK1 := Lib.hid K1; have HR1 := Lib.hid hR1; have HZ := Lib.hid hz
  have hs1 : w1.heap.size = z + 1 := by rw [← hw1, hz]; simp
  have HS1 := Lib.hid hs1
  clear hw1 b1 K1 hz hR1 hs1
  go_loopg [5, 6] n (fun j s i wr => ∃ (b : Nat) (ao : Option Addr) (cap : Nat), b + j = n ∧ i = .int .i64 b ∧ s = .slice ao (allS L bl b).length cap ∧ wr.ownsRow (z + 1) 3 1 (.slice ao (allS L bl b).length cap) (allS L bl b).length (intsV (allS L bl b)) ∧ Keep [] w1 wr)
  case atStart => exact ⟨0, none, 0, by omega, rfl, rfl, World.ownsRow_nil _ _ _ _, Keep.refl _ _⟩
  case round =>
    obtain ⟨b, ao, cap, hbj, rfl, rfl, how, hk⟩ := hrel
    by_cases hbn : b < n
    · have i1 : (b : Int) < n := by omega
      have i0 : (0 : Int) ≤ (b : Int) := by omega
      have hr2 := HR1.out.keep hk (fun _ _ => by simp)
      obtain ⟨a, o, rfl, hlt, hcells⟩ := hr2.some (by rw [u64s_len, ← HN.out]; omega)
      have h6 : 6 + b < W.length := by rw [← HN.out]; omega
      have hri : rdz W ((6 + b : Nat) : Int) = W.getD (6 + b) 0 := by rw [rdz_nat h6, List.getD_eq_getElem?_getD, List.getElem?_eq_getElem h6]; rfl
      have hcell := hcells (6 + b) (.int .u64 (rdz W ((6 + b : Nat) : Int))) (by rw [hri]; simp [u64s, h6])
      have hxb := HWD.out ((6 + b : Nat) : Int)
      have htk := fun w => ref05_take (rdz W ((6 + b : Nat) : Int)) hxb w
      obtain ⟨er, her⟩ : ∃ er : Int, er = if isEn (rdz W ((6 + b : Nat) : Int)) then 0 else 3 := ⟨_, rfl⟩
      rw [← her] at htk
      rw [HENT.out b hbn, (enS_take _ (hb0 b)).1] at htk
      rw [HENT.out b hbn] at hcell
      have hsb := HSB.out b (by omega)
      have hsucc := allS_succ L bl b
      have hnl := allS_len L bl b
      have hstart := fun w => HST.out b w
      have henc := fun w => HENC.out b hbn w
      rw [HEI.out b hbn] at henc
      obtain ⟨ek, ec, hes, hk2, hk0, hk4, hd0, hd3, hcase⟩ := enS_cases L b (bl.getD b 0) (hb0 b)
      generalize (enS (bl.getD b 0)).word = xw at htk hcell
      rw [hes] at htk
      unfold En.val at htk
      dsimp only at htk
      generalize bl.getD b 0 = c at *
      have h6n : ((6 + b : Nat) : Int) < N := by omega
      have h60 : (0 : Int) ≤ ((6 + b : Nat) : Int) := by omega
      have ek2 : (ek == 2) = false := by simp [hk2]
      have hb := hk.get HB1.out (by simp)
      have cz := cell_at hb; have lz := lt_of_block hb
      have HTK := Lib.hid htk; have HENQ := Lib.hid henc; have HSU := Lib.hid hsucc; have HSC := Lib.hid hstart; have HOW := Lib.hid how; have HK := Lib.hid hk
      generalize hpl : 6 + b = pl at *
      clear htk henc hsucc hstart how hk hr2 hcells hes hri her hxb hpl hb
      generalize hNa : (allS L bl b).length = Na at *
      have HNA := Lib.hid hNa
      clear hNa
      have hcw : IntKind.i64.wrap ec = ec := by rw [IntKind.wrap_i64]; omega
      go_wp2_with fail
      refine (HENQ.out wr).mono ?_
      rintro e w2 ⟨rfl, K2⟩
      have hcell2 := K2.cell hcell (by simp)
      have HK2 := Lib.hid (HK.out.trans K2); have HOW2 := Lib.hid (K2.owns HOW.out (fun _ _ => by simp))
      clear K2 hcell cz lz
      go_wp2_with fail
      refine (HTK.out w2).mono ?_
      rintro e w3 ⟨rfl, K3⟩
      have HK3 := Lib.hid (HK2.out.trans K3); have HOW3 := Lib.hid (K3.owns HOW2.out (fun _ _ => by simp))
      clear K3 hcell2
      go_wp2_with fail
      obtain ⟨ze, hze⟩ : ∃ y, y = w3.heap.size := ⟨_, rfl⟩
      simp only [← hze]
      generalize hw4 : World.alloc _ _ = w4
      have bze : w4.heap[ze]? = some (.cells #[.int .u8 ek, .int .u8 ec, .int .u8 0, .int .u8 0] 61 (0, 0)) := by rw [← hw4]; exact alloc_new _ _ _ hze
      have K4 : Keep [] w3 w4 := by rw [← hw4]; exact (by repeat (first | (with_reducible exact Keep.refl _ _) | (with_reducible refine Keep.drew ?_) | (with_reducible refine Keep.drewN ?_ _) | (with_reducible refine Keep.alloc ?_ _) | (with_reducible refine Keep.setCell ?_ (by first | (simp; done) | (simp; omega) | (left; dsimp only; omega)) _)))
      have HBZE := Lib.hid bze
      have HK4 := Lib.hid (HK3.out.trans K4); have HOW4 := Lib.hid (K4.owns HOW3.out (fun _ _ => by simp))
      have hzow : ∀ g, (Value.slice ao Na cap).ownBlock = some g → g ≠ ze := fun g hg e => by have := (owns_block HOW3.out g hg).2; omega
      have HZOW := Lib.hid hzow
      clear hw4 K4 hzow bze hze
      have hstcc := fun w => ref03_starts ec w
      rcases hcase with ⟨hek, hec⟩ | ⟨hk1, hca⟩
      · subst hek
        subst hec
        have hcl := cellsAt_len L b ec
        have hcb := cellsC_le ec
        have hin := fun (i : Nat) (h : i < cellsC ec) => (show (startsC ec)[i]? = some ((i : Int) * wordsC ec) ∧ (cellsAt L b ec)[i]? = some (L.start b + (i : Int) * wordsC ec) ∧ 0 ≤ (i : Int) * wordsC ec ∧ (i : Int) * wordsC ec ≤ 32 by
          have h1 := startsC_get ec i h
          have h2 := startsC_bd ec _ (List.mem_of_getElem? h1)
          have h3 := wordsC_bd ec
          exact ⟨h1, by unfold cellsAt; rw [List.getElem?_map, h1]; rfl, h2.1, by omega⟩)
        have hsl := startsC_len ec
        generalize startsC ec = sc at *
        generalize cellsAt L b ec = ca at *
        generalize cellsC ec = C at *
        generalize L.start b = st at *
        have HSTC := Lib.hid hstcc; have HSL := Lib.hid hsl; have HCL := Lib.hid hcl; have HIN := Lib.hid hin
        clear hstcc hsl hcl hin
        refine (HSTC.out w4).mono ?_
        rintro e w5 ⟨vs, rfl, hos, K5⟩
        have hrs := Rd.of_owns hos (by intro u hu; obtain ⟨x, _, rfl⟩ := List.mem_map.1 hu; rfl)
        have hvs := owns_block hos
        obtain ⟨asl, caps, rfl, -, -⟩ := owns_val hos
        have how5 := K5.owns HOW4.out (fun _ _ => by simp)
        have hob := owns_block HOW4.out
        have HOW5 := Lib.hid how5; have HK5 := Lib.hid (HK4.out.trans K5); have HRS := Lib.hid hrs; have HVS := Lib.hid hvs; have HOB := Lib.hid hob; have HBZ5 := Lib.hid (K5.get HBZE.out (by simp))
        clear hos hrs hvs K5 how5 hob
        go_wp2_with fail
        go_loopg [5, 10] C (fun j s i wq => ∃ (q : Nat) (ao : Option Addr) (cap : Nat), q + j = C ∧ i = .int .i64 q ∧ s = .slice ao (Na + q) cap ∧ wq.ownsRow (z + 1) 3 1 (.slice ao (Na + q) cap) (Na + q) (intsV (allS L bl b ++ ca.take q)) ∧ Keep [] w1 wq ∧ Rd wq (.slice asl C caps) C (intsV sc) ∧ (∀ g, (Value.slice ao (Na + q) cap).ownBlock = some g → (Value.slice asl C caps).ownBlock ≠ some g ∧ g ≠ ze) ∧ wq.heap[ze]? = some (.cells #[.int .u8 1, .int .u8 ec, .int .u8 0, .int .u8 0] 61 (0, 0)))
        case atStart => exact ⟨0, ao, cap, by omega, rfl, rfl, by simpa using HOW5.out, HK5.out, HRS.out, fun g hg => ⟨fun he => by have h1 := (HVS.out g he).1; have h2 := (HOB.out g hg).2; omega, HZOW.out g hg⟩, HBZ5.out⟩
        case round =>
          clear HOW5 HK5 HRS HBZ5 HOW HOW2 HOW3 HOW4 HK HK2 HK3 HK4
          obtain ⟨q, ao, cap, hqj, rfl, rfl, how, hk, hrs, hne, hbz⟩ := hrel
          have cze := cell_at hbz; have lze := lt_of_block hbz
          by_cases hqC : q < C
          · obtain ⟨e1, e2, e3, e4⟩ := HIN.out q hqC
            have j1 : (q : Int) < C := by omega
            have j0 : (0 : Int) ≤ (q : Int) := by omega
            obtain ⟨gs, os, rfl, hgl, hgc⟩ := hrs.some (by rw [intsV_len, HSL.out]; omega)
            have hgq := hgc q _ (by rw [intsV_get, e1]; rfl)
            have htk : ca.take (q + 1) = ca.take q ++ [st + (q : Int) * wordsC ec] := by rw [List.take_add_one, e2]; rfl
            have hb2 := hk.get HB1.out (by simp)
            have c2 := cell_at hb2; have l2 := lt_of_block hb2
            have D0 : Hid (wr.cell? ⟨z, 0, none⟩ = some (.int .i64 1)) := by rw [Hid, c2]; rfl
            have D1 : Hid (wr.cell? ⟨z, 1, none⟩ = some (.int .i64 2)) := by rw [Hid, c2]; rfl
            have D2 : Hid (wr.cell? ⟨z, 2, none⟩ = some (.int .i64 n)) := by rw [Hid, c2]; rfl
            have D3 : Hid (wr.cell? ⟨gs, os + q, none⟩ = some (.int .i64 ((q : Int) * wordsC ec))) := hgq
            have hnz : z ∉ (Value.slice ao (Na + q) cap).ownBlock.toList := fun hm => by have := (owns_block how z (by simpa using hm)).1; omega
            have hns : gs ∉ (Value.slice ao (Na + q) cap).ownBlock.toList := fun hm => (hne gs (by simpa using hm)).1 rfl
            have hnze : ze ∉ (Value.slice ao (Na + q) cap).ownBlock.toList := fun hm => (hne ze (by simpa using hm)).2 rfl
            have hoq := owns_block how
            have hsz := hk.size
            have HOW3 := Lib.hid how; have HK3 := Lib.hid hk; have HRS3 := Lib.hid hrs; have HNE := Lib.hid hne; have HTK := Lib.hid htk; have HNZ := Lib.hid hnz; have HNS := Lib.hid hns; have HNZE := Lib.hid hnze; have HOQ := Lib.hid hoq; have HGL := Lib.hid hgl; have HBZ := Lib.hid hbz; have HLZE := Lib.hid lze
            clear how hk hrs hne htk hnz hns hnze hoq hgc hgq c2 hb2 e1 e2 hgl hbz
            generalize (q : Int) * wordsC ec = si at *
            have w1' : IntKind.i64.wrap (st + si) = st + si := by rw [IntKind.wrap_i64]; omega
            have hNq200 : Na + q ≤ 200 := by omega
            generalize hNq : Na + q = Mq at *
            have HNQ := Lib.hid hNq
            clear hNq
            go_wp2_with fail
            first
            | (go_region_held3 (fun w' => w'.cell? ⟨z, 0, none⟩ = some (.int .i64 1) ∧ w'.cell? ⟨z, 1, none⟩ = some (.int .i64 2) ∧ w'.cell? ⟨z, 2, none⟩ = some (.int .i64 n) ∧ w'.cell? ⟨gs, os + q, none⟩ = some (.int .i64 si))
                (first
                  | (refine ⟨Keep.cell (S := []) (w := wr) ?_ D0.out (by simp), Keep.cell (S := []) (w := wr) ?_ D1.out (by simp), Keep.cell (S := []) (w := wr) ?_ D2.out (by simp), Keep.cell (S := []) (w := wr) ?_ D3.out (by simp)⟩; all_goals (((repeat (first | (with_reducible exact Keep.refl _ _) | (with_reducible refine Keep.drew ?_) | (with_reducible refine Keep.drewN ?_ _) | (with_reducible refine Keep.alloc ?_ _) | ((with_reducible refine Keep.setCell ?_ ?_ _); rotate_left; focus (first | (simp; done) | (simp; omega) | (left; dsimp only; omega))))); done)))
                  | (refine ⟨Keep.cell (S := []) (w := wr) ?_ D0.out (by simp), Keep.cell (S := []) (w := wr) ?_ D1.out (by simp), Keep.cell (S := []) (w := wr) ?_ D2.out (by simp), Keep.cell (S := []) (w := wr) ?_ D3.out (by simp)⟩; all_goals (((repeat (first | (with_reducible exact HK5.out) | (with_reducible refine Keep.drew ?_) | (with_reducible refine Keep.drewN ?_ _) | (with_reducible refine Keep.alloc ?_ _) | ((with_reducible refine Keep.setCell ?_ ?_ _); rotate_left; focus (first | (simp; done) | (simp; omega) | (left; dsimp only; omega))))); done)))
                  | (refine ⟨Keep.cell (S := (Value.slice ao Mq cap).ownBlock.toList) (w := wr) ?_ D0.out HNZ.out, Keep.cell (S := (Value.slice ao Mq cap).ownBlock.toList) (w := wr) ?_ D1.out HNZ.out, Keep.cell (S := (Value.slice ao Mq cap).ownBlock.toList) (w := wr) ?_ D2.out HNZ.out, Keep.cell (S := (Value.slice ao Mq cap).ownBlock.toList) (w := wr) ?_ D3.out HNS.out⟩; all_goals (((repeat (first | (with_reducible exact HK6.out) | (with_reducible refine Keep.drew ?_) | (with_reducible refine Keep.drewN ?_ _) | (with_reducible refine Keep.alloc ?_ _) | ((with_reducible refine Keep.setCell ?_ ?_ _); rotate_left; focus (first | (simp; done) | (simp; omega) | (left; dsimp only; omega))))); done))))
                (first
                  | (go_at_call 108; refine (HSC.out _).mono ?_; rintro e w5 ⟨rfl, K5⟩; have HK5 := Lib.hid (show Keep [] wr w5 from by refine Keep.trans (a := wr) ?_ K5; ((repeat (first | (with_reducible exact Keep.refl _ _) | (with_reducible refine Keep.drew ?_) | (with_reducible refine Keep.drewN ?_ _) | (with_reducible refine Keep.alloc ?_ _) | ((with_reducible refine Keep.setCell ?_ ?_ _); rotate_left; focus (first | (simp; done) | (simp; omega) | (left; dsimp only; omega))))); done)); clear K5)
                  | (refine step_append_rd2 _ (by rfl) _ _ _ (by rfl) elem_int (z + 1) (.slice ao Mq cap) Mq (intsV (allS L bl b ++ ca.take q)) (by rfl) ((show Keep [] wr _ from by ((repeat (first | (with_reducible exact HK5.out) | (with_reducible refine Keep.drew ?_) | (with_reducible refine Keep.drewN ?_ _) | (with_reducible refine Keep.alloc ?_ _) | ((with_reducible refine Keep.setCell ?_ ?_ _); rotate_left; focus (first | (simp; done) | (simp; omega) | (left; dsimp only; omega))))); done)).owns HOW3.out (fun _ _ => by simp)) _ 1 [.int .i64 (st + si)] (by rfl) (Rd.one (alloc_new _ _ _ (by simp)) rfl) (by simp) (by simp only [maxLen]; omega) (by omega) (by have := HK5.out.size; simp; omega) ?_; intro ao' cap' w6 ho hg hwh; have HK6 := Lib.hid (show Keep (Value.slice ao Mq cap).ownBlock.toList wr w6 from Keep.grown (w := World.alloc w5 _) (by ((repeat (first | (with_reducible exact HK5.out.mono (by simp)) | (with_reducible refine Keep.drew ?_) | (with_reducible refine Keep.drewN ?_ _) | (with_reducible refine Keep.alloc ?_ _) | ((with_reducible refine Keep.setCell ?_ ?_ _); rotate_left; focus (first | (simp; done) | (simp; omega) | (left; dsimp only; omega))))); done)) hg (fun g hg => .inr (by simpa using hg))); have HO6 := Lib.hid ho; have HWH := Lib.hid hwh; clear ho hg hwh)))
            | fail
            all_goals (
              have hk6 := HK3.out.fresh HK6.out (fun x hx => .inl (by have := (HOQ.out x (by simpa using hx)).1; have := HS1.out; omega))
              have hbz6 := HK6.out.get HBZ.out HNZE.out
              have HK6' := Lib.hid hk6; have HBZ6 := Lib.hid hbz6
              clear hk6 hbz6 cze lze
              go_wp2_with fail
              go_roundg (C - (q + 1))
              case measure => omega
              case rel =>
                refine ⟨q + 1, ao', cap', by omega, by go_num, by rw [← HNQ.out]; rfl, ?_, HK6'.out, ?_, ?_, HBZ6.out⟩
                · have h := HO6.out
                  rw [← HNQ.out] at h
                  rw [HTK.out, ← List.append_assoc, show Na + (q + 1) = Na + q + 1 from by omega]
                  simpa [intsV] using h
                · exact HRS3.out.keep HK6.out (fun g hg => by cases hg; exact HNS.out)
                · intro g hg
                  rcases HWH.out g (by rw [← HNQ.out]; exact hg) with h | h
                  · exact HNE.out g h
                  · have h3 := HK5.out.size
                    simp at h
                    refine ⟨fun he => ?_, fun he => ?_⟩
                    · cases he
                      have h4 : w5.heap.size + 1 ≤ gs := h
                      have h2 := HGL.out; omega
                    · have h2 := HLZE.out; omega)
          · obtain rfl : q = C := by omega
            have htk : ca.take q = ca := by rw [← HCL.out]; exact List.take_length
            rw [htk] at how
            have HOW3 := Lib.hid how; have HK3 := Lib.hid hk
            clear how hk htk hrs hne hbz
            go_wp2_with fail
            go_roundg (n - (b + 1))
            case measure => omega
            case rel =>
              have hl : (allS L bl (b + 1)).length = Na + q := by rw [HSU.out, List.length_append, HCL.out, HNA.out]
              exact ⟨b + 1, ao, cap, by omega, by go_num, by rw [hl], by rw [hl, HSU.out]; exact HOW3.out, HK3.out⟩
      · have hk1f : (ek == 1) = false := by simp [hk1]
        rw [hca, List.append_nil] at HSU
        have HSTC := Lib.hid hstcc
        have hC := cellsC_le ec
        generalize cellsC ec = C at *
        generalize startsC ec = sc at *
        clear hstcc
        refine (HSTC.out w4).mono ?_
        rintro e w5 ⟨vs, rfl, hos, K5⟩
        obtain ⟨asl, caps, rfl, -, -⟩ := owns_val hos
        have HOW5 := Lib.hid (K5.owns HOW4.out (fun _ _ => by simp)); have HK5 := Lib.hid (HK4.out.trans K5); have hbz := K5.get HBZE.out (by simp)
        have cze := cell_at hbz; have lze := lt_of_block hbz
        clear hos K5 hbz
        by_cases hC0 : 0 < C
        · have g1 : (0 : Int) < C := by omega
          go_wp2_with fail
          go_loopg [5, 10] 0 (fun j s i wq => i = .int .i64 0 ∧ s = .slice ao Na cap ∧ wq = w5)
          case atStart => exact ⟨rfl, rfl, rfl⟩
          case round =>
            obtain ⟨rfl, rfl, rfl⟩ := hrel
            go_wp2_with fail
            go_roundg (n - (b + 1))
            case measure => omega
            case rel =>
              have hl : (allS L bl (b + 1)).length = Na := by rw [HSU.out, HNA.out]
              exact ⟨b + 1, ao, cap, by omega, by go_num, by rw [hl], by rw [hl, HSU.out]; exact HOW5.out, HK5.out⟩
        · obtain rfl : C = 0 := by omega
          go_wp2_with fail
          go_loopg [5, 10] 0 (fun j s i wq => i = .int .i64 0 ∧ s = .slice ao Na cap ∧ wq = w5)
          case atStart => exact ⟨rfl, rfl, rfl⟩
          case round =>
            obtain ⟨rfl, rfl, rfl⟩ := hrel
            go_wp2_with fail
            go_roundg (n - (b + 1))
            case measure => omega
            case rel =>
              have hl : (allS L bl (b + 1)).length = Na := by rw [HSU.out, HNA.out]
              exact ⟨b + 1, ao, cap, by omega, by go_num, by rw [hl], by rw [hl, HSU.out]; exact HOW5.out, HK5.out⟩
    · obtain rfl : b = n := by omega
      have hb := hk.get HB1.out (by simp)
      have cz := cell_at hb; have lz := lt_of_block hb
      have HOW3 := Lib.hid how; have HK3 := Lib.hid hk
      clear how hk hb
      go_wp2_with fail
      refine hR.out _ _ ⟨_, rfl, ?_, HK1.out.trans HK3.out⟩
      exact owns_base HOW3.out (by have := HZ.out; omega)
end Go.Proofs.Ytnadiddaeolanaa
