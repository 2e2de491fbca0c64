/- Layer 21 as the document says it: Shade, Roots. -/
import Derived.Test.YtnadiddaeolanaaWakes21
namespace Go.Proofs.Ytnadiddaeolanaa
open Go.RowKit
set_option linter.unusedVariables false
set_option linter.unusedSimpArgs false

/-- A value that lies where another one lay, or in what is new. -/
def From (w : World) (v v' : Value) : Prop := ∀ q, v'.ownBlock = some q → v.ownBlock = some q ∨ w.heap.size ≤ q
theorem From.refl (w : World) (v : Value) : From w v v := fun _ h => .inl h
theorem From.trans {w w' : World} {v u v' : Value} (h : From w v u) (k : From w' u v') (hs : w.heap.size ≤ w'.heap.size) : From w v v' := fun q hq => by
  rcases k q hq with h1 | h1
  · exact h q h1
  · exact .inr (by omega)
theorem From.new {w : World} {v : Value} {g n cap : Nat} (h : w.heap.size ≤ g) : From w v (.slice (some ⟨g, 0, none⟩) n cap) := fun q hq => by
  cases hq; exact .inr h

set_option maxRecDepth 100000 in
set_option maxHeartbeats 8000000 in
theorem ref21_shade {w : World} {v : Value} {W : List Int} (hr : Rd w v W.length (u64s W)) (hW : Words W) (hsm : 1 ≤ W.length ∧ W.length ≤ 4096) (x c : Int) (hx : 0 ≤ x ∧ x < 18446744073709551616) (hc : 0 ≤ c ∧ c ≤ 255) :
    Calls Try.prog 117 #[v, .int .u64 x, .int .u8 c] w fun e w' => ∃ v', e = .returned v' ∧ Rd w' v' W.length (u64s (shadeW W x c)) ∧ Keep [] w w' ∧ From w v v' := by
  refine calls_abs fun R hR => ?_
  obtain ⟨ao, cap, rfl, hc1, hc2⟩ := hr.shape
  have hl64 : IntKind.u64.wrap (W.length : Int) = W.length := by rw [IntKind.wrap_u64]; omega
  by_cases hxl : (W.length : Int) ≤ x
  · have hs : shadeW W x c = W := by
      unfold shadeW putz
      rw [if_neg (by unfold inr; simp; omega)]
    rw [hs] at hR
    have g1 : decide ((W.length : Int) ≤ x) = true := by simp; omega
    have HR := Lib.hid hr
    clear hs hr hW
    generalize W.length = N at *
    go_enter Try.func117, Try.ntmps117
    go_wp2_with fail
    exact hR.out _ _ ⟨_, rfl, HR.out, Keep.refl _ _, From.refl _ _⟩
  · have g1 : decide ((W.length : Int) ≤ x) = false := by simp; omega
    obtain ⟨i, rfl⟩ : ∃ i : Nat, x = i := ⟨x.toNat, by omega⟩
    have hiW : i < W.length := by omega
    have hs : shadeW W i c = W.set i (shadeOf (rdz W i) c) := putz_nat hiW _
    rw [hs] at hR
    have hsh := fun w => ref13_shaded (rdz W i) c (hW i) hc w
    have hso : shadeOf (rdz W i) c = if tellOf (rdz W i) c = 1 then turnedOf (rdz W i) c true else rdz W i := rfl
    rw [← hso] at hsh
    have hri : rdz W i = W.getD i 0 := by rw [rdz_nat hiW, List.getD_eq_getElem?_getD, List.getElem?_eq_getElem hiW]; rfl
    obtain ⟨a, o, rfl, hal, hac⟩ := hr.some (by rw [u64s_len]; omega)
    have hcell := hac i (.int .u64 (rdz W i)) (by rw [hri]; simp [u64s, hiW])
    have i1 : (i : Int) < W.length := by omega
    have i0 : (0 : Int) ≤ (i : Int) := by omega
    generalize hV : W.set i (shadeOf (rdz W i) c) = V at *
    have HV := Lib.hid hV
    obtain ⟨by_, hby⟩ : ∃ b, b = decide (tellOf (rdz W i) c = 1 ∨ tellOf (rdz W i) c = 2) := ⟨_, rfl⟩
    rw [← hby] at hsh
    generalize shadeOf (rdz W i) c = y at *
    generalize rdz W i = xw at *
    have HSH := Lib.hid hsh; have HR := Lib.hid hr; have HC := Lib.hid hcell
    clear hsh hr hs hso hri hac hV hby hW
    obtain ⟨N, hN⟩ : ∃ N, N = W.length := ⟨_, rfl⟩
    rw [← hN] at hsm hc1 hl64 hxl g1 hiW i1 ⊢
    have HN := Lib.hid hN
    have hR1 := HR.out
    rw [← hN] at hR1
    rw [← hN] at hR
    have HRN := Lib.hid hR1
    clear hR1 hN HR
    go_enter Try.func117, Try.ntmps117
    go_wp2_with (at_builtin; go_loud (refine wpList_append_nil _ rfl _ _ _ rfl elem_u64 w.heap.size rfl _ N (u64s W) rfl HRN.out (by rw [u64s_len]; have := HN.out; omega) (by simp only [maxLen]; omega) (by omega) (by omega) ?_); intro ao' cap' w2 ho hg; go_loud (have hK2 : Keep [] w w2 := Keep.grown (Keep.refl _ _) hg (by simp); have HO2 := Lib.hid ho; have HK2 := Lib.hid hK2; have hc2' := hK2.cell HC.out (by simp); clear ho hK2 hg))
    refine (HSH.out w2).mono ?_
    rintro e w3 ⟨rfl, K3⟩
    have ho3 := K3.owns HO2.out (fun _ _ => by simp)
    obtain ⟨q, cap2, hao, hq0, hq00, hq1, hq2, hqc, hfr⟩ := owns_some ho3 (by omega)
    cases hao
    have HO3 := Lib.hid ho3; have HK3 := Lib.hid (HK2.out.trans K3)
    have hiW' : i < W.length := by rw [← HN.out]; exact hiW
    have hcq := hqc i _ (by rw [u64s_get, List.getElem?_eq_getElem hiW']; rfl)
    generalize W[i] = old at hcq
    have HQ1 := Lib.hid hq1
    clear hqc K3 ho3 hc2' hq1
    go_wp2_with fail
    have hK4 : Keep [] w (w3.setCell ⟨q, i, none⟩ (.int .u64 y)) := HK3.out.setCell (p := ⟨q, i, none⟩) (.inl HQ1.out) _
    refine hR.out _ _ ⟨_, rfl, Rd.of_owns (base := w.heap.size) (e := 27) (size := 1) ?_ (by intro u hu; obtain ⟨x, _, rfl⟩ := List.mem_map.1 hu; rfl), hK4, From.new HQ1.out⟩
    have h := owns_put HO3.out (k := i) hiW (.int .u64 y)
    have he : u64s V = (u64s W).set i (.int .u64 y) := by rw [← HV.out]; simp [u64s, List.map_set]
    rw [he]
    exact h

theorem rootsW_len (c : Int) (l : Lay) (n : Nat) (W : List Int) : (rootsW c l n W).length = W.length := by
  induction n with
  | zero => rfl
  | succ n ih =>
    rw [rootsW_succ]
    unfold rootW
    split
    · exact ih
    · rw [shadeW_len]; exact ih
theorem global_is (l : Lay) (i : Nat) (h : i < l.g) : l.global i = ((3 + l.t + i : Nat) : Int) := by
  unfold Lay.global spot; rw [if_pos (by omega)]; omega

set_option maxRecDepth 100000 in
set_option maxHeartbeats 8000000 in
theorem ref21_roots {w : World} {v : Value} {W : List Int} (hr : Rd w v W.length (u64s W)) (hW : Words W) (l : Lay) (hl : l.fits) (hfit : 3 + l.t + l.g ≤ W.length) (hsm : 1 ≤ W.length ∧ W.length ≤ 4096) (c : Int) (hc : 0 ≤ c ∧ c ≤ 255) :
    Calls Try.prog 67 #[v, l.val, .int .u8 c] w fun e w' => ∃ v', e = .returned v' ∧ Rd w' v' W.length (u64s (rootsW c l l.g W)) ∧ Keep [] w w' ∧ From w v v' := by
  refine calls_abs fun R hR => ?_
  have hgl := fun i w => ref06_global l hl i w
  have hgi := fun i h => global_is l i h
  have hok := fun q => rootsW_ok hW c l q hc
  have hsu := fun q => rootsW_succ c l q W
  unfold rootW at hsu
  have hg8 := hl.2.1
  obtain ⟨lt, lg, lb⟩ := l
  unfold Lay.val at hgl ⊢
  dsimp only at *
  have HR := Lib.hid hr; have HGL := Lib.hid hgl; have HGI := Lib.hid hgi; have HOK := Lib.hid hok; have HSU := Lib.hid hsu; have HSM := Lib.hid hsm; have HFIT := Lib.hid hfit
  clear hr hgl hgi hok hsu hl hW
  go_enter Try.func67, Try.ntmps67
  go_wp2_with fail
  obtain ⟨z, hz⟩ : ∃ z, z = w.heap.size := ⟨_, rfl⟩
  simp only [← hz]
  generalize hw1 : World.alloc _ _ = w1
  have b1 : w1.heap[z]? = some (.cells #[.int .i64 lt, .int .i64 lg, .int .i64 lb] 88 (0, 0)) := by rw [← hw1]; exact alloc_new _ _ _ hz
  have K1 : Keep [] w w1 := by rw [← hw1]; exact (by repeat (first | (with_reducible exact Keep.refl _ _) | (with_reducible refine Keep.drew ?_) | (with_reducible refine Keep.drewN ?_ _) | (with_reducible refine Keep.alloc ?_ _) | (with_reducible refine Keep.setCell ?_ (by first | (simp; done) | (simp; omega) | (left; dsimp only; omega)) _)))
  have HB1 := Lib.hid b1; have HK1 := Lib.hid K1; have HR1 := Lib.hid (HR.out.keep K1 (fun _ _ => by simp))
  clear hw1 b1 K1 hz
  go_loopg [0, 7] lg (fun j u i wr => ∃ q : Nat, q + j = lg ∧ i = .int .i64 q ∧ Rd wr u W.length (u64s (rootsW c ⟨lt, lg, lb⟩ q W)) ∧ Keep [] w1 wr ∧ From w v u)
  case atStart => exact ⟨0, by omega, rfl, HR1.out, Keep.refl _ _, From.refl _ _⟩
  case round =>
    obtain ⟨q, hqj, rfl, hr, hk, hfr⟩ := hrel
    have HFR := Lib.hid hfr
    clear hfr
    obtain ⟨ao, cap, rfl, hc1, hc2⟩ := hr.shape
    have hb := hk.get HB1.out (by simp)
    have cz := cell_at hb; have lz := lt_of_block hb
    by_cases hqn : q < lg
    · have i1 : (q : Int) < lg := by omega
      obtain ⟨hwq, hlq⟩ := HOK.out q
      have hsq := HSU.out q
      have hgi := HGI.out q hqn
      rw [hgi] at hsq
      have hgl := fun w => HGL.out q w
      rw [hgi] at hgl
      generalize rootsW c ⟨lt, lg, lb⟩ q W = V at *
      have hpV : 3 + lt + q < V.length := by have := HFIT.out; omega
      obtain ⟨a, o, rfl, hal, hac⟩ := hr.some (by rw [u64s_len]; omega)
      have hri : rdz V ((3 + lt + q : Nat) : Int) = V.getD (3 + lt + q) 0 := by rw [rdz_nat hpV, List.getD_eq_getElem?_getD, List.getElem?_eq_getElem hpV]; rfl
      have hcell := hac (3 + lt + q) (.int .u64 (rdz V ((3 + lt + q : Nat) : Int))) (by rw [hri]; simp [u64s, hpV])
      have hxb := hwq ((3 + lt + q : Nat) : Int)
      have j1 : ((3 + lt + q : Nat) : Int) < W.length := by have := HFIT.out; omega
      have j0 : (0 : Int) ≤ ((3 + lt + q : Nat) : Int) := by omega
      have hsd := fun (w' : World) (k : Keep [] wr w') => ref21_shade (v := .slice (some ⟨a, o, none⟩) W.length cap) (by rw [hlq]; exact hr.keep k (fun _ _ => by simp)) hwq (by have := HSM.out; omega) (rdz V ((3 + lt + q : Nat) : Int)) c hxb hc
      generalize rdz V ((3 + lt + q : Nat) : Int) = x at *
      generalize hpl : 3 + lt + q = pl at *
      rw [hlq] at hsd
      have HSD := Lib.hid hsd; have HGQ := Lib.hid hgl; have HK := Lib.hid hk; have HRQ := Lib.hid hr; have HSQ := Lib.hid hsq; have HBQ := Lib.hid hb; have HC := Lib.hid hcell
      obtain ⟨N, hN⟩ : ∃ N, N = W.length := ⟨_, rfl⟩
      have HN := Lib.hid hN
      rw [← hN] at j1 ⊢
      clear hsd hgl hk hr hsq hac hri hgi hwq hlq hb hpl hN
      go_wp2_with fail
      refine (HGQ.out wr).mono ?_
      rintro e w2 ⟨rfl, K2⟩
      have hc2' := K2.cell HC.out (by simp)
      have hb2 := K2.get HBQ.out (by simp)
      have cz := cell_at hb2; have lz := lt_of_block hb2
      have HK2 := Lib.hid K2; have HB2 := Lib.hid hb2
      clear hcell K2 hb2
      by_cases hv : x = 0
      · have hs2 : Hid (rootsW c ⟨lt, lg, lb⟩ (q + 1) W = V) := by have := HSQ.out; rwa [if_pos hv] at this
        subst hv
        go_wp2_with fail
        go_roundg (lg - (q + 1))
        case measure => omega
        case rel => exact ⟨q + 1, by omega, by go_num, by rw [hs2.out, HN.out]; exact HRQ.out.keep HK2.out (fun _ _ => by simp), HK.out.trans HK2.out, HFR.out⟩
      · have hv1 : (x == 0) = false := by simp [hv]
        have hv2 : (x != 0) = true := by simp [hv]
        have hs2 : Hid (rootsW c ⟨lt, lg, lb⟩ (q + 1) W = shadeW V x c) := by have := HSQ.out; rw [if_neg hv] at this; exact this
        clear hv
        go_wp2_with fail
        refine (HGQ.out w2).mono ?_
        rintro e w3 ⟨rfl, K3⟩
        have hc3 := K3.cell hc2' (by simp)
        have HK3 := Lib.hid (HK2.out.trans K3)
        clear K3 cz lz
        go_wp2_with fail
        have hsd2 := HSD.out w3 HK3.out
        rw [← HN.out] at hsd2
        refine hsd2.mono ?_
        clear hsd2
        rintro e w4 ⟨v4, rfl, R4, K4, F4⟩
        have HF4 := Lib.hid (HFR.out.trans F4 (by have h1 := HK1.out.size; have h2 := HK.out.size; have h3 := HK3.out.size; omega))
        clear F4
        have HR4 := Lib.hid R4; have HK4 := Lib.hid ((HK.out.trans HK3.out).trans K4)
        clear R4 K4 hc3 hc2'
        go_wp2_with fail
        go_roundg (lg - (q + 1))
        case measure => omega
        case rel => exact ⟨q + 1, by omega, by go_num, by rw [hs2.out, ← HN.out]; exact HR4.out, HK4.out, HF4.out⟩
    · obtain rfl : q = lg := by omega
      have HRQ := Lib.hid hr; have HK := Lib.hid hk
      clear hr hk hb
      go_wp2_with fail
      exact hR.out _ _ ⟨_, rfl, HRQ.out, HK1.out.trans HK.out, HFR.out⟩
end Go.Proofs.Ytnadiddaeolanaa
