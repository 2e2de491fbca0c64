/- The contracts of list's Drop of nil, Push, Pop, All, Len. -/
import Derived.Test.YtgdbccficcgbdaaList3
import Derived.Test.YtgdbccficcgbdaaApp
namespace Go.Proofs.Ytgdbccficcgbdaa
open Go.RowKit Go.Shelf
set_option linter.unusedVariables false
set_option linter.unusedSimpArgs false

section
attribute [local go_sem] Oper.semAt_some
set_option maxRecDepth 100000 in
set_option maxHeartbeats 4000000 in
theorem list_drop_nil (lo hi : Int) (w : World) :
    Calls Try.prog 57 #[.pointer none, .int .i64 lo, .int .i64 hi] w fun e w' => e = .returned (.int .i64 0) ∧ Keep [] w w' := by
  refine (callsIn_wide (n := 8)).1 ?_
  refine callsIn_of_wp_marks Try.func57 rfl trivial ?_ rfl
  simp only [Try.ntmps57, List.size_toArray, List.length_cons, List.length_nil, Nat.reduceAdd, Nat.reduceSub, Array.replicate_succ, Array.replicate_zero, List.push_toArray, List.append_toArray, List.nil_append, List.cons_append]
  gi_wp2
  refine ⟨trivial, ?_⟩
  refine (callsIn_wide.2 (list_each _ _)).mono ?_
  rintro e w' ⟨rfl, rfl⟩
  gi_wp2
  obtain ⟨z, hz⟩ : ∃ z, z = w.heap.size := ⟨_, rfl⟩
  simp only [← hz]
  generalize hW0 : World.alloc _ _ = W0
  have hn0 : W0.heap[z + 1 + 1]? = some (.cells #[.int .i64 0] 3 (0, 0)) := by
    rw [← hW0]
    exact alloc_keeps (alloc_keeps (alloc_new _ _ _ (by simp [hz])) _) _
  have he0 : W0.heap[z + 1 + 1 + 1 + 1]? = some (.cells #[.pointer none] 89 (0, 0)) := by
    rw [← hW0]; exact alloc_new _ _ _ (by simp [hz])
  have hK0 : Keep [] w W0 := by rw [← hW0]; exact (by repeat (first | (with_reducible exact Keep.refl _ _) | (with_reducible refine Keep.drew ?_) | (with_reducible refine Keep.drewN ?_ _) | (with_reducible refine Keep.alloc ?_ _) | (with_reducible refine Keep.setCell ?_ (by first | (simp; done) | (simp; omega) | (left; dsimp only; omega)) _)))
  have hs0 : W0.heap.size = z + 5 := by rw [← hW0]; simp [hz]
  clear hW0
  have HZ := Lib.hid hz
  have hzw : w.heap.size ≤ z := by omega
  clear hz
  refine wpIn_rangeFunc_ownF (α := Cls) rfl (by omega) (gf := 80) (lb := #[.pointer (some ⟨z + 1 + 1 + 1 + 1, 0, none⟩)]) rfl trivial (enters_of Try.func80 (by kernel_rfl) rfl)
    (each_stops_nil 7 (z + 1 + 1 + 1 + 1) (by omega) W0 he0) (fun h k e => k (h e)) (fun W l o o' hl h1 h2 h3 e => cell_kept e (grownBy_putObj' W l o') (fun r e' => by cases e'; exact ⟨o, h1, h2⟩)) (Below.refl _ _) (fun _ => rfl)
    (fun pre W => W.heap[z + 1 + 1]? = some (.cells #[.int .i64 0] 3 (0, 0)) ∧ Keep [] w W)
    (fun _ _ _ => False)
    (fun s W W' row hs hg hr => by
      obtain ⟨S, k1, k2, k3⟩ := keep_of_grown hg hr
      exact ⟨k1.get hs.1 (k3 _ _ _ _ hs.1), hs.2.fresh k1 (fun r hr' => .inl (by have := k2 r hr'; omega))⟩)
    (fun _ _ _ _ _ hs _ _ => hs)
    ⟨hn0, hK0⟩
    (fun c => { tmps := #[.pointer none, .int .i64 lo, .int .i64 hi, undef, .pointer (some ⟨z, 0, none⟩), .pointer (some ⟨z + 1, 0, none⟩), .int .i64 0, .pointer (some ⟨z + 1 + 1, 0, none⟩), .pointer (some ⟨z + 1 + 1 + 1, 0, none⟩), .pointer none,
      .func (.func 75) #[] #[.pointer (some ⟨z, 0, none⟩), .pointer (some ⟨z + 1, 0, none⟩), .pointer (some ⟨z + 1 + 1, 0, none⟩)], .pointer none, .func (.func 80) #[] #[.pointer (some ⟨z + 1 + 1 + 1 + 1, 0, none⟩)], .pointer none, undef, undef, undef, undef, undef, undef, undef, undef], defers := [] }) ?assign ?body ?done ?stop
  case assign =>
    intro l x W K hK
    gi_wp2
    exact hK
  case body =>
    intro l pre c W _ hlt
    exact absurd hlt (by omega)
  case done =>
    rintro D ys W hD hys ⟨hn, hkeep⟩ hK
    have hcn := cell_at hn
    gi_wp2
    refine ⟨by simp, .inl ⟨_, _, rfl, run_takeDeferred hK, ?_⟩⟩
    have hkK : Keep [D] W (W.putObj D (.deferred none)) := (Keep.refl _ _).grown (grownBy_putObj' _ D (.deferred none)) (fun k e => by cases e; simp)
    exact ⟨_, results_tmp rfl _ _ _, rfl, hkeep.fresh hkK (by simp; omega)⟩
  case stop =>
    rintro D c pre W hD hpre h hK
    exact h.elim
end

/-- What an act on a list leaves. -/
def ListTo (w w' : World) (b : Nat) (V : Nat → Value) (L : Nat → List Int) : Prop :=
  ∃ V', Lst w' b V' L ∧ Keep (lblocks b V) w w' ∧ ∀ g ∈ lblocks b V', g ∈ lblocks b V ∨ w.heap.size ≤ g
theorem ListTo.same {w w' : World} {b : Nat} {V : Nat → Value} {L : Nat → List Int} (h : Lst w b V L) (k : Keep [] w w') : ListTo w w' b V L :=
  ⟨V, h.keep k (fun _ _ => by simp), k.mono (by simp), fun g hg => .inl hg⟩

def inC (c : Int) : Bool := decide (0 ≤ c ∧ c < 4)
/-- What Push tells. -/
def pushE (L : Nat → List Int) (c x : Int) : Int := if inC c then (if x < 1 then 2 else if hasL L x then 6 else 0) else 2
def pushL (L : Nat → List Int) (c x : Int) : Nat → List Int := if pushE L c x = 0 then upd L c.toNat (L c.toNat ++ [x]) else L

set_option maxRecDepth 100000 in
theorem list_push_nil (c x : Int) (w : World) :
    Calls Try.prog 59 #[.pointer none, .int .i64 c, .int .i64 x] w fun e w' => e = .returned (.int .i64 1) ∧ w' = w := by
  refine calls_abs fun R hR => ?_
  go_enter Try.func59, Try.ntmps59
  go_wp2_with fail
  refine (list_row_nil c w).mono ?_
  rintro e w' ⟨rfl, rfl⟩
  go_wp2_with fail
  exact hR.out _ _ ⟨rfl, rfl⟩

set_option maxRecDepth 100000 in
set_option maxHeartbeats 1000000 in
theorem list_push {w : World} {b : Nat} {V : Nat → Value} {L : Nat → List Int} (h : Lst w b V L) (hs : total L ≤ 100000) (c x : Int) :
    Calls Try.prog 59 #[.pointer (some ⟨b, 0, none⟩), .int .i64 c, .int .i64 x] w fun e w' => e = .returned (.int .i64 (pushE L c x)) ∧ ListTo w w' b V (pushL L c x) := by
  refine calls_abs fun R hR => ?_
  have H := Lib.hid h
  have hbl := lt_of_block h.head
  clear h
  cases hc : inC c with
  | false =>
    have hc' : c < 0 ∨ 4 ≤ c := by simp [inC] at hc; omega
    have hp : pushE L c x = 2 := by simp [pushE, hc]
    go_enter Try.func59, Try.ntmps59
    go_wp2_with fail
    refine (list_row_out b c hc' w).mono ?_
    rintro e w' ⟨rfl, rfl⟩
    go_wp2_with fail
    exact hR.out _ _ ⟨by simp [hp], by rw [pushL, if_neg (by omega)]; exact ListTo.same H.out (Keep.refl _ _)⟩
  | true =>
    obtain ⟨k, rfl, hk⟩ : ∃ k : Nat, c = k ∧ k < 4 := ⟨c.toNat, by simp [inC] at hc; omega, by simp [inC] at hc; omega⟩
    by_cases hx : x < 1
    · have hp : pushE L k x = 2 := by simp [pushE, hc, hx]
      go_enter Try.func59, Try.ntmps59
      go_wp2_with fail
      refine (list_row b k k rfl hk w).mono ?_
      rintro e w' ⟨rfl, rfl⟩
      go_wp2_with fail
      exact hR.out _ _ ⟨by simp [hp], by rw [pushL, if_neg (by omega)]; exact ListTo.same H.out (Keep.refl _ _)⟩
    cases hh : hasL L x with
    | true =>
      have hp : pushE L k x = 6 := by simp [pushE, hc, hx, hh]
      go_enter Try.func59, Try.ntmps59
      go_wp2_with fail
      refine (list_row b k k rfl hk w).mono ?_
      rintro e w' ⟨rfl, rfl⟩
      go_wp2_with fail
      refine (list_has H.out x).mono ?_
      rintro e w2 ⟨rfl, K2⟩
      rw [hh]
      go_wp2_with fail
      exact hR.out _ _ ⟨by simp [hp], by rw [pushL, if_neg (by omega)]; exact ListTo.same H.out K2⟩
    | false =>
      have hp : pushE L k x = 0 := by simp [pushE, hc, hx, hh]
      go_enter Try.func59, Try.ntmps59
      go_wp2_with fail
      refine (list_row b k k rfl hk w).mono ?_
      rintro e w' ⟨rfl, rfl⟩
      go_wp2_with fail
      refine (list_has H.out x).mono ?_
      rintro e w2 ⟨rfl, K2⟩
      rw [hh]
      have HL2 := Lib.hid (H.out.keep K2 (fun _ _ => by simp))
      have HK2 := Lib.hid K2
      clear K2
      have hcell := HL2.out.cell k hk
      have hfr := frozen_at HL2.out.head
      have hrow := HL2.out.rows k hk
      have hlen := total_row L k hk
      have hb2 := lt_of_block HL2.out.head
      have HROW := Lib.hid hrow
      have hsh := owns_val hrow
      clear hrow
      obtain ⟨ao, cap, hv, hcap, hmax⟩ := hsh
      have hbn : b ∉ (Value.slice ao (L k).length cap).ownBlock.toList := fun hm => by
        simp at hm
        have := HL2.out.row_above hk (by rw [hv]; exact hm)
        omega
      rw [hv] at hcell HROW
      have k1 : (0 : Int) ≤ (k : Int) := by omega
      have HCE := Lib.hid hcell; have HV := Lib.hid hv
      go_wp2_with (at_builtin; go_loud (refine wpList_append_rd2 _ rfl _ _ _ rfl elem_int (b + 1) (.slice ao (L k).length cap) (L k).length (ints (L k)) rfl (((by repeat (first | (with_reducible exact Keep.refl _ _) | (with_reducible refine Keep.drew ?_) | (with_reducible refine Keep.drewN ?_ _) | (with_reducible refine Keep.alloc ?_ _) | (with_reducible refine Keep.setCell ?_ (by first | (simp; done) | (simp; omega) | (left; dsimp only; omega)) _))) : Keep [] w2 _).owns HROW.out (fun _ _ => by simp)) _ 1 [.int .i64 x] rfl (Rd.lit _ _ _ rfl) (by simp) (by simp only [maxLen]; omega) (by omega) (by simp; omega) ?_); intro ao' cap' w3 ho hg hwhere; have HWH := Lib.hid hwhere; clear hwhere; go_loud (have hK3 : Keep (Value.slice ao (L k).length cap).ownBlock.toList w2 w3 := Keep.grown (w := w2.alloc _) (by repeat (first | (with_reducible exact Keep.refl _ _) | (with_reducible refine Keep.drew ?_) | (with_reducible refine Keep.drewN ?_ _) | (with_reducible refine Keep.alloc ?_ _) | (with_reducible refine Keep.setCell ?_ (by first | (simp; done) | (simp; omega) | (left; dsimp only; omega)) _))) hg (fun g hg => .inr (by simpa using hg)); have hc3 := hK3.cell HCE.out hbn; have hf3 := frozen_at (hK3.get HL2.out.head hbn); have HO := Lib.hid ho; have HK3 := Lib.hid hK3; have HG := Lib.hid hg; clear ho hK3 hg))
      have ho := HO.out
      rw [show ints (L k) ++ [.int .i64 x] = ints (L k ++ [x]) from by simp [ints], show (L k).length + 1 = (L k ++ [x]).length from by simp] at ho
      have hown : ∀ g, (Value.slice ao' ((L k).length + 1) cap').ownBlock = some g → (Value.slice ao (L k).length cap).ownBlock = some g ∨ w2.heap.size ≤ g := fun g hgo => by
        rcases HWH.out g hgo with h | h
        · exact .inl h
        · exact .inr (by simp at h; omega)
      refine hR.out _ _ ⟨by simp [hp], upd V k (.slice ao' ((L k).length + 1) cap'), ?_, ?_, fun g hg => ?_⟩
      · rw [pushL, if_pos hp]
        simp only [Int.toNat_natCast]
        refine HL2.out.put k hk _ (L k ++ [x]) HK3.out hbn (fun d g hd hne hgo hm => ?_) (by simpa using ho) (fun d g hd hne hgo h => ?_)
        · simp at hm
          exact hne (HL2.out.apart d k g hd hk hgo (by rw [HV.out]; exact hm))
        · rcases hown g h with h | h
          · exact hne (HL2.out.apart d k g hd hk hgo (by rw [HV.out]; exact h))
          · have := owns_block (HL2.out.rows d hd) g hgo
            omega
      · refine ((HK2.out.mono (by simp)).trans (HK3.out.mono (fun g hg => ?_))).setCell (p := ⟨b, k, none⟩) (.inr (by simp [lblocks])) _
        simp only [Option.mem_toList] at hg
        exact mem_lblocks.2 (.inr ⟨k, hk, by rw [HV.out]; exact hg⟩)
      · rcases mem_lblocks.1 hg with rfl | ⟨d, hd, hg⟩
        · exact .inl (by simp [lblocks])
        · by_cases e : d = k
          · subst e
            rw [upd_same] at hg
            rcases hown g hg with h | h
            · exact .inl (mem_lblocks.2 (.inr ⟨d, hd, by rw [HV.out]; exact h⟩))
            · exact .inr (by have := HK2.out.size; omega)
          · rw [upd_other _ _ _ _ e] at hg
            exact .inl (mem_lblocks.2 (.inr ⟨d, hd, hg⟩))
end Go.Proofs.Ytgdbccficcgbdaa
