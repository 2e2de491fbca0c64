/- The contract of list.Drop. -/
import Derived.Test.YtgdbccficcgbdaaList2
namespace Go.Proofs.Ytgdbccficcgbdaa
open Go.RowKit Go.Shelf
attribute [local go_sem] Oper.semAt_some
set_option linter.unusedVariables false
set_option linter.unusedSimpArgs false

@[go_sem] theorem run_store_func {P : Program} {w : World} {a : Addr} {m : Mode} (fn : Fn) (first cap : Array Value) : (store a (.func fn first cap) m).run P w = stored P w a (.func fn first cap) m := run_store P w a _ m rfl

set_option maxRecDepth 100000 in
set_option maxHeartbeats 1000000 in
theorem slices_deletefunc_nil {w : World} {f t c : Nat} :
    Calls Try.prog 77 #[.slice none 0 0, .func (.func 75) #[] #[.pointer (some ⟨f, 0, none⟩), .pointer (some ⟨t, 0, none⟩), .pointer (some ⟨c, 0, none⟩)]] w fun e w' =>
      e = .returned (.slice none 0 0) ∧ w' = w := by
  have hix : ∀ (R : Ending → World → Prop), R (.returned (.int .i64 (-1))) w → Calls Try.prog 81 #[.slice none 0 0, .func (.func 75) #[] #[.pointer (some ⟨f, 0, none⟩), .pointer (some ⟨t, 0, none⟩), .pointer (some ⟨c, 0, none⟩)]] w R := fun R hR => by
    go_enter Try.func81, Try.ntmps81
    go_wp2_with fail
    go_loopg [8] 0 (fun j i wr => i = .int .i64 0 ∧ wr = w)
    case atStart => exact ⟨rfl, rfl⟩
    case round =>
      obtain ⟨rfl, rfl⟩ := hrel
      go_wp2_with fail
      exact hR
  refine calls_abs fun R hR => ?_
  go_enter Try.func77, Try.ntmps77
  go_wp2_with fail
  refine hix _ ?_
  go_wp2_with fail
  exact hR.out _ _ ⟨rfl, rfl⟩

theorem Lst.congr {w : World} {b : Nat} {V : Nat → Value} {L L' : Nat → List Int} (h : Lst w b V L) (he : ∀ c, c < 4 → L c = L' c) : Lst w b V L' :=
  ⟨h.head, fun c hc => by rw [← he c hc]; exact h.rows c hc, h.apart⟩
theorem Lst.cells {w : World} {b : Nat} {V : Nat → Value} {L : Nat → List Int} (h : Lst w b V L) : ∀ g ∈ lblocks b V, ∃ cs t, w.heap[g]? = some (.cells cs t (0, 0)) := fun g hg => by
  rcases mem_lblocks.1 hg with rfl | ⟨c, hc, hg⟩
  · exact ⟨_, _, h.head⟩
  · obtain ⟨_, h2 | ⟨g', cap, cur, hv, _, h3, _⟩⟩ := h.rows c hc
    · rw [h2.1] at hg; simp [Value.ownBlock] at hg
    · rw [hv] at hg
      simp [Value.ownBlock] at hg
      subst hg
      exact ⟨_, _, h3⟩

/-- What turns one block that is no cells keeps all that are. -/
theorem keep_of_grown {W W' : World} {row : Option Nat} {B : Nat} (hg : W.grownBy W' row) (hr : ∀ r, row = some r → B ≤ r ∧ ∃ o : Obj, W.heap[r]? = some o ∧ o.isCells = false) :
    ∃ S, Keep S W W' ∧ (∀ r ∈ S, B ≤ r) ∧ ∀ g cs t fr, W.heap[g]? = some (.cells cs t fr) → g ∉ S := by
  refine ⟨row.toList, (Keep.refl _ _).grown hg (fun k hk => .inr (by simp [hk])), fun r hr' => ?_, fun g cs t fr hc hm => ?_⟩
  · simp at hr'
    exact (hr r hr').1
  · simp at hm
    obtain ⟨_, o, ho, hn⟩ := hr g hm
    rw [hc] at ho
    cases ho
    simp [Obj.isCells] at hn
theorem keepsOthers_of_keep {S : List Nat} {W W' : World} (k : Keep S W W') (hS : ∀ g ∈ S, ∃ cs t fr, W.heap[g]? = some (.cells cs t fr)) : KeepsOthers W W' :=
  ⟨k.size, fun g o hg ho => k.get hg (fun hm => by
    obtain ⟨cs, t, fr, hc⟩ := hS g hm
    rw [hc] at hg
    cases hg
    simp [Obj.isCells] at ho)⟩

def total (M : Nat → List Int) : Nat := (M 0).length + (M 1).length + (M 2).length + (M 3).length
theorem total_upd (M : Nat → List Int) (c : Nat) (hc : c < 4) (xs : List Int) : total (upd M c xs) + (M c).length = total M + xs.length := by
  have : c = 0 ∨ c = 1 ∨ c = 2 ∨ c = 3 := by omega
  rcases this with rfl | rfl | rfl | rfl <;> simp [total, upd] <;> omega
theorem total_row (M : Nat → List Int) (c : Nat) (hc : c < 4) : (M c).length ≤ total M := by
  have : c = 0 ∨ c = 1 ∨ c = 2 ∨ c = 3 := by omega
  rcases this with rfl | rfl | rfl | rfl <;> simp [total] <;> omega
theorem left_left (lo hi : Int) (xs : List Int) : left lo hi (left lo hi xs) = left lo hi xs := by
  simp [left, List.filter_filter]
/-- The rows of the classes that have come are dropped from. -/
def dropped (lo hi : Int) (L : Nat → List Int) (pre : List Cls) : Nat → List Int := fun c => if c ∈ pre.map (·.1) then left lo hi (L c) else L c
theorem dropped_snoc (lo hi : Int) (L : Nat → List Int) (pre : List Cls) (x : Cls) : dropped lo hi L (pre ++ [x]) = upd (dropped lo hi L pre) x.1 (left lo hi (dropped lo hi L pre x.1)) := by
  funext c
  unfold dropped upd
  by_cases e : c = x.1
  · subst e
    rw [if_pos (by simp), if_pos rfl]
    split
    · rw [left_left]
    · rfl
  · rw [if_neg e]
    have : c ∈ (pre ++ [x]).map (·.1) ↔ c ∈ pre.map (·.1) := by
      simp only [List.map_append, List.mem_append, List.map_cons, List.map_nil, List.mem_singleton]
      constructor
      · rintro (h | h)
        · exact h
        · exact absurd h e
      · exact .inl
    simp only [this]

theorem Dropping.grow {S : List Nat} {W W' : World} {f t c : Nat} {lo hi : Int} {k : Nat} (h : Dropping W f t c lo hi k) (kp : Keep S W W') (hS : ∀ g cs t fr, W.heap[g]? = some (.cells cs t fr) → g ∉ S) : Dropping W' f t c lo hi k :=
  h.keep kp (hS _ _ _ _ h.from') (hS _ _ _ _ h.to') (hS _ _ _ _ h.count)

set_option maxRecDepth 100000 in
set_option maxHeartbeats 4000000 in
theorem list_drop {w : World} {b : Nat} {V : Nat → Value} {L : Nat → List Int} (h : Lst w b V L) (lo hi : Int) (hs : total L ≤ 100000) :
    Calls Try.prog 57 #[.pointer (some ⟨b, 0, none⟩), .int .i64 lo, .int .i64 hi] w fun e w' =>
      e = .returned (.int .i64 ((total L - total (fun c => left lo hi (L c)) : Nat) : Int)) ∧ (∃ V', Lst w' b V' (fun c => left lo hi (L c)) ∧ ∀ g ∈ lblocks b V', g ∈ lblocks b V) ∧ Keep (lblocks b V) w w' := by
  refine (callsIn_wide (n := 8)).1 ?_
  have H := Lib.hid h
  have hbl := h.blocks
  clear h
  refine callsIn_of_wp_marks Try.func57 rfl trivial ?_ rfl
  simp only [Try.ntmps57, List.size_toArray, List.length_cons, List.length_nil, Nat.reduceAdd, Nat.reduceSub, Array.replicate_succ, Array.replicate_zero, List.push_toArray, List.append_toArray, List.nil_append, List.cons_append]
  gi_wp2
  refine ⟨trivial, ?_⟩
  refine (callsIn_wide.2 (list_each _ _)).mono ?_
  rintro e w' ⟨rfl, rfl⟩
  gi_wp2
  obtain ⟨z, hz⟩ : ∃ z, z = w.heap.size := ⟨_, rfl⟩
  simp only [← hz]
  generalize hW0 : World.alloc _ _ = W0
  have hD0 : Dropping W0 z (z + 1) (z + 1 + 1) lo hi 0 := by
    rw [← hW0]
    exact ⟨alloc_keeps (alloc_keeps (alloc_keeps (alloc_keeps (alloc_new _ _ _ hz) _) _) _) _, alloc_keeps (alloc_keeps (alloc_keeps (alloc_new _ _ _ (by simp [hz])) _) _) _, alloc_keeps (alloc_keeps (alloc_new _ _ _ (by simp [hz])) _) _, by omega, by omega⟩
  have hg0 : W0.heap[z + 1 + 1 + 1]? = some (.cells #[.func (.func 75) #[] #[.pointer (some ⟨z, 0, none⟩), .pointer (some ⟨z + 1, 0, none⟩), .pointer (some ⟨z + 1 + 1, 0, none⟩)]] 33 (0, 0)) := by
    rw [← hW0]; exact alloc_keeps (alloc_new _ _ _ (by simp [hz])) _
  have he0 : W0.heap[z + 1 + 1 + 1 + 1]? = some (.cells #[.pointer (some ⟨b, 0, none⟩)] 89 (0, 0)) := by
    rw [← hW0]; exact alloc_new _ _ _ (by simp [hz])
  have hK0 : Keep [] w W0 := by rw [← hW0]; exact (by repeat (first | (with_reducible exact Keep.refl _ _) | (with_reducible refine Keep.drew ?_) | (with_reducible refine Keep.drewN ?_ _) | (with_reducible refine Keep.alloc ?_ _) | (with_reducible refine Keep.setCell ?_ (by first | (simp; done) | (simp; omega) | (left; dsimp only; omega)) _)))
  have hs0 : W0.heap.size = z + 5 := by rw [← hW0]; simp [hz]
  clear hW0
  have mixed : Try.prog.follows .mixedOrders = true := by kernel_rfl
  have hF := Try.call75
  have hbz : ∀ g ∈ lblocks b V, g < z := fun g hg => by have := hbl g hg; omega
  have hzw : w.heap.size ≤ z := by omega
  have HZ := Lib.hid hz
  clear hz
  refine wpIn_rangeFunc_ownF rfl (by omega) (gf := 80) (lb := #[.pointer (some ⟨z + 1 + 1 + 1 + 1, 0, none⟩)]) rfl trivial (enters_of Try.func80 (by kernel_rfl) rfl)
    (each_stops 7 b (z + 1 + 1 + 1 + 1) (by omega) W0 he0) (fun h k e => k (h e)) (fun W l o o' hl h1 h2 h3 e => cell_kept e (grownBy_putObj' W l o') (fun r e' => by cases e'; exact ⟨o, h1, h2⟩)) (Below.refl _ _) (fun _ => rfl)
    (fun pre W => ∃ V', Lst W b V' (dropped lo hi L pre) ∧ (∀ g ∈ lblocks b V', g ∈ lblocks b V) ∧ (∃ k, k + total (dropped lo hi L pre) = total L ∧ Dropping W z (z + 1) (z + 1 + 1) lo hi k) ∧
      W.heap[z + 1 + 1 + 1]? = some (.cells #[.func (.func 75) #[] #[.pointer (some ⟨z, 0, none⟩), .pointer (some ⟨z + 1, 0, none⟩), .pointer (some ⟨z + 1 + 1, 0, none⟩)]] 33 (0, 0)) ∧ Keep (lblocks b V) w W)
    (fun _ _ _ => False)
    (fun s W W' row hs hg hr => by
      obtain ⟨V', h1, h2, ⟨k, h3, h4⟩, h5, h6⟩ := hs
      obtain ⟨S, k1, k2, k3⟩ := keep_of_grown hg hr
      exact ⟨V', h1.keep k1 (fun g hg' => by obtain ⟨cs, t, hc⟩ := h1.cells g hg'; exact k3 _ _ _ _ hc), h2, ⟨k, h3, h4.grow k1 k3⟩, k1.get h5 (k3 _ _ _ _ h5), h6.fresh k1 (fun r hr' => .inl (by have := k2 r hr'; omega))⟩)
    (fun _ _ _ _ _ hs _ _ => hs)
    ⟨V, (H.out.keep hK0 (fun _ _ => by simp)).congr (fun c hc => by simp [dropped]), fun g hg => hg, ⟨0, by rw [show dropped lo hi L [] = L from by funext c; simp [dropped]]; omega, hD0⟩, hg0, hK0.mono (by simp)⟩
    (fun c => { tmps := #[.pointer (some ⟨b, 0, none⟩), .int .i64 lo, .int .i64 hi, undef, .pointer (some ⟨z, 0, none⟩), .pointer (some ⟨z + 1, 0, none⟩), .int .i64 0, .pointer (some ⟨z + 1 + 1, 0, none⟩), .pointer (some ⟨z + 1 + 1 + 1, 0, none⟩), .pointer (some ⟨b, c.1, none⟩),
      .func (.func 75) #[] #[.pointer (some ⟨z, 0, none⟩), .pointer (some ⟨z + 1, 0, none⟩), .pointer (some ⟨z + 1 + 1, 0, none⟩)], .pointer (some ⟨b, 0, none⟩), .func (.func 80) #[] #[.pointer (some ⟨z + 1 + 1 + 1 + 1, 0, none⟩)], .pointer (some ⟨b, c.1, none⟩), undef, undef, undef, undef, undef, undef, undef, undef], defers := [] }) ?assign ?body ?done ?stop
  case assign =>
    intro l x W K hK
    gi_wp2
    exact hK
  case body =>
    rintro l pre ⟨c, hc4⟩ W ⟨V', hl, hbs, ⟨k, hk, hd⟩, hgo, hkeep⟩ _
    have hcell := hl.cell c hc4
    have hgc := cell_at hgo
    have hfr := frozen_at hl.head
    have hrow := row_of_owns (hl.rows c hc4)
    have hsnoc := dropped_snoc lo hi L pre ⟨c, hc4⟩
    have htr := total_row (dropped lo hi L pre) c hc4
    have htu := total_upd (dropped lo hi L pre) c hc4 (left lo hi (dropped lo hi L pre c))
    have HL := Lib.hid hl; have HD := Lib.hid hd; have HGO := Lib.hid hgo; have HKE := Lib.hid hkeep; have HSN := Lib.hid hsnoc
    have hlen := left_len_le lo hi (dropped lo hi L pre c)
    clear hl hd hgo hkeep hsnoc
    dsimp only
    have bne : ¬ z + 1 + 1 + 1 + 1 = b := by have := hbz b (by simp [lblocks]); omega
    have bne' : ¬ b = z + 1 + 1 + 1 + 1 := by omega
    rcases hrow with ⟨hv, hn0, hnil⟩ | ⟨g, cap, hv, hrow⟩
    · rw [hv] at hcell
      have hleft : left lo hi (dropped lo hi L pre c) = [] := by rw [hnil]; rfl
      have hI : ∃ V'', Lst ((W.setCell ⟨b, c, none⟩ (.slice none 0 0)).drew) b V'' (dropped lo hi L (pre ++ [⟨c, hc4⟩])) ∧ (∀ g ∈ lblocks b V'', g ∈ lblocks b V) ∧ (∃ k, k + total (dropped lo hi L (pre ++ [⟨c, hc4⟩])) = total L ∧ Dropping ((W.setCell ⟨b, c, none⟩ (.slice none 0 0)).drew) z (z + 1) (z + 1 + 1) lo hi k) ∧
          ((W.setCell ⟨b, c, none⟩ (.slice none 0 0)).drew).heap[z + 1 + 1 + 1]? = some (.cells #[.func (.func 75) #[] #[.pointer (some ⟨z, 0, none⟩), .pointer (some ⟨z + 1, 0, none⟩), .pointer (some ⟨z + 1 + 1, 0, none⟩)]] 33 (0, 0)) ∧ Keep (lblocks b V) w ((W.setCell ⟨b, c, none⟩ (.slice none 0 0)).drew) := by
        have hbz' := hbz b (by simp [lblocks])
        rw [HSN.out, hleft]
        refine ⟨upd V' c (.slice none 0 0), ?_, fun g hg => ?_, ⟨k, ?_, ?_⟩, ?_, ?_⟩
        · exact (HL.out.put c hc4 (.slice none 0 0) [] (S := []) (Keep.refl _ W) (by simp) (fun _ _ _ _ _ => by simp) (World.ownsRow_nil _ _ _ _) (fun _ _ _ _ _ => by simp [Value.ownBlock])).keep (S := []) (by repeat (first | (with_reducible exact Keep.refl _ _) | (with_reducible refine Keep.drew ?_) | (with_reducible refine Keep.drewN ?_ _) | (with_reducible refine Keep.alloc ?_ _) | (with_reducible refine Keep.setCell ?_ (by first | (simp; done) | (simp; omega) | (left; dsimp only; omega)) _))) (fun _ _ => by simp)
        · rcases mem_lblocks.1 hg with rfl | ⟨d, hd, hg⟩
          · simp [lblocks]
          · by_cases e : d = c
            · subst e; rw [upd_same] at hg; simp [Value.ownBlock] at hg
            · rw [upd_other _ _ _ _ e] at hg
              exact hbs g (mem_lblocks.2 (.inr ⟨d, hd, hg⟩))
        · rw [hleft, hnil] at htu
          simp only [List.length_nil, Nat.add_zero] at htu
          show k + total (upd (dropped lo hi L pre) c []) = total L
          omega
        · exact HD.out.keep (S := [b]) (by repeat (first | (with_reducible exact Keep.refl _ _) | (with_reducible refine Keep.drew ?_) | (with_reducible refine Keep.drewN ?_ _) | (with_reducible refine Keep.alloc ?_ _) | (with_reducible refine Keep.setCell ?_ (by first | (simp; done) | (simp; omega) | (left; dsimp only; omega)) _))) (by simp; omega) (by simp; omega) (by simp; omega)
        · exact (show Keep [b] W _ from (by repeat (first | (with_reducible exact Keep.refl _ _) | (with_reducible refine Keep.drew ?_) | (with_reducible refine Keep.drewN ?_ _) | (with_reducible refine Keep.alloc ?_ _) | (with_reducible refine Keep.setCell ?_ (by first | (simp; done) | (simp; omega) | (left; dsimp only; omega)) _)))).get HGO.out (by simp; omega)
        · exact (HKE.out.setCell (p := ⟨b, c, none⟩) (.inr (by simp [lblocks])) _).drew
      gi_wp2
      gi_region_with_o (refine ⟨trivial, ?_⟩; gi_at_call 77; refine (CallsIn.inRound l (callsIn_wide.2 slices_deletefunc_nil)).mono ?_; rintro e w' ⟨rfl, rfl⟩)
      all_goals gi_wp2
      all_goals (exact ⟨(KeepsOthers.setCell _ _ _).trans (KeepsOthers.drew _), fun e => (World.cell?_setCell_other _ _ _ _ (by simp [bne, bne'])).trans e, hI⟩)
    · rw [hv] at hcell
      have HROW := Lib.hid hrow
      have hgm : g ∈ lblocks b V' := mem_lblocks.2 (.inr ⟨c, hc4, by rw [hv]; rfl⟩)
      have hgz : g < z := hbz g (hbs g hgm)
      have hbg : b < g := HL.out.row_above hc4 (by rw [hv]; rfl)
      have hsmall : (dropped lo hi L pre c).length ≤ 100000 := by omega
      have hkk : k + (dropped lo hi L pre c).length < 1000000 := by omega
      have hI : ∀ w3, Row w3 (b + 1) g (left lo hi (dropped lo hi L pre c)).length cap (left lo hi (dropped lo hi L pre c)) → Dropping w3 z (z + 1) (z + 1 + 1) lo hi (k + ((dropped lo hi L pre c).length - (left lo hi (dropped lo hi L pre c)).length)) → Keep [z + 1 + 1, g] W w3 →
          (∃ V'', Lst (w3.setCell ⟨b, c, none⟩ (.slice (some ⟨g, 0, none⟩) (left lo hi (dropped lo hi L pre c)).length cap)) b V'' (dropped lo hi L (pre ++ [⟨c, hc4⟩])) ∧ (∀ g ∈ lblocks b V'', g ∈ lblocks b V) ∧ (∃ k, k + total (dropped lo hi L (pre ++ [⟨c, hc4⟩])) = total L ∧ Dropping (w3.setCell ⟨b, c, none⟩ (.slice (some ⟨g, 0, none⟩) (left lo hi (dropped lo hi L pre c)).length cap)) z (z + 1) (z + 1 + 1) lo hi k) ∧
          (w3.setCell ⟨b, c, none⟩ (.slice (some ⟨g, 0, none⟩) (left lo hi (dropped lo hi L pre c)).length cap)).heap[z + 1 + 1 + 1]? = some (.cells #[.func (.func 75) #[] #[.pointer (some ⟨z, 0, none⟩), .pointer (some ⟨z + 1, 0, none⟩), .pointer (some ⟨z + 1 + 1, 0, none⟩)]] 33 (0, 0)) ∧ Keep (lblocks b V) w (w3.setCell ⟨b, c, none⟩ (.slice (some ⟨g, 0, none⟩) (left lo hi (dropped lo hi L pre c)).length cap))) ∧
          KeepsOthers W (w3.setCell ⟨b, c, none⟩ (.slice (some ⟨g, 0, none⟩) (left lo hi (dropped lo hi L pre c)).length cap)) ∧ Held (z + 1 + 1 + 1 + 1) (some ⟨b, 0, none⟩) W (w3.setCell ⟨b, c, none⟩ (.slice (some ⟨g, 0, none⟩) (left lo hi (dropped lo hi L pre c)).length cap)) := fun w3 R3 D3 K3 => by
        have hbz' := hbz b (by simp [lblocks])
        refine ⟨?_, (keepsOthers_of_keep K3 (fun r hr => ?_)).trans (KeepsOthers.setCell _ _ _), fun e => (World.cell?_setCell_other _ _ _ _ (by simp [bne, bne'])).trans (K3.cell e (by simp; omega))⟩
        rw [HSN.out]
        refine ⟨upd V' c (.slice (some ⟨g, 0, none⟩) (left lo hi (dropped lo hi L pre c)).length cap), ?_, fun g' hg => ?_, ⟨k + ((dropped lo hi L pre c).length - (left lo hi (dropped lo hi L pre c)).length), ?_, ?_⟩, ?_, ?_⟩
        · refine HL.out.put c hc4 _ _ K3 (by simp; omega) (fun d g' hd hne hg' hm => ?_) R3.owns (fun d g' hd hne hg' h => ?_)
          · simp only [List.mem_cons, List.not_mem_nil, or_false] at hm
            rcases hm with rfl | rfl
            · have := hbz _ (hbs _ (mem_lblocks.2 (.inr ⟨d, hd, hg'⟩))); omega
            · exact hne (HL.out.apart d c g' hd hc4 hg' (by rw [hv]; rfl))
          · simp [Value.ownBlock] at h
            subst h
            exact hne (HL.out.apart d c g hd hc4 hg' (by rw [hv]; rfl))
        · rcases mem_lblocks.1 hg with rfl | ⟨d, hd, hg⟩
          · simp [lblocks]
          · by_cases e : d = c
            · subst e; rw [upd_same] at hg; simp [Value.ownBlock] at hg; subst hg; exact hbs _ hgm
            · rw [upd_other _ _ _ _ e] at hg
              exact hbs g' (mem_lblocks.2 (.inr ⟨d, hd, hg⟩))
        · show k + _ + total (upd (dropped lo hi L pre) c (left lo hi (dropped lo hi L pre c))) = total L
          omega
        · exact D3.keep (S := [b]) (by repeat (first | (with_reducible exact Keep.refl _ _) | (with_reducible refine Keep.drew ?_) | (with_reducible refine Keep.drewN ?_ _) | (with_reducible refine Keep.alloc ?_ _) | (with_reducible refine Keep.setCell ?_ (by first | (simp; done) | (simp; omega) | (left; dsimp only; omega)) _))) (by simp; omega) (by simp; omega) (by simp; omega)
        · exact (show Keep [b] w3 _ from (by repeat (first | (with_reducible exact Keep.refl _ _) | (with_reducible refine Keep.drew ?_) | (with_reducible refine Keep.drewN ?_ _) | (with_reducible refine Keep.alloc ?_ _) | (with_reducible refine Keep.setCell ?_ (by first | (simp; done) | (simp; omega) | (left; dsimp only; omega)) _)))).get (K3.get HGO.out (by simp; omega)) (by simp; omega)
        · refine (HKE.out.fresh K3 (fun r hr => ?_)).setCell (p := ⟨b, c, none⟩) (.inr (by simp [lblocks])) _
          simp only [List.mem_cons, List.not_mem_nil, or_false] at hr
          rcases hr with rfl | rfl
          · exact .inl (by omega)
          · exact .inr (hbs _ hgm)
        · simp only [List.mem_cons, List.not_mem_nil, or_false] at hr
          rcases hr with rfl | rfl
          · exact ⟨_, _, _, HD.out.count⟩
          · obtain ⟨cs, t, h⟩ := HL.out.cells _ hgm
            exact ⟨_, _, _, h⟩
      have HI := Lib.hid hI
      clear hI
      have HHD := HL.out.head
      have HHD2 := Lib.hid HHD
      clear HHD
      have HCE := Lib.hid hcell
      gi_wp2
      gi_region_with_o (refine ⟨trivial, ?_⟩; gi_at_call 77; refine (CallsIn.inRound l (callsIn_wide.2 (slices_deletefunc (HROW.out.keep (S := []) (by repeat (first | (with_reducible exact Keep.refl _ _) | (with_reducible refine Keep.drew ?_) | (with_reducible refine Keep.drewN ?_ _) | (with_reducible refine Keep.alloc ?_ _) | (with_reducible refine Keep.setCell ?_ (by first | (simp; done) | (simp; omega) | (left; dsimp only; omega)) _))) (by simp)) (HD.out.keep (S := []) (by repeat (first | (with_reducible exact Keep.refl _ _) | (with_reducible refine Keep.drew ?_) | (with_reducible refine Keep.drewN ?_ _) | (with_reducible refine Keep.alloc ?_ _) | (with_reducible refine Keep.setCell ?_ (by first | (simp; done) | (simp; omega) | (left; dsimp only; omega)) _))) (by simp) (by simp) (by simp)) (by omega) (by omega) (by omega) hkk hsmall))).mono ?_; rintro e w3 ⟨rfl, R3, D3, K3⟩; have hK3 : Keep [z + 1 + 1, g] W w3 := K3.off_drew; have hc3 := hK3.cell HCE.out (by simp; omega); have hf3 := frozen_at (hK3.get HHD2.out (by simp; omega)); have HR3 := Lib.hid R3; have HD3 := Lib.hid D3; have HK3 := Lib.hid hK3; clear R3 D3 K3 hK3)
      all_goals gi_wp2
      all_goals (
        obtain ⟨i1, i2, i3⟩ := HI.out w3 HR3.out HD3.out HK3.out
        exact ⟨i2, i3, i1⟩)
  case done =>
    rintro D ys W hD hys ⟨V', hl, hbs, ⟨k, hk, hd⟩, hgo, hkeep⟩ hK
    have hcn := cell_at hd.count
    gi_wp2
    refine ⟨by simp, .inl ⟨_, _, rfl, run_takeDeferred hK, ?_⟩⟩
    have hall : ∀ c, c < 4 → dropped lo hi L ys c = left lo hi (L c) := fun c hc => by
      unfold dropped
      rw [if_pos (by rw [hys]; simpa using hc)]
    have htot : total (dropped lo hi L ys) = total (fun c => left lo hi (L c)) := by simp [total, hall]
    have hne : D ∉ lblocks b V := fun hm => by have := hbz D hm; have := HZ.out; omega
    have hkK : Keep [D] W (W.putObj D (.deferred none)) := (Keep.refl _ _).grown (grownBy_putObj' _ D (.deferred none)) (fun k e => by cases e; simp)
    refine ⟨_, results_tmp rfl _ _ _, ?_, ⟨V', (hl.keep hkK (fun g hg => by have := hbs g hg; intro h; simp at h; subst h; exact hne this)).congr hall, hbs⟩, hkeep.fresh hkK (by simp; omega)⟩
    simp [← htot]
    omega
  case stop =>
    rintro D c pre W hD hpre h hK
    exact h.elim
end Go.Proofs.Ytgdbccficcgbdaa
