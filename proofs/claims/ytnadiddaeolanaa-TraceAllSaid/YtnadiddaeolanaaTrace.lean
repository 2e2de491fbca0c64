/- The contract of trace.Walk: of whatever function that looks at heads. -/
import Derived.Test.YtnadiddaeolanaaHeads
import Derived.Test.YtnadiddaeolanaaRound
import Derived.Test.YtnadiddaeolanaaGive4
namespace Go.Proofs.Ytnadiddaeolanaa
open Go.RowKit Go.Shelf
attribute [local go_sem] Oper.semAt_some
set_option linter.unusedVariables false
set_option linter.unusedSimpArgs false

theorem wrap64_next (k : Nat) (h : k < 1000000) : wrap64 ((k : Int) + 1) = (k + 1 : Nat) := by unfold wrap64; omega
/-- The marks of ranges over functions that are over. -/
def marksOf (Ds : List Nat) : List Deferred := Ds.map fun D => { target := .collected D, args := #[] }
theorem leaves_marks {F : Fence} {n : Nat} {P : Program} {fn : Func} {tmps : Array Value} {R : Ending → World → Prop} : ∀ (Ds : List Nat) (w : World), Ds.Nodup → (∀ D ∈ Ds, w.heap[D]? = some (.deferred (some []))) →
    (∀ w', Keep Ds w w' → LeavesInM F n P fn tmps R [] .returning w') → LeavesInM F n P fn tmps R (marksOf Ds) .returning w := by
  intro Ds
  induction Ds with
  | nil => intro w _ _ h; exact h w (Keep.refl _ _)
  | cons D Ds ih =>
    intro w hn hm h
    have hD := hm D (by simp)
    have hk : Keep [D] w (w.putObj D (.deferred none)) := (Keep.refl _ _).grown (grownBy_putObj' _ D (.deferred none)) (fun k e => by cases e; simp)
    refine ⟨by simp, .inl ⟨D, w.putObj D (.deferred none), rfl, run_takeDeferred hD, ?_⟩⟩
    refine ih _ (List.nodup_cons.1 hn).2 (fun D' h' => ?_) (fun w' k => h w' ?_)
    · refine hk.get (hm D' (by simp [h'])) ?_
      have := (List.nodup_cons.1 hn).1
      intro hc
      simp at hc
      subst hc
      exact this h'
    · exact (hk.mono (by simp)).trans (k.mono (fun x hx => by simp [hx]))

theorem keepsOthers_of_keep {S : List Nat} {W W' : World} (k : Keep S W W') (hS : ∀ g ∈ S, ∃ cs t fr, W.heap[g]? = some (.cells cs t fr)) : KeepsOthers W W' :=
  ⟨k.size, fun g o hg ho => k.get hg (fun hm => by
    obtain ⟨cs, t, fr, hc⟩ := hS g hm
    rw [hc] at hg
    cases hg
    simp [Obj.isCells] at ho)⟩

/-- The heads that a walk of the first n blocks meets, and their blocks. -/
def headsOf (l : Lay) (es : Nat → En) (n : Nat) : List (Int × Nat) := (List.range n).flatMap fun k : Nat => (headsL (l.start (k : Int)) (es k)).map fun a => (a, k)
theorem headsOf_succ (l : Lay) (es : Nat → En) (n : Nat) : headsOf l es (n + 1) = headsOf l es n ++ (headsL (l.start (n : Int)) (es n)).map fun a => (a, n) := by
  unfold headsOf; rw [List.range_succ, List.flatMap_append]; simp

/-- A function that a walk may be given: what it holds (I) behind the heads that it was told of. -/
structure Walker (b g : Nat) (l : Lay) (es : Nat → En) (own : List Nat) (f : Nat) (caps : Array Value) (I : List (Int × Nat) → List Int → World → Prop) : Prop where
  enter : ∀ args w, (callFunc f args).run Try.prog w = .ok (.enter f args) w
  keep : ∀ {pre W w w' T}, I pre W w → Keep T w w' → (∀ x ∈ own, x ∉ T) → I pre W w'
  cells : ∀ {pre W w}, I pre W w → ∀ x ∈ own, ∃ cs t fr, w.heap[x]? = some (.cells cs t fr)
  words : ∀ {pre W w}, I pre W w → Words W ∧ ∀ k : Nat, k < l.b → entryOf W l k = es k
  apart : b ∉ own ∧ g ∉ own
  round : ∀ pre W w t la a (k : Nat), I pre W w → Arn w b g W t la → k < l.b → a ∈ headsL (l.start k) (es k) → Calls Try.prog f (#[.int .i64 a, .int .i64 k, (es k).val, .int .u64 (rdz W a)] ++ caps) w fun x w' =>
    x = .returned (.tuple #[]) ∧ ∃ W', (∃ t' la', Arn w' b g W' t' la') ∧ I (pre ++ [(a, k)]) W' w' ∧ Keep (b :: g :: own) w w'

/-- What stands between two blocks. -/
structure Walking (w : World) (b g : Nat) (own : List Nat) (I : List (Int × Nat) → List Int → World → Prop) (pre : List (Int × Nat)) (z : Nat) (l : Lay) (f : Nat) (caps : Array Value) (wr : World) : Prop where
  state : ∃ W, (∃ t la, Arn wr b g W t la) ∧ I pre W wr
  mem : wr.heap[z]? = some (.cells #[.iface 25 (.pointer (some ⟨b, 0, none⟩))] 118 (0, 0))
  lay : wr.heap[z + 1]? = some (.cells #[.int .i64 l.t, .int .i64 l.g, .int .i64 l.b] 53 (0, 0))
  fn : wr.heap[z + 2]? = some (.cells #[.func (.func f) #[] caps] 107 (0, 0))
  all : Keep (b :: g :: own) w wr
theorem Walking.keep {w wr wr' : World} {b g z f : Nat} {own T : List Nat} {I : List (Int × Nat) → List Int → World → Prop} {pre : List (Int × Nat)} {l : Lay} {es : Nat → En} {caps : Array Value} (C : Walker b g l es own f caps I)
    (h : Walking w b g own I pre z l f caps wr) (k : Keep T wr wr') (hb : b ∉ T) (hg : g ∉ T) (ho : ∀ x ∈ own, x ∉ T) (hz : ∀ x ∈ T, z + 3 ≤ x) (hw : w.heap.size ≤ z) : Walking w b g own I pre z l f caps wr' := by
  obtain ⟨⟨W, ⟨t, la, hA⟩, hI⟩, h1, h2, h3, h4⟩ := h
  refine ⟨⟨W, ⟨t, la, hA.keep k hb hg⟩, C.keep hI k ho⟩, k.get h1 (fun m => ?_), k.get h2 (fun m => ?_), k.get h3 (fun m => ?_), h4.fresh k (fun x hx => .inl ?_)⟩
  · have := hz _ m; omega
  · have := hz _ m; omega
  · have := hz _ m; omega
  · have := hz _ hx; omega
theorem Walking.read {w wr wr' : World} {b g z f : Nat} {own : List Nat} {I : List (Int × Nat) → List Int → World → Prop} {pre : List (Int × Nat)} {l : Lay} {es : Nat → En} {caps : Array Value} (C : Walker b g l es own f caps I)
    (h : Walking w b g own I pre z l f caps wr) (k : Keep [b, g] wr wr') (hb : b < z) (hg : g < z) {W : List Int} {t la : Int} (hA : Arn wr' b g W t la) (hI : I pre W wr) : Walking w b g own I pre z l f caps wr' := by
  obtain ⟨_, h1, h2, h3, h4⟩ := h
  refine ⟨⟨W, ⟨t, la, hA⟩, C.keep hI k (fun x hx m => ?_)⟩, k.get h1 (by simp; omega), k.get h2 (by simp; omega), k.get h3 (by simp; omega), h4.trans (k.mono (by simp))⟩
  simp at m
  rcases m with rfl | rfl
  · exact C.apart.1 hx
  · exact C.apart.2 hx

theorem entryOf_ge (l : Lay) (k : Nat) (hk : k < l.b) : ¬ l.entry k < 0 := by unfold Lay.entry spot; rw [if_pos (by omega)]; omega

set_option maxRecDepth 100000 in
set_option maxHeartbeats 8000000 in
theorem trace_walk {b g f : Nat} {l : Lay} (hl : l.fits) {es : Nat → En} {own : List Nat} {caps : Array Value} {I : List (Int × Nat) → List Int → World → Prop} (C : Walker b g l es own f caps I)
    {w : World} {W : List Int} {t la : Int} (hA : Arn w b g W t la) (hI : I [] W w) :
    Calls Try.prog 60 #[.iface 25 (.pointer (some ⟨b, 0, none⟩)), l.val, .func (.func f) #[] caps] w fun e w' => e = .returned (.tuple #[]) ∧ ∃ W', (∃ t la, Arn w' b g W' t la) ∧ I (headsOf l es l.b) W' w' ∧ Keep (b :: g :: own) w w' := by
  refine (callsIn_wide (n := 8)).1 ?_
  refine callsIn_of_wp_marks Try.func60 rfl trivial ?_ rfl
  simp only [Try.ntmps60, List.size_toArray, List.length_cons, List.length_nil, Nat.reduceAdd, Nat.reduceSub, Array.replicate_succ, Array.replicate_zero, List.push_toArray, List.append_toArray, List.nil_append, List.cons_append]
  have hmf : ∀ (fn : Fn) (first cap : Array Value) (w : World), (Instr.makeFunc fn first cap).run Try.prog w = .ok (.func fn first cap) w := fun _ _ _ _ => rfl
  have mixed : Try.prog.follows .mixedOrders = true := by kernel_rfl
  have hob : ∀ x ∈ own, x < w.heap.size := fun x hx => by obtain ⟨cs, t, fr, h⟩ := C.cells hI x hx; exact lt_of_block h
  have lb := lt_of_block hA.head; have lg := lt_of_block hA.row
  have hblk := fun w => layout_blocks l w
  have hhd := fun i e w => trace_heads l i e w
  have hval : l.val = .agg #[.int .i64 l.t, .int .i64 l.g, .int .i64 l.b] := rfl
  rw [hval] at hblk hhd ⊢
  have HA := Lib.hid hA; have HI := Lib.hid hI; have HBLK := Lib.hid hblk; have HHD := Lib.hid hhd; have HC := Lib.hid C; have HF := Lib.hid hl; have HOB := Lib.hid hob
  clear hblk hhd hval hA hI C hl hob
  have hfe : ∀ (fn : Fn) (a c : Array Value) (w : World), (binOp .eql 107 (.func fn a c) .nilFunc).run Try.prog w = .ok (.bool false) w := fun fn a c w => run_eql_func_nil w fn a c Try.underlying107
  gi_wp2
  refine ⟨trivial, ?_⟩
  refine (callsIn_wide.2 (HBLK.out _)).mono ?_
  rintro e w1 ⟨rfl, K1⟩
  obtain ⟨z, hz⟩ : ∃ z, z = w.heap.size := ⟨_, rfl⟩
  simp only [← hz] at K1 ⊢
  have hw0 : Walking w b g own I [] z l f caps w1 := by
    have K0 : Keep [] w w1 := by refine Keep.trans ?_ K1; ((repeat (first | (with_reducible exact Keep.refl _ _) | (with_reducible refine Keep.drew ?_) | (with_reducible refine Keep.drewN ?_ _) | (with_reducible refine Keep.alloc ?_ _) | ((with_reducible refine Keep.setCell ?_ ?_ _); rotate_left; focus (first | (simp; done) | (simp; omega) | (left; dsimp only; omega))))); done)
    refine ⟨⟨W, ⟨t, la, HA.out.keep K0 (by simp) (by simp)⟩, HC.out.keep HI.out K0 (by simp)⟩, K1.get ?_ (by simp), K1.get ?_ (by simp), K1.get ?_ (by simp), K0.mono (by simp)⟩
    · exact alloc_keeps (alloc_keeps (alloc_new _ _ _ hz) _) _
    · exact alloc_keeps (alloc_new _ _ _ (by simp [hz])) _
    · exact alloc_new _ _ _ (by simp [hz])
  have hsz1 : z + 3 ≤ w1.heap.size := by have := K1.size; simp [← hz] at this; omega
  have HW0 := Lib.hid hw0; have HZ := Lib.hid hz; have HS1 := Lib.hid hsz1
  clear K1 hw0 hz hsz1
  gi_wp2
  refine wpIn_loop (fun a wr => ∃ (k : Nat) (Ds : List Nat) (v6 v7 v18 v19 v20 v21 v22 v23 v24 v25 v26 v27 v37 : Value), k ≤ l.b ∧ Ds.Nodup ∧ (∀ D ∈ Ds, z ≤ D ∧ wr.heap[D]? = some (.deferred (some []))) ∧ Walking w b g own I (headsOf l es k) z l f caps wr ∧ z + 3 ≤ wr.heap.size ∧
    a = { tmps := #[.iface 25 (.pointer (some ⟨b, 0, none⟩)), .agg #[.int .i64 l.t, .int .i64 l.g, .int .i64 l.b], .func (.func f) #[] caps, .pointer (some ⟨z, 0, none⟩), .pointer (some ⟨z + 1, 0, none⟩), .pointer (some ⟨z + 1 + 1, 0, none⟩), v6, v7, undef,
      .iface 25 (.pointer (some ⟨b, 0, none⟩)), .bool false, .bool false, .func (.func f) #[] caps, .bool false, .bool false, .agg #[.int .i64 l.t, .int .i64 l.g, .int .i64 l.b], .int .i64 l.b, .int .i64 k, v18, v19, v20, v21, v22, v23, v24, v25, v26, v27, undef, undef, undef, undef, undef, undef, undef, undef, undef, v37], defers := marksOf Ds }) (fun a _ => l.b - (intOf (a.tmps.getD 17 undef)).toNat) ?atStart ?round
  case atStart => exact ⟨0, [], _, _, _, _, _, _, _, _, _, _, _, _, _, by omega, by simp, by simp, HW0.out, HS1.out, rfl⟩
  case round =>
    rintro a wr ⟨k, Ds, v6, v7, v18, v19, v20, v21, v22, v23, v24, v25, v26, v27, v37, hk, hnd, hDs, hW, hsz, rfl⟩
    have HND := Lib.hid hnd; have HDS := Lib.hid hDs; have HS := Lib.hid hsz
    obtain ⟨⟨W', ⟨t', la', hA'⟩, hI'⟩, b1, b2, b3, hall⟩ := hW
    obtain ⟨hwo, hen⟩ := HC.out.words hI'
    have c1 := cell_at b1; have c2 := cell_at b2; have c3 := cell_at b3
    have HW := Lib.hid (show Walking w b g own I (headsOf l es k) z l f caps wr from ⟨⟨W', ⟨t', la', hA'⟩, hI'⟩, b1, b2, b3, hall⟩)
    have l1 := lt_of_block b1; have l2 := lt_of_block b2; have l3 := lt_of_block b3
    clear b1 b2 b3 hall hnd hDs hsz
    by_cases hkn : k < l.b
    · have i1 : (k : Int) < l.b := by omega
      have hent := fun (w' : World) (h : Arn w' b g W' t' la') => give_entry h hwo l HF.out k
      rw [hen k hkn] at hent
      have hu8 : (es k).u8 := by rw [← hen k hkn]; exact entryOf_u8 _ _ _
      have hval : l.val = .agg #[.int .i64 l.t, .int .i64 l.g, .int .i64 l.b] := rfl
      rw [hval] at hent
      have HENT := Lib.hid hent; have HU := Lib.hid hu8; have HA' := Lib.hid hA'; have HI' := Lib.hid hI'; have HWO := Lib.hid hwo; have HEN := Lib.hid hen
      clear hent hu8 hA' hI' hwo hen hval
      gi_wp2
      refine ⟨trivial, ?_⟩
      obtain ⟨y, hy⟩ : ∃ y, y = wr.heap.size := ⟨_, rfl⟩
      simp only [← hy]
      generalize hw2 : World.alloc wr _ = w2
      have by2 : w2.heap[y]? = some (.cells #[.int .i64 k] 3 (0, 0)) := by rw [← hw2]; exact alloc_new _ _ _ hy
      have K2 : Keep [] wr w2 := by rw [← hw2]; exact (by repeat (first | (with_reducible exact Keep.refl _ _) | (with_reducible refine Keep.drew ?_) | (with_reducible refine Keep.drewN ?_ _) | (with_reducible refine Keep.alloc ?_ _) | (with_reducible refine Keep.setCell ?_ (by first | (simp; done) | (simp; omega) | (left; dsimp only; omega)) _)))
      have hzb : b < z ∧ g < z := by have := HZ.out; omega
      have HZB := Lib.hid hzb
      have hzy : z + 3 ≤ y := by have := HS.out; omega
      have HZY := Lib.hid hzy
      have hwr2 := HW.out.keep HC.out K2 (by simp) (by simp) (by simp) (by simp) (by have := HZ.out; omega)
      have A2 := HA'.out.keep K2 (by simp) (by simp)
      have I2 := HC.out.keep HI'.out K2 (by simp)
      refine (callsIn_wide.2 (HENT.out w2 A2)).mono ?_
      rintro e w3 ⟨rfl, ⟨t3, la3, A3⟩, K3⟩
      have hwr3 := hwr2.read HC.out K3 hzb.1 hzb.2 A3 I2
      have by3 := K3.get by2 (by simp; omega)
      have K13 : Keep [b, g] wr w3 := (K2.mono (by simp)).trans K3
      have b1 := hwr3.mem; have b2 := hwr3.lay; have b3 := hwr3.fn
      have c1 := cell_at b1; have c2 := cell_at b2; have c3 := cell_at b3; have l1 := lt_of_block b1; have l2 := lt_of_block b2; have l3 := lt_of_block b3
      have cy := cell_at by3; have ly := lt_of_block by3
      have HW3 := Lib.hid hwr3; have HBY3 := Lib.hid by3; have HK13 := Lib.hid K13
      have hhe := fun w => HHD.out k (es k) w
      generalize hek : es k = ek at *
      have hek' := hek
      have HEK := Lib.hid hek
      obtain ⟨q1, q2, q3, q4⟩ := ek
      unfold En.val at hhe
      dsimp only at hhe
      have HHE := Lib.hid hhe
      unfold En.val
      dsimp only
      clear hhe hek hek' hwr3 by3 K13 K3 A3 I2 A2 hwr2 K2 hw2 by2 hzy hzb b1 b2 b3 hy
      gi_wp2
      refine ⟨trivial, ?_⟩
      obtain ⟨ye, hye⟩ : ∃ y, y = w3.heap.size := ⟨_, rfl⟩
      simp only [← hye]
      generalize hw4 : World.alloc w3 _ = w4
      have be4 : w4.heap[ye]? = some (.cells #[.int .u8 q1, .int .u8 q2, .int .u8 q3, .int .u8 q4] 74 (0, 0)) := by rw [← hw4]; exact alloc_new _ _ _ hye
      have K4 : Keep [] w3 w4 := by rw [← hw4]; exact (by repeat (first | (with_reducible exact Keep.refl _ _) | (with_reducible refine Keep.drew ?_) | (with_reducible refine Keep.drewN ?_ _) | (with_reducible refine Keep.alloc ?_ _) | (with_reducible refine Keep.setCell ?_ (by first | (simp; done) | (simp; omega) | (left; dsimp only; omega)) _)))
      have HYE := Lib.hid hye
      clear hw4 hye c1 c2 c3 l1 l2 l3 cy ly
      refine (callsIn_wide.2 (HHE.out w4)).mono ?_
      rintro e w5 ⟨p, q, r, rfl, bp, bq, br, K5⟩
      have K35 := K4.trans K5
      have hwr5 := HW3.out.keep HC.out K35 (by simp) (by simp) (by simp) (by simp) (by have := HZ.out; omega)
      have be5 := K5.get be4 (by simp); have by5 := K35.get HBY3.out (by simp)
      have hds5 : ∀ D ∈ Ds, z ≤ D ∧ D < w5.heap.size ∧ w5.heap[D]? = some (.deferred (some [])) := fun D hD => by
        have h1 := HDS.out D hD
        have h2 := K35.get (HK13.out.get h1.2 (by have := HZB.out; simp; omega)) (by simp)
        exact ⟨h1.1, lt_of_block h2, h2⟩
      have HW5 := Lib.hid hwr5; have HBE5 := Lib.hid be5; have HBY5 := Lib.hid by5; have HDS5 := Lib.hid hds5; have HBP := Lib.hid bp; have HBQ := Lib.hid bq; have HBR := Lib.hid br
      have hyl : y < ye := by have := lt_of_block HBY3.out; have := HYE.out; omega
      have hyel := lt_of_block be5
      have HYL := Lib.hid (And.intro hyl hyel)
      have HB5 := Lib.hid (And.intro (lt_of_block hwr5.mem) (And.intro (lt_of_block hwr5.lay) (lt_of_block hwr5.fn)))
      clear hwr5 be5 by5 hds5 bp bq br K35 K5 K4 be4 hyl hyel
      gi_wp2
      refine wpIn_rangeFunc_ownF rfl (by omega) (gf := 139) (lb := #[.pointer (some ⟨p, 0, none⟩), .pointer (some ⟨q, 0, none⟩), .pointer (some ⟨r, 0, none⟩)]) rfl trivial (enters_of Try.func139 (by kernel_rfl) rfl)
        (heads_stops 7 (by omega) l HF.out k ⟨q1, q2, q3, q4⟩ HU.out _ rfl p q r w5 HBP.out HBQ.out HBR.out) (fun _ _ => trivial) (fun W l o o' hl h1 h2 h3 => trivial) (Below.refl _ _) (fun _ => rfl)
        (fun pre W => Walking w b g own I (headsOf l es k ++ pre.map fun x => (x.1, k)) z l f caps W ∧ W.heap[y]? = some (.cells #[.int .i64 k] 3 (0, 0)) ∧ W.heap[ye]? = some (.cells #[.int .u8 q1, .int .u8 q2, .int .u8 q3, .int .u8 q4] 74 (0, 0)) ∧ (∀ D ∈ Ds, W.heap[D]? = some (.deferred (some []))) ∧ w5.heap.size ≤ W.heap.size)
        (fun _ _ _ => False) ?own
        (fun _ _ _ _ _ hs _ _ => hs)
        ⟨by simpa using HW5.out, HBY5.out, HBE5.out, fun D hD => (HDS5.out D hD).2.2, Nat.le_refl _⟩
        (fun x => { tmps := #[.iface 25 (.pointer (some ⟨b, 0, none⟩)), .agg #[.int .i64 l.t, .int .i64 l.g, .int .i64 l.b], .func (.func f) #[] caps, .pointer (some ⟨z, 0, none⟩), .pointer (some ⟨z + 1, 0, none⟩), .pointer (some ⟨z + 1 + 1, 0, none⟩), .pointer (some ⟨y, 0, none⟩), .pointer (some ⟨ye, 0, none⟩), .int .i64 x.1,
          .iface 25 (.pointer (some ⟨b, 0, none⟩)), .bool false, .bool false, .func (.func f) #[] caps, .bool false, .bool false, .agg #[.int .i64 l.t, .int .i64 l.g, .int .i64 l.b], .int .i64 l.b, .int .i64 k, .bool true, .int .i64 k, .iface 25 (.pointer (some ⟨b, 0, none⟩)), .agg #[.int .i64 l.t, .int .i64 l.g, .int .i64 l.b], .int .i64 k, .agg #[.int .u8 q1, .int .u8 q2, .int .u8 q3, .int .u8 q4], .agg #[.int .i64 l.t, .int .i64 l.g, .int .i64 l.b], .int .i64 k, .agg #[.int .u8 q1, .int .u8 q2, .int .u8 q3, .int .u8 q4],
          .func (.func 139) #[] #[.pointer (some ⟨p, 0, none⟩), .pointer (some ⟨q, 0, none⟩), .pointer (some ⟨r, 0, none⟩)], .int .i64 x.1, undef, undef, undef, undef, undef, undef, undef, undef, v37], defers := [] }) ?assign ?body ?done ?stop
      case own =>
        rintro pre A B row ⟨hW, hy, he, hd, hs⟩ hg hr
        have hsz := hg.size
        have kg : Keep row.toList A B := (Keep.refl _ _).grown hg (fun k hk => .inr (by simp [hk]))
        have hrow : ∀ x ∈ row.toList, w5.heap.size ≤ x ∧ ∃ o : Obj, A.heap[x]? = some o ∧ o.isCells = false := fun x hx => hr x (by simpa using hx)
        have hb5 := HB5.out; have hyl := HYL.out; have hzb := HZB.out; have hzz := HZ.out
        refine ⟨hW.keep HC.out kg (fun m => ?_) (fun m => ?_) (fun x hx m => ?_) (fun x hx => ?_) (by omega), kg.get hy (fun m => ?_), kg.get he (fun m => ?_), fun D hD => kg.get (hd D hD) (fun m => ?_), by omega⟩
        · have := (hrow _ m).1; omega
        · have := (hrow _ m).1; omega
        · have := (hrow _ m).1; have := HOB.out x hx; omega
        · have := (hrow _ hx).1; omega
        · have := (hrow _ m).1; omega
        · have := (hrow _ m).1; omega
        · have := (hrow _ m).1; have := (HDS5.out D hD).2.1; omega
      case assign =>
        intro l x W K hK
        gi_wp2
        exact hK
      case body =>
        rintro lp pre ⟨a, ha⟩ W5 ⟨hW5, hy5, he5, hd5, hs5⟩ _
        have hinr := mem_read
        simp [go_sem] at hinr
        have hF := HC.out.enter
        have b1 := hW5.mem; have b3 := hW5.fn
        have c1 := cell_at b1; have c3 := cell_at b3; have cy := cell_at hy5; have ce := cell_at he5
        have HW5' := Lib.hid hW5; have HY5 := Lib.hid hy5; have HE5 := Lib.hid he5; have HD5 := Lib.hid hd5; have HS5 := Lib.hid hs5
        obtain ⟨W6, ⟨t6, la6, A5⟩, I5⟩ := hW5.state
        have hro := HC.out.round (headsOf l es k ++ pre.map fun x => (x.1, k)) W6
        have hap := HC.out.apart
        have HRO : Hid (∀ (w : World) (t la : Int), I (headsOf l es k ++ pre.map fun x => (x.1, k)) W6 w → Arn w b g W6 t la → Calls Try.prog f (#[.int .i64 a, .int .i64 k, .agg #[.int .u8 q1, .int .u8 q2, .int .u8 q3, .int .u8 q4], .int .u64 (rdz W6 a)] ++ caps) w fun x w' =>
            x = .returned (.tuple #[]) ∧ ∃ W', (∃ t' la', Arn w' b g W' t' la') ∧ I ((headsOf l es k ++ pre.map fun x => (x.1, k)) ++ [(a, k)]) W' w' ∧ Keep (b :: g :: own) w w') := by
          intro w t la hI hA
          have h := hro w t la a k hI hA hkn (by rw [HEK.out]; exact ha)
          rw [HEK.out] at h
          exact h
        have hcel := HC.out.cells I5
        have HA5 := Lib.hid A5; have HI5 := Lib.hid I5; have HCEL := Lib.hid hcel; have HAP := Lib.hid hap
        clear hW5 hy5 he5 hd5 hs5 b1 b3 A5 I5 hro hcel hap
        dsimp only
        gi_wp2
        obtain ⟨S, hS⟩ : ∃ S : World → Prop, ∀ w', S w' = (w'.cell? ⟨z, 0, none⟩ = some (.iface 25 (.pointer (some ⟨b, 0, none⟩))) ∧ w'.cell? ⟨z + 1 + 1, 0, none⟩ = some (.func (.func f) #[] caps) ∧ w'.cell? ⟨y, 0, none⟩ = some (.int .i64 k) ∧ w'.cell? ⟨ye, 0, none⟩ = some (.int .u8 q1) ∧ w'.cell? ⟨ye, 1, none⟩ = some (.int .u8 q2) ∧ w'.cell? ⟨ye, 2, none⟩ = some (.int .u8 q3) ∧ w'.cell? ⟨ye, 3, none⟩ = some (.int .u8 q4)) := ⟨fun w' => (w'.cell? ⟨z, 0, none⟩ = some (.iface 25 (.pointer (some ⟨b, 0, none⟩))) ∧ w'.cell? ⟨z + 1 + 1, 0, none⟩ = some (.func (.func f) #[] caps) ∧ w'.cell? ⟨y, 0, none⟩ = some (.int .i64 k) ∧ w'.cell? ⟨ye, 0, none⟩ = some (.int .u8 q1) ∧ w'.cell? ⟨ye, 1, none⟩ = some (.int .u8 q2) ∧ w'.cell? ⟨ye, 2, none⟩ = some (.int .u8 q3) ∧ w'.cell? ⟨ye, 3, none⟩ = some (.int .u8 q4)), fun _ => rfl⟩
        have HS0 : S W5.drew := by rw [hS]; exact ⟨c1 0, c3 0, cy 0, ce 0, ce 1, ce 2, ce 3⟩
        refine region_round (S := S) mixed (by intro i o c h; have hm := Array.mem_of_getElem? h; simp at hm; rcases hm with rfl | rfl | rfl | rfl | rfl | rfl | rfl | rfl <;> simp) (by rintro ⟨a, w, h⟩; exact h) ?_
        refine wpAnyH_take (i := 0) (v := (.func (.func f) #[] caps)) rfl (by kernel_rfl) (by kernel_rfl) (by kernel_rfl) (fun _ _ _ h => h) (Or.inl ⟨by rfl, fun w' hw => by rw [hS] at hw; obtain ⟨s1, s2, s3, s4, s5, s6, s7⟩ := hw; simp [go_sem, s1, s2, s3, s4, s5, s6, s7]⟩) HS0 ?_
        show wpAnyH _ _ _ _ _ 7 #[true, false, false, false, false, false, false, false] { tmps := #[(.iface 25 (.pointer (some ⟨b, 0, none⟩))), (.agg #[.int .i64 l.t, .int .i64 l.g, .int .i64 l.b]), (.func (.func f) #[] caps), .pointer (some ⟨z, 0, none⟩), .pointer (some ⟨z + 1, 0, none⟩), .pointer (some ⟨z + 1 + 1, 0, none⟩), .pointer (some ⟨y, 0, none⟩), .pointer (some ⟨ye, 0, none⟩), .int .i64 a, (.iface 25 (.pointer (some ⟨b, 0, none⟩))), .bool false, .bool false, (.func (.func f) #[] caps), .bool false, .bool false, (.agg #[.int .i64 l.t, .int .i64 l.g, .int .i64 l.b]), .int .i64 l.b, .int .i64 k, .bool true, .int .i64 k, (.iface 25 (.pointer (some ⟨b, 0, none⟩))), (.agg #[.int .i64 l.t, .int .i64 l.g, .int .i64 l.b]), .int .i64 k, (.agg #[.int .u8 q1, .int .u8 q2, .int .u8 q3, .int .u8 q4]), (.agg #[.int .i64 l.t, .int .i64 l.g, .int .i64 l.b]), .int .i64 k, (.agg #[.int .u8 q1, .int .u8 q2, .int .u8 q3, .int .u8 q4]), .func (.func 139) #[] #[.pointer (some ⟨p, 0, none⟩), .pointer (some ⟨q, 0, none⟩), .pointer (some ⟨r, 0, none⟩)], .int .i64 a, (.func (.func f) #[] caps), undef, undef, undef, undef, undef, undef, undef, v37], defers := [] } _
        refine wpAnyH_take (i := 1) (v := (.int .i64 a)) rfl (by kernel_rfl) (by kernel_rfl) (by kernel_rfl) (fun _ _ _ h => h) (Or.inl ⟨by rfl, fun w' hw => by rw [hS] at hw; obtain ⟨s1, s2, s3, s4, s5, s6, s7⟩ := hw; simp [go_sem, s1, s2, s3, s4, s5, s6, s7]⟩) HS0 ?_
        show wpAnyH _ _ _ _ _ 6 #[true, true, false, false, false, false, false, false] { tmps := #[(.iface 25 (.pointer (some ⟨b, 0, none⟩))), (.agg #[.int .i64 l.t, .int .i64 l.g, .int .i64 l.b]), (.func (.func f) #[] caps), .pointer (some ⟨z, 0, none⟩), .pointer (some ⟨z + 1, 0, none⟩), .pointer (some ⟨z + 1 + 1, 0, none⟩), .pointer (some ⟨y, 0, none⟩), .pointer (some ⟨ye, 0, none⟩), .int .i64 a, (.iface 25 (.pointer (some ⟨b, 0, none⟩))), .bool false, .bool false, (.func (.func f) #[] caps), .bool false, .bool false, (.agg #[.int .i64 l.t, .int .i64 l.g, .int .i64 l.b]), .int .i64 l.b, .int .i64 k, .bool true, .int .i64 k, (.iface 25 (.pointer (some ⟨b, 0, none⟩))), (.agg #[.int .i64 l.t, .int .i64 l.g, .int .i64 l.b]), .int .i64 k, (.agg #[.int .u8 q1, .int .u8 q2, .int .u8 q3, .int .u8 q4]), (.agg #[.int .i64 l.t, .int .i64 l.g, .int .i64 l.b]), .int .i64 k, (.agg #[.int .u8 q1, .int .u8 q2, .int .u8 q3, .int .u8 q4]), .func (.func 139) #[] #[.pointer (some ⟨p, 0, none⟩), .pointer (some ⟨q, 0, none⟩), .pointer (some ⟨r, 0, none⟩)], .int .i64 a, (.func (.func f) #[] caps), (.int .i64 a), undef, undef, undef, undef, undef, undef, v37], defers := [] } _
        refine wpAnyH_take (i := 2) (v := (.int .i64 k)) rfl (by kernel_rfl) (by kernel_rfl) (by kernel_rfl) (fun _ _ _ h => h) (Or.inl ⟨by rfl, fun w' hw => by rw [hS] at hw; obtain ⟨s1, s2, s3, s4, s5, s6, s7⟩ := hw; simp [go_sem, s1, s2, s3, s4, s5, s6, s7]⟩) HS0 ?_
        show wpAnyH _ _ _ _ _ 5 #[true, true, true, false, false, false, false, false] { tmps := #[(.iface 25 (.pointer (some ⟨b, 0, none⟩))), (.agg #[.int .i64 l.t, .int .i64 l.g, .int .i64 l.b]), (.func (.func f) #[] caps), .pointer (some ⟨z, 0, none⟩), .pointer (some ⟨z + 1, 0, none⟩), .pointer (some ⟨z + 1 + 1, 0, none⟩), .pointer (some ⟨y, 0, none⟩), .pointer (some ⟨ye, 0, none⟩), .int .i64 a, (.iface 25 (.pointer (some ⟨b, 0, none⟩))), .bool false, .bool false, (.func (.func f) #[] caps), .bool false, .bool false, (.agg #[.int .i64 l.t, .int .i64 l.g, .int .i64 l.b]), .int .i64 l.b, .int .i64 k, .bool true, .int .i64 k, (.iface 25 (.pointer (some ⟨b, 0, none⟩))), (.agg #[.int .i64 l.t, .int .i64 l.g, .int .i64 l.b]), .int .i64 k, (.agg #[.int .u8 q1, .int .u8 q2, .int .u8 q3, .int .u8 q4]), (.agg #[.int .i64 l.t, .int .i64 l.g, .int .i64 l.b]), .int .i64 k, (.agg #[.int .u8 q1, .int .u8 q2, .int .u8 q3, .int .u8 q4]), .func (.func 139) #[] #[.pointer (some ⟨p, 0, none⟩), .pointer (some ⟨q, 0, none⟩), .pointer (some ⟨r, 0, none⟩)], .int .i64 a, (.func (.func f) #[] caps), (.int .i64 a), (.int .i64 k), undef, undef, undef, undef, undef, v37], defers := [] } _
        refine wpAnyH_take (i := 3) (v := (.agg #[.int .u8 q1, .int .u8 q2, .int .u8 q3, .int .u8 q4])) rfl (by kernel_rfl) (by kernel_rfl) (by kernel_rfl) (fun _ _ _ h => h) (Or.inl ⟨by rfl, fun w' hw => by rw [hS] at hw; obtain ⟨s1, s2, s3, s4, s5, s6, s7⟩ := hw; simp [go_sem, s1, s2, s3, s4, s5, s6, s7]⟩) HS0 ?_
        show wpAnyH _ _ _ _ _ 4 #[true, true, true, true, false, false, false, false] { tmps := #[(.iface 25 (.pointer (some ⟨b, 0, none⟩))), (.agg #[.int .i64 l.t, .int .i64 l.g, .int .i64 l.b]), (.func (.func f) #[] caps), .pointer (some ⟨z, 0, none⟩), .pointer (some ⟨z + 1, 0, none⟩), .pointer (some ⟨z + 1 + 1, 0, none⟩), .pointer (some ⟨y, 0, none⟩), .pointer (some ⟨ye, 0, none⟩), .int .i64 a, (.iface 25 (.pointer (some ⟨b, 0, none⟩))), .bool false, .bool false, (.func (.func f) #[] caps), .bool false, .bool false, (.agg #[.int .i64 l.t, .int .i64 l.g, .int .i64 l.b]), .int .i64 l.b, .int .i64 k, .bool true, .int .i64 k, (.iface 25 (.pointer (some ⟨b, 0, none⟩))), (.agg #[.int .i64 l.t, .int .i64 l.g, .int .i64 l.b]), .int .i64 k, (.agg #[.int .u8 q1, .int .u8 q2, .int .u8 q3, .int .u8 q4]), (.agg #[.int .i64 l.t, .int .i64 l.g, .int .i64 l.b]), .int .i64 k, (.agg #[.int .u8 q1, .int .u8 q2, .int .u8 q3, .int .u8 q4]), .func (.func 139) #[] #[.pointer (some ⟨p, 0, none⟩), .pointer (some ⟨q, 0, none⟩), .pointer (some ⟨r, 0, none⟩)], .int .i64 a, (.func (.func f) #[] caps), (.int .i64 a), (.int .i64 k), (.agg #[.int .u8 q1, .int .u8 q2, .int .u8 q3, .int .u8 q4]), undef, undef, undef, undef, v37], defers := [] } _
        refine wpAnyH_take (i := 4) (v := (.iface 25 (.pointer (some ⟨b, 0, none⟩)))) rfl (by kernel_rfl) (by kernel_rfl) (by kernel_rfl) (fun _ _ _ h => h) (Or.inl ⟨by rfl, fun w' hw => by rw [hS] at hw; obtain ⟨s1, s2, s3, s4, s5, s6, s7⟩ := hw; simp [go_sem, s1, s2, s3, s4, s5, s6, s7]⟩) HS0 ?_
        show wpAnyH _ _ _ _ _ 3 #[true, true, true, true, true, false, false, false] { tmps := #[(.iface 25 (.pointer (some ⟨b, 0, none⟩))), (.agg #[.int .i64 l.t, .int .i64 l.g, .int .i64 l.b]), (.func (.func f) #[] caps), .pointer (some ⟨z, 0, none⟩), .pointer (some ⟨z + 1, 0, none⟩), .pointer (some ⟨z + 1 + 1, 0, none⟩), .pointer (some ⟨y, 0, none⟩), .pointer (some ⟨ye, 0, none⟩), .int .i64 a, (.iface 25 (.pointer (some ⟨b, 0, none⟩))), .bool false, .bool false, (.func (.func f) #[] caps), .bool false, .bool false, (.agg #[.int .i64 l.t, .int .i64 l.g, .int .i64 l.b]), .int .i64 l.b, .int .i64 k, .bool true, .int .i64 k, (.iface 25 (.pointer (some ⟨b, 0, none⟩))), (.agg #[.int .i64 l.t, .int .i64 l.g, .int .i64 l.b]), .int .i64 k, (.agg #[.int .u8 q1, .int .u8 q2, .int .u8 q3, .int .u8 q4]), (.agg #[.int .i64 l.t, .int .i64 l.g, .int .i64 l.b]), .int .i64 k, (.agg #[.int .u8 q1, .int .u8 q2, .int .u8 q3, .int .u8 q4]), .func (.func 139) #[] #[.pointer (some ⟨p, 0, none⟩), .pointer (some ⟨q, 0, none⟩), .pointer (some ⟨r, 0, none⟩)], .int .i64 a, (.func (.func f) #[] caps), (.int .i64 a), (.int .i64 k), (.agg #[.int .u8 q1, .int .u8 q2, .int .u8 q3, .int .u8 q4]), (.iface 25 (.pointer (some ⟨b, 0, none⟩))), undef, undef, undef, v37], defers := [] } _
        refine wpAnyH_take (i := 5) (v := (.int .i64 a)) rfl (by kernel_rfl) (by kernel_rfl) (by kernel_rfl) (fun _ _ _ h => h) (Or.inl ⟨by rfl, fun w' hw => by rw [hS] at hw; obtain ⟨s1, s2, s3, s4, s5, s6, s7⟩ := hw; simp [go_sem, s1, s2, s3, s4, s5, s6, s7]⟩) HS0 ?_
        show wpAnyH _ _ _ _ _ 2 #[true, true, true, true, true, true, false, false] { tmps := #[(.iface 25 (.pointer (some ⟨b, 0, none⟩))), (.agg #[.int .i64 l.t, .int .i64 l.g, .int .i64 l.b]), (.func (.func f) #[] caps), .pointer (some ⟨z, 0, none⟩), .pointer (some ⟨z + 1, 0, none⟩), .pointer (some ⟨z + 1 + 1, 0, none⟩), .pointer (some ⟨y, 0, none⟩), .pointer (some ⟨ye, 0, none⟩), .int .i64 a, (.iface 25 (.pointer (some ⟨b, 0, none⟩))), .bool false, .bool false, (.func (.func f) #[] caps), .bool false, .bool false, (.agg #[.int .i64 l.t, .int .i64 l.g, .int .i64 l.b]), .int .i64 l.b, .int .i64 k, .bool true, .int .i64 k, (.iface 25 (.pointer (some ⟨b, 0, none⟩))), (.agg #[.int .i64 l.t, .int .i64 l.g, .int .i64 l.b]), .int .i64 k, (.agg #[.int .u8 q1, .int .u8 q2, .int .u8 q3, .int .u8 q4]), (.agg #[.int .i64 l.t, .int .i64 l.g, .int .i64 l.b]), .int .i64 k, (.agg #[.int .u8 q1, .int .u8 q2, .int .u8 q3, .int .u8 q4]), .func (.func 139) #[] #[.pointer (some ⟨p, 0, none⟩), .pointer (some ⟨q, 0, none⟩), .pointer (some ⟨r, 0, none⟩)], .int .i64 a, (.func (.func f) #[] caps), (.int .i64 a), (.int .i64 k), (.agg #[.int .u8 q1, .int .u8 q2, .int .u8 q3, .int .u8 q4]), (.iface 25 (.pointer (some ⟨b, 0, none⟩))), (.int .i64 a), undef, undef, v37], defers := [] } _
        refine wpAnyH_all (rs := [6]) (by kernel_rfl) (by simp) ?_
        intro i hi
        obtain rfl : i = 6 := by simpa using hi
        refine wpOp_step rfl (fun K' hK => ?_)
        have HK := Lib.hid hK
        clear hK
        rw [if_pos (by rfl)]
        go_wp2_with fail
        refine (arena_read_any (HA5.out.keep (S := []) (w' := W5.drew) (Keep.refl _ _).drew (by simp) (by simp)) a).mono ?_
        rintro e w6 ⟨rfl, A6, K6⟩
        have hK6 := Keep.trans (S := [b, g]) (a := W5) (Keep.refl _ _).drew K6
        have hob6 : ∀ x ∈ own, x ∉ [b, g] := by
          intro x hx m
          simp at m
          rcases m with rfl | rfl
          · exact HAP.out.1 hx
          · exact HAP.out.2 hx
        have hw6 := HW5'.out.read HC.out hK6 HZB.out.1 HZB.out.2 A6 HI5.out
        have hbg : b < z ∧ g < z ∧ z + 3 ≤ y ∧ y < ye := ⟨HZB.out.1, HZB.out.2, HZY.out, HYL.out.1⟩
        have hy6 := hK6.get HY5.out (by simp; omega); have he6 := hK6.get HE5.out (by simp; omega)
        have d1 := cell_at hw6.mem; have d3 := cell_at hw6.fn; have dy := cell_at hy6; have de := cell_at he6
        have HS6 : S w6 := by rw [hS]; exact ⟨d1 0, d3 0, dy 0, de 0, de 1, de 2, de 3⟩
        have HI6 := Lib.hid (HC.out.keep HI5.out hK6 hob6)
        have hd6 : ∀ D ∈ Ds, w6.heap[D]? = some (.deferred (some [])) := fun D hD => hK6.get (HD5.out D hD) (by have := (HDS5.out D hD).1; simp; omega)
        have HA6 := Lib.hid A6; have HK6 := Lib.hid hK6; have HD6 := Lib.hid hd6; have HY6 := Lib.hid hy6; have HE6 := Lib.hid he6; have HW6 := Lib.hid hw6
        clear A6 K6 hK6 hob6 hw6 hy6 he6 d1 d3 dy de hd6 c1 c3 cy ce HS0
        refine HK.out _ _ ⟨HS6, ?_⟩
        refine wpAnyH_all (rs := [7]) (by kernel_rfl) (by simp) ?_
        intro i hi
        obtain rfl : i = 7 := by simpa using hi
        refine wpOp_step rfl (fun K2 hK2 => ?_)
        have HK2 := Lib.hid hK2
        clear hK2
        rw [if_pos (by rfl)]
        go_wp2_with fail
        refine (HRO.out w6 _ _ HI6.out HA6.out).mono ?_
        rintro e w7 ⟨rfl, W7, hA7, I7, K7⟩
        have hnz : ∀ x, z ≤ x → x ∉ b :: g :: own := fun x hx m => by
          simp at m
          rcases m with rfl | rfl | m
          · omega
          · omega
          · have := HOB.out x m; have := HZ.out; omega
        have hy7 := K7.get HY6.out (hnz y (by omega)); have he7 := K7.get HE6.out (hnz ye (by omega))
        have hW7 : Walking w b g own I ((headsOf l es k ++ pre.map fun x => (x.1, k)) ++ [(a, k)]) z l f caps w7 := ⟨⟨W7, hA7, I7⟩, K7.get HW6.out.mem (hnz _ (by omega)), K7.get HW6.out.lay (hnz _ (by omega)), K7.get HW6.out.fn (hnz _ (by omega)), HW6.out.all.trans K7⟩
        have d1 := cell_at hW7.mem; have d3 := cell_at hW7.fn; have dy := cell_at hy7; have de := cell_at he7
        refine HK2.out _ _ ⟨by rw [hS]; exact ⟨d1 0, d3 0, dy 0, de 0, de 1, de 2, de 3⟩, wpAnyH_done (by kernel_rfl) ?_ _⟩
        have k57 : Keep (b :: g :: own) W5 w7 := (HK6.out.mono (by simp)).trans K7
        refine ⟨keepsOthers_of_keep k57 (fun x hx => ?_), trivial, ?_, hy7, he7, fun D hD => K7.get (HD6.out D hD) (hnz D (HDS5.out D hD).1), Nat.le_trans HS5.out k57.size⟩
        · simp only [List.mem_cons] at hx
          rcases hx with rfl | rfl | hx
          · exact ⟨_, _, _, HA5.out.head⟩
          · exact ⟨_, _, _, HA5.out.row⟩
          · exact HCEL.out x hx
        · rw [List.map_append, ← List.append_assoc]
          exact hW7
      case done =>
        rintro D ys W9 hD hys ⟨hW9, hy9, he9, hd9, hs9⟩ hK
        gi_wp2
        have hk64 : k < 1000000 := by have := HF.out.2.2; omega
        rw [wrap64_next k hk64]
        have hwk : Walking w b g own I (headsOf l es (k + 1)) z l f caps W9 := by
          rw [headsOf_succ, HEK.out, ← hys, List.map_map]
          exact hW9
        have hbd := HB5.out
        refine ⟨⟨k + 1, D :: Ds, _, _, _, _, _, _, _, _, _, _, _, _, _, by omega, List.nodup_cons.2 ⟨fun hm => ?_, HND.out⟩, fun D' hD' => ?_, hwk, by omega, rfl⟩, ?_⟩
        · have := (HDS5.out D hm).2.1; omega
        · rcases List.mem_cons.1 hD' with rfl | hD'
          · exact ⟨by omega, hK⟩
          · exact ⟨(HDS5.out D' hD').1, hd9 D' hD'⟩
        · show l.b - ((k + 1 : Nat) : Int).toNat < l.b - (k : Int).toNat
          omega
      case stop =>
        rintro D c pre W hD hpre h hK
        exact h.elim
    · obtain rfl : k = l.b := by omega
      gi_wp2
      refine leaves_marks Ds wr HND.out (fun D hD => (HDS.out D hD).2) (fun w' K => ?_)
      have hne : ∀ x, x < z → x ∉ Ds := fun x hx hm => by have := (HDS.out x hm).1; omega
      have hzb : b < z ∧ g < z := by have := HZ.out; omega
      exact ⟨_, results_none rfl _ _ _, rfl, W', ⟨t', la', hA'.keep K (hne b hzb.1) (hne g hzb.2)⟩, HC.out.keep hI' K (fun x hx => hne x (by have := HOB.out x hx; have := HZ.out; omega)),
        HW.out.all.fresh K (fun x hx => .inl (by have := (HDS.out x hx).1; have := HZ.out; omega))⟩
end Go.Proofs.Ytnadiddaeolanaa
