/- The contracts of package give: Back. -/
import Derived.Test.YtnadiddaeolanaaGive2
import Derived.Test.YtnadiddaeolanaaWordsPut
import Derived.Deep.DeepCutAuto
import Derived.Deep.CutBlock
namespace Go.Proofs.Ytnadiddaeolanaa
open Go.RowKit
set_option linter.unusedVariables false
set_option linter.unusedSimpArgs false

def okBack (l : Lay) (k r : Int) : Bool := decide (1 ≤ r ∧ r ≤ 3 ∧ 0 ≤ k ∧ k ≤ l.b - r)
def backV (m : Nat) (k r : Int) : Nat := if isRun m k r false then withRun m k.toNat r.toNat true else m
def Lay.base (l : Lay) : Nat := 3 + l.t + l.g
/-- The words when the entries from a block on are nothing. -/
def zeroW (W : List Int) (l : Lay) (k r : Int) : List Int := W.mapIdx fun p x => if l.base + k ≤ p ∧ (p : Int) < l.base + k + r then 0 else x
/-- The words behind Back. -/
def backW (W : List Int) (l : Lay) (k r : Int) : List Int := if okBack l k r then putz (zeroW W l k r) 0 (backV (rdz W 0).toNat k r : Nat) else W
theorem zeroW_len (W : List Int) (l : Lay) (k r : Int) : (zeroW W l k r).length = W.length := by simp [zeroW]
theorem backW_len (W : List Int) (l : Lay) (k r : Int) : (backW W l k r).length = W.length := by
  unfold backW; split
  · rw [putz_length, zeroW_len]
  · rfl
theorem ext_rdz {W V : List Int} (h : W.length = V.length) (he : ∀ i : Nat, i < W.length → rdz W i = rdz V i) : W = V := by
  apply List.ext_getElem h
  intro i h1 h2
  have := he i h1
  rwa [rdz_nat h1, rdz_nat h2] at this
theorem zeroW_rdz (W : List Int) (l : Lay) (k r : Int) (i : Nat) (hi : i < W.length) : rdz (zeroW W l k r) i = if l.base + k ≤ i ∧ (i : Int) < l.base + k + r then 0 else rdz W i := by
  rw [rdz_nat (by rw [zeroW_len]; exact hi), rdz_nat hi]
  simp [zeroW]
theorem rdz_putz2 (W : List Int) (a v : Int) (i : Nat) (hi : i < W.length) : rdz (putz W a v) i = if a = i then v else rdz W i := by
  cases h : inr W.length a with
  | false =>
    have : ¬ a = i := fun e => by subst e; rw [inr_nat hi] at h; cases h
    simp [putz, h, this]
  | true =>
    obtain ⟨q, rfl, hq⟩ := inr_true h
    rw [putz_nat hq, rdz_nat (by simpa using hi), rdz_nat hi, List.getElem_set]
    by_cases e : q = i
    · subst e; simp
    · have : ¬ (q : Int) = i := by omega
      simp [e, this]
theorem Words.of {W : List Int} (h : ∀ i : Nat, i < W.length → 0 ≤ rdz W i ∧ rdz W i < 18446744073709551616) : Words W := fun j => by
  cases hi : inr W.length j with
  | false => rw [rdz_out hi]; decide
  | true => obtain ⟨q, rfl, hq⟩ := inr_true hi; exact h q hq
theorem zeroW_words {W : List Int} (hW : Words W) (l : Lay) (k r : Int) : Words (zeroW W l k r) := Words.of fun i hi => by
  rw [zeroW_len] at hi
  rw [zeroW_rdz _ _ _ _ _ hi]
  split
  · decide
  · exact hW i
theorem backV_lt {m : Nat} (hm : m < 18446744073709551616) (k r : Int) : backV m k r < 18446744073709551616 := by
  unfold backV
  split
  · rename_i h
    refine withRun_lt hm ?_ _
    simp [isRun, goodRun] at h
    omega
  · exact hm
theorem claimV_lt {m : Nat} (hm : m < 18446744073709551616) (r : Int) : claimV m r < 18446744073709551616 := by
  unfold claimV
  split
  · rename_i a h
    refine withRun_lt hm ?_ _
    have := findN_is h
    simp [isRun, goodRun] at this
    omega
  · exact hm
theorem backW_words {W : List Int} (hW : Words W) (l : Lay) (k r : Int) : Words (backW W l k r) := by
  unfold backW
  split
  · refine Words.put (zeroW_words hW l k r) 0 _ ?_
    have h0 := hW 0
    have := backV_lt (m := (rdz W 0).toNat) (by omega) k r
    omega
  · exact hW

theorem Lay.entry_in {l : Lay} {i : Int} (h : 0 ≤ i ∧ i < l.b) : l.entry i = l.base + i := by
  unfold Lay.entry spot Lay.base
  rw [if_pos h]; omega
theorem Lay.entry_out {l : Lay} {i : Int} (h : ¬ (0 ≤ i ∧ i < l.b)) : l.entry i = -1 := by
  unfold Lay.entry spot
  rw [if_neg h]
theorem zeroW_none (W : List Int) (l : Lay) (k : Int) : zeroW W l k 0 = W := by
  refine ext_rdz (zeroW_len _ _ _ _) fun i hi => ?_
  rw [zeroW_len] at hi
  rw [zeroW_rdz _ _ _ _ _ hi, if_neg (by omega)]
theorem zeroW_step (W : List Int) (l : Lay) (k r : Int) (hr : 0 ≤ r) (hk : 0 ≤ k) : zeroW W l k (r + 1) = putz (zeroW W l (k + 1) r) (l.base + k) 0 := by
  refine ext_rdz (by rw [putz_length, zeroW_len, zeroW_len]) fun i hi => ?_
  rw [zeroW_len] at hi
  rw [zeroW_rdz _ _ _ _ _ hi, rdz_putz2 _ _ _ _ (by rw [zeroW_len]; exact hi), zeroW_rdz _ _ _ _ _ hi]
  by_cases h1 : (l.base : Int) + k = i
  · rw [if_pos (by omega), if_pos h1]
  · rw [if_neg h1]
    by_cases h2 : (l.base : Int) + (k + 1) ≤ i ∧ (i : Int) < l.base + (k + 1) + r
    · rw [if_pos (by omega), if_pos h2]
    · rw [if_neg (by omega), if_neg h2]

set_option maxRecDepth 100000 in
theorem give_back_fn (m : Nat) (hm : m < 18446744073709551616) (k r : Int) (p q : Nat) (w : World) (hp : w.heap[p]? = some (.cells #[.int .i64 k] 3 (0, 0))) (hq : w.heap[q]? = some (.cells #[.int .i64 r] 3 (0, 0))) :
    Calls Try.prog 93 #[.int .u64 m, .pointer (some ⟨p, 0, none⟩), .pointer (some ⟨q, 0, none⟩)] w fun e w' => e = .returned (.int .u64 (backV m k r : Nat)) ∧ Keep [] w w' := by
  refine calls_abs fun R hR => ?_
  have cp := cell_at hp; have cq := cell_at hq
  clear hp hq
  go_enter Try.func93, Try.ntmps93
  go_wp2_with fail
  refine (bitmap_give m hm k r _).mono ?_
  rintro e w2 ⟨rfl, hw2⟩
  subst hw2
  rw [show (if isRun m k r false = true then withRun m k.toNat r.toNat true else m) = backV m k r from rfl]
  generalize isRun m k r false = ir
  go_wp2_with fail
  exact hR.out _ _ ⟨rfl, (by repeat (first | (with_reducible exact Keep.refl _ _) | (with_reducible refine Keep.drew ?_) | (with_reducible refine Keep.drewN ?_ _) | (with_reducible refine Keep.alloc ?_ _) | (with_reducible refine Keep.setCell ?_ (by first | (simp; done) | (simp; omega) | (left; dsimp only; omega)) _)))⟩

set_option maxRecDepth 100000 in
set_option maxHeartbeats 4000000 in
theorem give_back {w : World} {b g : Nat} {W : List Int} {t la : Int} (h : Arn w b g W t la) (hW : Words W) (l : Lay) (hl : l.fits) (hfit : l.base + l.b ≤ W.length) (k r : Int) :
    Calls Try.prog 38 #[.iface 25 (.pointer (some ⟨b, 0, none⟩)), l.val, .int .i64 k, .int .i64 r] w fun e w' => e = .returned (.tuple #[]) ∧
      (∃ t' la', Arn w' b g (backW W l k r) t' la' ∧ (t' - t) % 18446744073709551616 = if okBack l k r then r + 1 else 0) ∧ Keep [b, g] w w' := by
  refine calls_abs fun R hR => ?_
  have mixed : Try.prog.follows .mixedOrders = true := by kernel_rfl
  have hmf : ∀ (fn : Fn) (first cap : Array Value) (w : World), (Instr.makeFunc fn first cap).run Try.prog w = .ok (.func fn first cap) w := fun _ _ _ _ => rfl
  have hinw := mem_write
  simp [go_sem] at hinw
  have hinv := mem_update
  simp [go_sem] at hinv
  have hnil := mem_nil_write b
  have hF := Try.call93
  have hbl := fun w => layout_blocks l w
  have hent := fun i w => layout_entry l hl i w
  have hval : l.val = .agg #[.int .i64 l.t, .int .i64 l.g, .int .i64 l.b] := rfl
  rw [hval] at hbl hent ⊢
  have HBL := Lib.hid hbl; have HENT := Lib.hid hent; have H := Lib.hid h; have HFIT := Lib.hid hfit
  have lb := lt_of_block h.head; have lg := lt_of_block h.row
  have HL := Lib.hid hl
  have hb64 := hl.2.2
  clear hbl hent hval h hfit hl
  have hbad : okBack l k r = false → ∀ w', Keep [] w w' → R (.returned (.tuple #[])) w' := fun hb w' K => hR.out _ _ ⟨rfl, ⟨t, la, by unfold backW; rw [hb]; exact H.out.keep K (by simp) (by simp), by rw [hb]; simp⟩, K.mono (by simp)⟩
  have HBAD := Lib.hid hbad
  clear hbad
  go_enter Try.func38, Try.ntmps38
  go_wp2_with fail
  obtain ⟨z, hz⟩ : ∃ z, z = w.heap.size := ⟨_, rfl⟩
  simp only [← hz] at lb lg ⊢
  generalize hw1 : World.alloc _ _ = w1
  have b1 : w1.heap[z]? = some (.cells #[.int .i64 l.t, .int .i64 l.g, .int .i64 l.b] 53 (0, 0)) := by rw [← hw1, hz]; exact alloc_keeps (alloc_keeps (alloc_new _ _ _ rfl) _) _
  have b2 : w1.heap[z + 1]? = some (.cells #[.int .i64 k] 3 (0, 0)) := by rw [← hw1, hz]; exact alloc_keeps (alloc_new _ _ _ (by simp)) _
  have b3 : w1.heap[z + 2]? = some (.cells #[.int .i64 r] 3 (0, 0)) := by rw [← hw1, hz]; exact alloc_new _ _ _ (by simp)
  have K1 : Keep [] w w1 := by rw [← hw1]; exact (by repeat (first | (with_reducible exact Keep.refl _ _) | (with_reducible refine Keep.drew ?_) | (with_reducible refine Keep.drewN ?_ _) | (with_reducible refine Keep.alloc ?_ _) | (with_reducible refine Keep.setCell ?_ (by first | (simp; done) | (simp; omega) | (left; dsimp only; omega)) _)))
  have hs1 : w1.heap.size = z + 3 := by rw [← hw1, hz]; simp
  have H1 := Lib.hid (H.out.keep K1 (by simp) (by simp))
  have c0 : w1.cell? ⟨z, 0, none⟩ = some (.int .i64 l.t) := by rw [cell_at b1]; rfl
  have c1 : w1.cell? ⟨z, 1, none⟩ = some (.int .i64 l.g) := by rw [cell_at b1]; rfl
  have c2 : w1.cell? ⟨z, 2, none⟩ = some (.int .i64 l.b) := by rw [cell_at b1]; rfl
  have ck : w1.cell? ⟨z + 1, 0, none⟩ = some (.int .i64 k) := by rw [cell_at b2]; rfl
  have cr : w1.cell? ⟨z + 2, 0, none⟩ = some (.int .i64 r) := by rw [cell_at b3]; rfl
  have C0 := Lib.hid c0; have C1 := Lib.hid c1; have C2 := Lib.hid c2; have CK := Lib.hid ck; have CR := Lib.hid cr
  have HB1 := Lib.hid b1; have HB2 := Lib.hid b2; have HB3 := Lib.hid b3; have HK1 := Lib.hid K1; have HS1 := Lib.hid hs1; have HZ := Lib.hid hz
  clear hw1 hz b1 b2 b3 K1 hs1
  have hend : ∀ (w' : World), okBack l k r = false → Keep [] w1 w' → R (.returned (.tuple #[])) w' := fun w' hb K => HBAD.out hb w' (HK1.out.trans K)
  have HEND := Lib.hid hend
  clear hend
  go_cut [26] (fun bad wx => bad = .bool (!okBack l k r) ∧ Keep [] w1 wx)
  case first =>
    by_cases r1 : r < 1
    · have HOK : Hid (okBack l k r = false) := by simp [Hid, okBack]; omega
      go_quiet (fail)
      go_wp2_with fail
      go_meet
      case rel => exact ⟨by rw [HOK.out]; rfl, by ((repeat (first | (with_reducible exact Keep.refl _ _) | (with_reducible refine Keep.drew ?_) | (with_reducible refine Keep.drewN ?_ _) | (with_reducible refine Keep.alloc ?_ _) | ((with_reducible refine Keep.setCell ?_ ?_ _); rotate_left; focus (first | (simp; done) | (simp; omega) | (left; dsimp only; omega))))); done)⟩
    have r1' : 1 ≤ r := by omega
    clear r1
    by_cases r2 : 3 < r
    · have HOK : Hid (okBack l k r = false) := by simp [Hid, okBack]; omega
      go_quiet (fail)
      go_wp2_with fail
      go_meet
      case rel => exact ⟨by rw [HOK.out]; rfl, by ((repeat (first | (with_reducible exact Keep.refl _ _) | (with_reducible refine Keep.drew ?_) | (with_reducible refine Keep.drewN ?_ _) | (with_reducible refine Keep.alloc ?_ _) | ((with_reducible refine Keep.setCell ?_ ?_ _); rotate_left; focus (first | (simp; done) | (simp; omega) | (left; dsimp only; omega))))); done)⟩
    have r2' : r ≤ 3 := by omega
    clear r2
    by_cases k1 : k < 0
    · have HOK : Hid (okBack l k r = false) := by simp [Hid, okBack]; omega
      go_quiet (fail)
      go_wp2_with fail
      go_meet
      case rel => exact ⟨by rw [HOK.out]; rfl, by ((repeat (first | (with_reducible exact Keep.refl _ _) | (with_reducible refine Keep.drew ?_) | (with_reducible refine Keep.drewN ?_ _) | (with_reducible refine Keep.alloc ?_ _) | ((with_reducible refine Keep.setCell ?_ ?_ _); rotate_left; focus (first | (simp; done) | (simp; omega) | (left; dsimp only; omega))))); done)⟩
    have k1' : 0 ≤ k := by omega
    clear k1
    have hwr : IntKind.i64.wrap ((l.b : Int) - r) = l.b - r := by rw [IntKind.wrap_i64]; omega
    have q1 : decide (r < 1) = false := by simp; omega
    have q2 : decide (3 < r) = false := by simp; omega
    have q3 : decide (k < 0) = false := by simp; omega
    by_cases k2 : (l.b : Int) - r < k
    · have HOK : Hid (okBack l k r = false) := by simp [Hid, okBack]; omega
      have q4 : decide ((l.b : Int) - r < k) = true := by simp; omega
      first
      | (go_region_held3 (fun w' => w'.cell? ⟨z, 0, none⟩ = some (.int .i64 l.t) ∧ w'.cell? ⟨z, 1, none⟩ = some (.int .i64 l.g) ∧ w'.cell? ⟨z, 2, none⟩ = some (.int .i64 l.b) ∧ w'.cell? ⟨z + 1, 0, none⟩ = some (.int .i64 k) ∧ w'.cell? ⟨z + 2, 0, none⟩ = some (.int .i64 r))
          (first
            | (refine ⟨Keep.cell (S := []) (w := w1) ?_ C0.out (by simp), Keep.cell (S := []) (w := w1) ?_ C1.out (by simp), Keep.cell (S := []) (w := w1) ?_ C2.out (by simp), Keep.cell (S := []) (w := w1) ?_ CK.out (by simp), Keep.cell (S := []) (w := w1) ?_ CR.out (by simp)⟩; all_goals (((repeat (first | (with_reducible exact Keep.refl _ _) | (with_reducible refine Keep.drew ?_) | (with_reducible refine Keep.drewN ?_ _) | (with_reducible refine Keep.alloc ?_ _) | ((with_reducible refine Keep.setCell ?_ ?_ _); rotate_left; focus (first | (simp; done) | (simp; omega) | (left; dsimp only; omega))))); done)))
            | (refine ⟨Keep.cell (S := []) (w := w1) ?_ C0.out (by simp), Keep.cell (S := []) (w := w1) ?_ C1.out (by simp), Keep.cell (S := []) (w := w1) ?_ C2.out (by simp), Keep.cell (S := []) (w := w1) ?_ CK.out (by simp), Keep.cell (S := []) (w := w1) ?_ CR.out (by simp)⟩; all_goals (((repeat (first | (with_reducible exact HK2.out) | (with_reducible refine Keep.drew ?_) | (with_reducible refine Keep.drewN ?_ _) | (with_reducible refine Keep.alloc ?_ _) | ((with_reducible refine Keep.setCell ?_ ?_ _); rotate_left; focus (first | (simp; done) | (simp; omega) | (left; dsimp only; omega))))); done))))
          (first
            | (go_at_call 53; refine (HBL.out _).mono ?_; rintro e w2 ⟨rfl, K2⟩; have HK2 := Lib.hid (show Keep [] w1 w2 from by refine Keep.trans (a := w1) ?_ K2; ((repeat (first | (with_reducible exact Keep.refl _ _) | (with_reducible refine Keep.drew ?_) | (with_reducible refine Keep.drewN ?_ _) | (with_reducible refine Keep.alloc ?_ _) | ((with_reducible refine Keep.setCell ?_ ?_ _); rotate_left; focus (first | (simp; done) | (simp; omega) | (left; dsimp only; omega))))); done)); clear K2)))
      | fail
      all_goals (
        go_wp2_with fail
        go_meet
        case rel => exact ⟨by rw [HOK.out]; rfl, by first | (((repeat (first | (with_reducible exact HK2.out) | (with_reducible refine Keep.drew ?_) | (with_reducible refine Keep.drewN ?_ _) | (with_reducible refine Keep.alloc ?_ _) | ((with_reducible refine Keep.setCell ?_ ?_ _); rotate_left; focus (first | (simp; done) | (simp; omega) | (left; dsimp only; omega))))); done)) | (((repeat (first | (with_reducible exact Keep.refl _ _) | (with_reducible refine Keep.drew ?_) | (with_reducible refine Keep.drewN ?_ _) | (with_reducible refine Keep.alloc ?_ _) | ((with_reducible refine Keep.setCell ?_ ?_ _); rotate_left; focus (first | (simp; done) | (simp; omega) | (left; dsimp only; omega))))); done))⟩)
    · have HOK : Hid (okBack l k r = true) := by simp [Hid, okBack]; omega
      have q4 : decide ((l.b : Int) - r < k) = false := by simp; omega
      clear k2
      first
      | (go_region_held3 (fun w' => w'.cell? ⟨z, 0, none⟩ = some (.int .i64 l.t) ∧ w'.cell? ⟨z, 1, none⟩ = some (.int .i64 l.g) ∧ w'.cell? ⟨z, 2, none⟩ = some (.int .i64 l.b) ∧ w'.cell? ⟨z + 1, 0, none⟩ = some (.int .i64 k) ∧ w'.cell? ⟨z + 2, 0, none⟩ = some (.int .i64 r))
          (first
            | (refine ⟨Keep.cell (S := []) (w := w1) ?_ C0.out (by simp), Keep.cell (S := []) (w := w1) ?_ C1.out (by simp), Keep.cell (S := []) (w := w1) ?_ C2.out (by simp), Keep.cell (S := []) (w := w1) ?_ CK.out (by simp), Keep.cell (S := []) (w := w1) ?_ CR.out (by simp)⟩; all_goals (((repeat (first | (with_reducible exact Keep.refl _ _) | (with_reducible refine Keep.drew ?_) | (with_reducible refine Keep.drewN ?_ _) | (with_reducible refine Keep.alloc ?_ _) | ((with_reducible refine Keep.setCell ?_ ?_ _); rotate_left; focus (first | (simp; done) | (simp; omega) | (left; dsimp only; omega))))); done)))
            | (refine ⟨Keep.cell (S := []) (w := w1) ?_ C0.out (by simp), Keep.cell (S := []) (w := w1) ?_ C1.out (by simp), Keep.cell (S := []) (w := w1) ?_ C2.out (by simp), Keep.cell (S := []) (w := w1) ?_ CK.out (by simp), Keep.cell (S := []) (w := w1) ?_ CR.out (by simp)⟩; all_goals (((repeat (first | (with_reducible exact HK2.out) | (with_reducible refine Keep.drew ?_) | (with_reducible refine Keep.drewN ?_ _) | (with_reducible refine Keep.alloc ?_ _) | ((with_reducible refine Keep.setCell ?_ ?_ _); rotate_left; focus (first | (simp; done) | (simp; omega) | (left; dsimp only; omega))))); done))))
          (first
            | (go_at_call 53; refine (HBL.out _).mono ?_; rintro e w2 ⟨rfl, K2⟩; have HK2 := Lib.hid (show Keep [] w1 w2 from by refine Keep.trans (a := w1) ?_ K2; ((repeat (first | (with_reducible exact Keep.refl _ _) | (with_reducible refine Keep.drew ?_) | (with_reducible refine Keep.drewN ?_ _) | (with_reducible refine Keep.alloc ?_ _) | ((with_reducible refine Keep.setCell ?_ ?_ _); rotate_left; focus (first | (simp; done) | (simp; omega) | (left; dsimp only; omega))))); done)); clear K2)))
      | fail
      all_goals (
        go_wp2_with fail
        go_meet
        case rel => exact ⟨by rw [HOK.out]; rfl, by first | (((repeat (first | (with_reducible exact HK2.out) | (with_reducible refine Keep.drew ?_) | (with_reducible refine Keep.drewN ?_ _) | (with_reducible refine Keep.alloc ?_ _) | ((with_reducible refine Keep.setCell ?_ ?_ _); rotate_left; focus (first | (simp; done) | (simp; omega) | (left; dsimp only; omega))))); done)) | (((repeat (first | (with_reducible exact Keep.refl _ _) | (with_reducible refine Keep.drew ?_) | (with_reducible refine Keep.drewN ?_ _) | (with_reducible refine Keep.alloc ?_ _) | ((with_reducible refine Keep.setCell ?_ ?_ _); rotate_left; focus (first | (simp; done) | (simp; omega) | (left; dsimp only; omega))))); done))⟩)
  case rest =>
    obtain ⟨rfl, hkc⟩ := hcut
    cases hok : okBack l k r with
    | false =>
      go_wp2_with fail
      refine bodyPost_end (v := .tuple #[]) ?_ rfl ?_
      · kernel_rfl
      exact HEND.out _ hok hkc
    | true =>
      have hk : 1 ≤ r ∧ r ≤ 3 ∧ 0 ≤ k ∧ k ≤ l.b - r := by simpa [okBack] using hok
      have HOKB := Lib.hid hok
      clear hok HEND HBAD
      obtain ⟨n, rfl⟩ : ∃ n : Nat, r = n := ⟨r.toNat, by omega⟩
      obtain ⟨q, rfl⟩ : ∃ q : Nat, k = q := ⟨k.toNat, by omega⟩
      have HAC := Lib.hid (H1.out.keep hkc (by simp) (by simp)); have HKC := Lib.hid (HK1.out.trans hkc)
      have HB1 := Lib.hid (hkc.get HB1.out (by simp)); have HB2 := Lib.hid (hkc.get HB2.out (by simp)); have HB3 := Lib.hid (hkc.get HB3.out (by simp))
      have ck := cell_at HB2.out; have cr := cell_at HB3.out
      have hwr1 : IntKind.i64.wrap ((q : Int) + n) = q + n := by rw [IntKind.wrap_i64]; omega
      have hwr2 : IntKind.i64.wrap ((q : Int) + n - 1) = q + n - 1 := by rw [IntKind.wrap_i64]; omega
      clear hkc C0 C1 C2 CK CR c0 c1 c2
      have hbase : Hid (l.base = 3 + l.t + l.g) := rfl
      obtain ⟨we, hwe⟩ : ∃ we, we = wc := ⟨_, rfl⟩
      simp only [← hwe] at *
      clear hwe
      go_wp2_with fail
      go_loopg [8] n (fun j iv wr => ∃ d : Nat, d + j = n ∧ iv = .int .i64 ((q : Int) + n - 1 - d) ∧ Keep [b, g] we wr ∧ ∃ t' la', Arn wr b g (zeroW W l (q + j) d) t' la' ∧ (t' - t) % 18446744073709551616 = d)
      case atStart => exact ⟨0, by omega, by simp, Keep.refl _ _, t, la, by have := HAC.out; rw [show ((0 : Nat) : Int) = 0 from rfl, zeroW_none]; exact this, by simp⟩
      case round =>
        obtain ⟨d, hd, rfl, hkr, t', la', hA, ht'⟩ := hrel
        have hbz : z ≠ b ∧ z ≠ g ∧ z + 1 ≠ b ∧ z + 1 ≠ g ∧ z + 2 ≠ b ∧ z + 2 ≠ g := by omega
        have hb1 := hkr.get HB1.out (by simp; omega); have hb2 := hkr.get HB2.out (by simp; omega); have hb3 := hkr.get HB3.out (by simp; omega)
        have c2 := cell_at hb2; have c3 := cell_at hb3
        have D0 : Hid (wr.cell? ⟨z, 0, none⟩ = some (.int .i64 l.t)) := by rw [Hid, cell_at hb1]; rfl
        have D1 : Hid (wr.cell? ⟨z, 1, none⟩ = some (.int .i64 l.g)) := by rw [Hid, cell_at hb1]; rfl
        have D2 : Hid (wr.cell? ⟨z, 2, none⟩ = some (.int .i64 l.b)) := by rw [Hid, cell_at hb1]; rfl
        have HA := Lib.hid hA; have HKR := Lib.hid hkr; have HT := Lib.hid ht'; have HB2R := Lib.hid hb2; have HB3R := Lib.hid hb3
        have lb' := lt_of_block hA.head; have lg' := lt_of_block hA.row; have lz' := lt_of_block hb1
        clear hA hkr ht' hb1 hb2 hb3
        by_cases hdn : d < n
        · have i0 : (q : Int) ≤ (q : Int) + n - 1 - d := by omega
          have hin := Lay.entry_in (l := l) (i := (q : Int) + n - 1 - d) (by omega)
          have HIN := Lib.hid hin
          have HENT2 := Lib.hid (HENT.out ((q : Int) + n - 1 - d))
          clear hin
          have hws : IntKind.i64.wrap ((q : Int) + n - 1 - d - 1) = (q : Int) + n - 1 - (d + 1 : Nat) := by rw [IntKind.wrap_i64]; omega
          generalize hiv : (q : Int) + n - 1 - d = iv at *
          have HIV := Lib.hid hiv
          clear hiv
          go_wp2_with fail
          first
          | (go_region_held3 (fun w' => w'.cell? ⟨z, 0, none⟩ = some (.int .i64 l.t) ∧ w'.cell? ⟨z, 1, none⟩ = some (.int .i64 l.g) ∧ w'.cell? ⟨z, 2, none⟩ = some (.int .i64 l.b))
              (first
                | (refine ⟨Keep.cell (S := []) (w := wr) ?_ D0.out (by simp), Keep.cell (S := []) (w := wr) ?_ D1.out (by simp), Keep.cell (S := []) (w := wr) ?_ D2.out (by simp)⟩; all_goals (((repeat (first | (with_reducible exact Keep.refl _ _) | (with_reducible refine Keep.drew ?_) | (with_reducible refine Keep.drewN ?_ _) | (with_reducible refine Keep.alloc ?_ _) | ((with_reducible refine Keep.setCell ?_ ?_ _); rotate_left; focus (first | (simp; done) | (simp; omega) | (left; dsimp only; omega))))); done)))
                | (refine ⟨Keep.cell (S := []) (w := wr) ?_ D0.out (by simp), Keep.cell (S := []) (w := wr) ?_ D1.out (by simp), Keep.cell (S := []) (w := wr) ?_ D2.out (by simp)⟩; all_goals (((repeat (first | (with_reducible exact HK3.out) | (with_reducible refine Keep.drew ?_) | (with_reducible refine Keep.drewN ?_ _) | (with_reducible refine Keep.alloc ?_ _) | ((with_reducible refine Keep.setCell ?_ ?_ _); rotate_left; focus (first | (simp; done) | (simp; omega) | (left; dsimp only; omega))))); done)))
                | (refine ⟨Keep.cell (S := [b, g]) (w := wr) ?_ D0.out (by simp; omega), Keep.cell (S := [b, g]) (w := wr) ?_ D1.out (by simp; omega), Keep.cell (S := [b, g]) (w := wr) ?_ D2.out (by simp; omega)⟩; all_goals (((repeat (first | (with_reducible exact HK4.out) | (with_reducible refine Keep.drew ?_) | (with_reducible refine Keep.drewN ?_ _) | (with_reducible refine Keep.alloc ?_ _) | ((with_reducible refine Keep.setCell ?_ ?_ _); rotate_left; focus (first | (simp; done) | (simp; omega) | (left; dsimp only; omega))))); done))))
              (first
                | (go_at_call 48; refine (HENT2.out _).mono ?_; rintro e w3 ⟨rfl, K3⟩; have HK3 := Lib.hid (show Keep [] wr w3 from by refine Keep.trans (a := wr) ?_ K3; ((repeat (first | (with_reducible exact Keep.refl _ _) | (with_reducible refine Keep.drew ?_) | (with_reducible refine Keep.drewN ?_ _) | (with_reducible refine Keep.alloc ?_ _) | ((with_reducible refine Keep.setCell ?_ ?_ _); rotate_left; focus (first | (simp; done) | (simp; omega) | (left; dsimp only; omega))))); done)); clear K3)
                | (go_at_call 28; refine (arena_write_any (b := b) (g := g) (t := t') (l := la') (HA.out.keep (S := []) (by first | (((repeat (first | (with_reducible exact HK3.out) | (with_reducible refine Keep.drew ?_) | (with_reducible refine Keep.drewN ?_ _) | (with_reducible refine Keep.alloc ?_ _) | ((with_reducible refine Keep.setCell ?_ ?_ _); rotate_left; focus (first | (simp; done) | (simp; omega) | (left; dsimp only; omega))))); done)) | (((repeat (first | (with_reducible exact Keep.refl _ _) | (with_reducible refine Keep.drew ?_) | (with_reducible refine Keep.drewN ?_ _) | (with_reducible refine Keep.alloc ?_ _) | ((with_reducible refine Keep.setCell ?_ ?_ _); rotate_left; focus (first | (simp; done) | (simp; omega) | (left; dsimp only; omega))))); done))) (by simp) (by simp)) (l.entry iv) 0).mono ?_; rintro e w4 ⟨rfl, A4, K4⟩; have HA4 := Lib.hid A4; have HK4 := Lib.hid (show Keep [b, g] wr w4 from by refine Keep.trans (a := wr) ?_ K4; ((repeat (first | (with_reducible exact HK3.out.mono (by simp)) | (with_reducible refine Keep.drew ?_) | (with_reducible refine Keep.drewN ?_ _) | (with_reducible refine Keep.alloc ?_ _) | ((with_reducible refine Keep.setCell ?_ ?_ _); rotate_left; focus (first | (simp; done) | (simp; omega) | (left; dsimp only; omega))))); done)); clear A4 K4)))
          | fail
          all_goals (
            go_wp2_with fail
            go_roundg (n - (d + 1))
            case measure => omega
            case rel =>
              refine ⟨d + 1, by omega, by simp [hws], HKR.out.trans (by ((repeat (first | (with_reducible exact HK4.out) | (with_reducible refine Keep.drew ?_) | (with_reducible refine Keep.drewN ?_ _) | (with_reducible refine Keep.alloc ?_ _) | ((with_reducible refine Keep.setCell ?_ ?_ _); rotate_left; focus (first | (simp; done) | (simp; omega) | (left; dsimp only; omega))))); done)), ?_⟩
              have hA := HA4.out.keep (S := []) (w' := _) (by ((repeat (first | (with_reducible exact Keep.refl _ _) | (with_reducible refine Keep.drew ?_) | (with_reducible refine Keep.drewN ?_ _) | (with_reducible refine Keep.alloc ?_ _) | ((with_reducible refine Keep.setCell ?_ ?_ _); rotate_left; focus (first | (simp; done) | (simp; omega) | (left; dsimp only; omega))))); done)) (by simp) (by simp)
              have hiv := HIV.out
              have hfit := HFIT.out
              rw [HIN.out, zeroW_len] at hA
              have hir : inr W.length ((l.base : Int) + iv) = true := by simp [inr]; omega
              rw [show tz W.length ((l.base : Int) + iv) t' = IntKind.u64.wrap (t' + 1) from by simp [tz, hir], IntKind.wrap_u64] at hA
              have hz := zeroW_step W l ((q : Int) + ((n - (d + 1) : Nat) : Int)) d (by omega) (by omega)
              rw [show (q : Int) + ((n - (d + 1) : Nat) : Int) + 1 = (q : Int) + (gk : Nat) from by omega, show (l.base : Int) + ((q : Int) + ((n - (d + 1) : Nat) : Int)) = (l.base : Int) + iv from by omega] at hz
              refine ⟨_, _, by rw [show ((d + 1 : Nat) : Int) = (d : Int) + 1 from by omega, hz]; exact hA, ?_⟩
              have := HT.out
              omega)
        · obtain rfl : d = n := by omega
          have hj : Hid (gk = 0) := by rw [Hid]; omega
          have hm0 : rdz (zeroW W l (q + (gk : Nat)) d) 0 = ((rdz W 0).toNat : Nat) := by
            have := zeroW_rdz W l (q + (gk : Nat)) d 0 (by have := HFIT.out; omega)
            rw [show ((0 : Nat) : Int) = 0 from rfl, if_neg (by have := hbase.out; omega)] at this
            rw [this]
            have := (hW 0).1
            omega
          have HM0 := Lib.hid hm0
          have hml : (rdz W 0).toNat < 18446744073709551616 := by have := hW 0; omega
          clear hm0
          go_wp2_with fail
          refine (arena_update_any (b := b) (g := g) (t := t') (l := la') (w := wr) HA.out 0 93 hF #[.pointer (some ⟨z + 1, 0, none⟩), .pointer (some ⟨z + 1 + 1, 0, none⟩)] [] (fun _ => .map #[] 0) (backV (rdz W 0).toNat q d : Nat) (by simp) (by simp) (by simp) (fun hin wz kz => ?_)).mono ?_
          · rw [HM0.out]
            refine (give_back_fn (rdz W 0).toNat hml q d (z + 1) (z + 1 + 1) wz (kz.get HB2R.out (by simp; omega)) (kz.get HB3R.out (by simp; omega))).mono ?_
            rintro e w6 ⟨rfl, K6⟩
            exact ⟨rfl, K6, by simp⟩
          rintro e w5 ⟨rfl, A5, K5, -, -⟩
          have HA5 := Lib.hid A5; have HK5 := Lib.hid K5
          clear A5 K5
          go_wp2_with fail
          refine bodyPost_end (v := .tuple #[]) ?_ rfl ?_
          · kernel_rfl
          have hA := HA5.out
          rw [zeroW_len] at hA
          have hir : inr W.length 0 = true := by have := HFIT.out; have := hbase.out; simp [inr]; omega
          rw [show tz W.length 0 t' = IntKind.u64.wrap (t' + 1) from by simp [tz, hir], IntKind.wrap_u64] at hA
          refine hR.out _ _ ⟨rfl, ⟨(t' + 1) % 18446744073709551616, lz W.length 0 la', ?_, ?_⟩, (HKC.out.mono (by simp)).trans (HKR.out.trans HK5.out)⟩
          · unfold backW
            rw [HOKB.out, if_pos rfl]
            have h0 := hj.out
            rw [h0] at hA
            simpa using hA
          · rw [HOKB.out, if_pos rfl]
            have := HT.out
            omega
end Go.Proofs.Ytnadiddaeolanaa
