/- The contracts of package shade: an arena's words. -/
import Derived.Test.YtnadiddaeolanaaShade
import Derived.Test.YtnadiddaeolanaaArena3
namespace Go.Proofs.Ytnadiddaeolanaa
open Go.RowKit
set_option linter.unusedVariables false
set_option linter.unusedSimpArgs false

theorem mem_update (x : Value) (w : World) : (method (Try.prog.types.size + Made.depth) 25 x "Update").run Try.prog w = .ok (83, x) w := by kernel_rfl
theorem mem_read (x : Value) (w : World) : (method (Try.prog.types.size + Made.depth) 25 x "Read").run Try.prog w = .ok (30, x) w := by kernel_rfl

def Words (W : List Int) : Prop := ∀ j : Int, 0 ≤ rdz W j ∧ rdz W j < 18446744073709551616

theorem shade_blacken_nil (n : Int) (w : World) :
    Calls Try.prog 18 #[.nilIface, .int .i64 n] w fun e w' => e = .returned (.tuple #[]) ∧ w' = w := by
  refine calls_abs fun R hR => ?_
  go_enter Try.func18, Try.ntmps18
  go_wp2_with fail
  refine bodyPost_ret (v := .tuple #[]) ?_ rfl ?_
  · kernel_rfl
  exact hR.out _ _ ⟨rfl, rfl⟩

theorem shade_shade_nil (n c : Int) (w : World) :
    Calls Try.prog 19 #[.nilIface, .int .i64 n, .int .u8 c] w fun e w' => e = .returned (.bool false) ∧ Keep [] w w' := by
  refine calls_abs fun R hR => ?_
  go_enter Try.func19, Try.ntmps19
  go_wp2_with fail
  exact hR.out _ _ ⟨rfl, (by repeat (first | (with_reducible exact Keep.refl _ _) | (with_reducible refine Keep.drew ?_) | (with_reducible refine Keep.drewN ?_ _) | (with_reducible refine Keep.alloc ?_ _) | (with_reducible refine Keep.setCell ?_ (by first | (simp; done) | (simp; omega) | (left; dsimp only; omega)) _)))⟩

set_option maxRecDepth 100000 in
theorem shade_blacken {w : World} {b g : Nat} {W : List Int} {t l : Int} (h : Arn w b g W t l) (hW : Words W) (n : Int) :
    Calls Try.prog 18 #[.iface 25 (.pointer (some ⟨b, 0, none⟩)), .int .i64 n] w fun e w' => e = .returned (.tuple #[]) ∧ Arn w' b g (putz W n (blackOf (rdz W n))) (tz W.length n t) (lz W.length n l) ∧ Keep [b, g] w w' := by
  refine calls_abs fun R hR => ?_
  have H := Lib.hid h
  clear h
  have hF := Try.call75
  go_enter Try.func18, Try.ntmps18
  have hinv := mem_update
  simp [go_sem] at hinv
  go_wp2_with fail
  refine (arena_update_any H.out n 75 hF #[] [] (fun _ => .map #[] 0) (blackOf (rdz W n)) (by simp) (by simp) (by simp) ?_).mono ?_
  · intro hin wz kz
    refine Calls.mono (shade_black_fn _ (hW n) wz) ?_
    rintro e w6 ⟨rfl, K6⟩
    exact ⟨rfl, K6, by simp⟩
  rintro e w2 ⟨rfl, A2, K2, -, -⟩
  have HA := Lib.hid A2; have HK := Lib.hid K2; clear A2 K2
  go_wp2_with fail
  refine bodyPost_end (v := .tuple #[]) ?_ rfl ?_
  · kernel_rfl
  exact hR.out _ _ ⟨rfl, HA.out, HK.out⟩

/-- What shading makes of a word. -/
def shadeOf (x c : Int) : Int := if tellOf x c = 1 then turnedOf x c true else x

set_option maxRecDepth 100000 in
set_option maxHeartbeats 4000000 in
theorem shade_shade_high (v : Value) (n c : Int) (hc : 1 < c) (w : World) :
    Calls Try.prog 19 #[.iface 25 v, .int .i64 n, .int .u8 c] w fun e w' => e = .returned (.bool false) ∧ Keep [] w w' := by
  refine calls_abs fun R hR => ?_
  go_enter Try.func19, Try.ntmps19
  go_wp2_with fail
  exact hR.out _ _ ⟨rfl, (by repeat (first | (with_reducible exact Keep.refl _ _) | (with_reducible refine Keep.drew ?_) | (with_reducible refine Keep.drewN ?_ _) | (with_reducible refine Keep.alloc ?_ _) | (with_reducible refine Keep.setCell ?_ (by first | (simp; done) | (simp; omega) | (left; dsimp only; omega)) _)))⟩

set_option maxRecDepth 100000 in
set_option maxHeartbeats 4000000 in
theorem shade_shade {w : World} {b g : Nat} {W : List Int} {t l : Int} (h : Arn w b g W t l) (hW : Words W) (n c : Int) (hc0 : 0 ≤ c) (hc : c ≤ 1) :
    Calls Try.prog 19 #[.iface 25 (.pointer (some ⟨b, 0, none⟩)), .int .i64 n, .int .u8 c] w fun e w' => e = .returned (.bool (decide (tellOf (rdz W n) c = 1 ∨ tellOf (rdz W n) c = 2))) ∧
      Arn w' b g (putz W n (shadeOf (rdz W n) c)) (if tellOf (rdz W n) c = 1 then tz W.length n (tz W.length n t) else tz W.length n t) (lz W.length n l) ∧ Keep [b, g] w w' := by
  refine calls_abs fun R hR => ?_
  have H := Lib.hid h
  have lb := lt_of_block h.head
  have lg := lt_of_block h.row
  clear h
  have hF := Try.call77
  have hmf : ∀ (fn : Fn) (first cap : Array Value) (w : World), (Instr.makeFunc fn first cap).run Try.prog w = .ok (.func fn first cap) w := fun _ _ _ _ => rfl
  have hinv := mem_update
  simp [go_sem] at hinv
  have hinr := mem_read
  simp [go_sem] at hinr
  have hc1 : ¬ 1 < c := by omega
  go_enter Try.func19, Try.ntmps19
  go_wp2_with fail
  generalize hw0 : World.alloc w _ = w0
  have hb0 : w0.heap[w.heap.size]? = some (.cells #[.int .u8 c] 5 (0, 0)) := by rw [← hw0]; exact alloc_new w _ w.heap.size rfl
  have K0 : Keep [] w w0 := by rw [← hw0]; exact (by repeat (first | (with_reducible exact Keep.refl _ _) | (with_reducible refine Keep.drew ?_) | (with_reducible refine Keep.drewN ?_ _) | (with_reducible refine Keep.alloc ?_ _) | (with_reducible refine Keep.setCell ?_ (by first | (simp; done) | (simp; omega) | (left; dsimp only; omega)) _)))
  clear hw0
  have H0 := Lib.hid (H.out.keep K0 (by simp) (by simp))
  have HB0 := Lib.hid hb0; have HK0 := Lib.hid K0
  have c0 := cell_at hb0
  have l0 := lt_of_block hb0
  clear hb0 K0
  have e0 : w0.cell? ⟨w.heap.size, 0, none⟩ = some (.int .u8 c) := c0 0
  have d0 : w0.drew.cell? ⟨w.heap.size, 0, none⟩ = some (.int .u8 c) := c0 0
  go_region_held3 (fun w' => w'.cell? ⟨w.heap.size, 0, none⟩ = some (.int .u8 c))
    (first
      | (exact d0)
      | (exact e2)
      | (exact e3))
    ((first
      | (go_at_call 30; refine (arena_read_any (b := b) (g := g) (W := W) (t := t) (l := l) (w := w0.drew) (H0.out.keep (S := []) (by repeat (first | (with_reducible exact Keep.refl _ _) | (with_reducible refine Keep.drew ?_) | (with_reducible refine Keep.drewN ?_ _) | (with_reducible refine Keep.alloc ?_ _) | (with_reducible refine Keep.setCell ?_ (by first | (simp; done) | (simp; omega) | (left; dsimp only; omega)) _))) (by simp) (by simp)) n).mono ?_
         rintro e w2 ⟨rfl, A2, K2⟩
         have HA2 := Lib.hid A2; have HK2 := Lib.hid K2.off_drew
         have e2 := HK2.out.cell e0 (by simp; omega)
         clear A2 K2)
      | (go_at_call 25; refine (shade_tell _ c (hW n) w2).mono ?_
         rintro e w3 ⟨rfl, K3⟩
         have HK3 := Lib.hid K3
         have e3 := K3.cell e2 (by simp)
         clear K3)))
  have HW3 := Lib.hid (HK2.out.trans (HK3.out.mono (by simp)))
  have HA3 := Lib.hid (HA2.out.keep HK3.out (by simp) (by simp))
  by_cases q : tellOf (rdz W n) c = 1
  · rw [q] at hR ⊢
    have HB3 := Lib.hid (HW3.out.get HB0.out (by simp; omega))
    have d3 : w3.drew.cell? ⟨w.heap.size, 0, none⟩ = some (.int .u8 c) := e3
    have hlen : (putz W n (shadeOf (rdz W n) c)).length = W.length := putz_length _ _ _
    go_wp2_with fail
    go_region_held3 (fun w' => w'.cell? ⟨w.heap.size, 0, none⟩ = some (.int .u8 c))
      (first
        | (exact d3)
        | (exact e4)
        | (exact e5))
      ((first
        | (go_at_call 83
           refine (arena_update_any (b := b) (g := g) (W := W) (t := tz W.length n t) (l := lz W.length n l) (w := w3.drew) (HA3.out.keep (S := []) (by repeat (first | (with_reducible exact Keep.refl _ _) | (with_reducible refine Keep.drew ?_) | (with_reducible refine Keep.drewN ?_ _) | (with_reducible refine Keep.alloc ?_ _) | (with_reducible refine Keep.setCell ?_ (by first | (simp; done) | (simp; omega) | (left; dsimp only; omega)) _))) (by simp) (by simp)) n 77 hF #[.pointer (some ⟨w.heap.size, 0, none⟩)] [] (fun _ => .map #[] 0) (shadeOf (rdz W n) c) (by simp) (by simp) (by simp) (fun hin wz kz => (shade_fn _ c (hW n) ⟨hc0, by omega⟩ w.heap.size wz (kz.off_drew.get HB3.out (by simp; omega))).mono (fun e w6 h6 => ⟨h6.1, h6.2, by simp⟩))).mono ?_
           rintro e w4 ⟨rfl, A4, K4, -, -⟩
           have HA4 := Lib.hid A4; have HK4 := Lib.hid K4.off_drew
           have e4 := HK4.out.cell e3 (by simp; omega)
           clear A4 K4)
        | (go_at_call 25; refine (shade_tell _ c (hW n) w4).mono ?_
           rintro e w5 ⟨rfl, K5⟩
           have HK5 := Lib.hid K5
           have e5 := K5.cell e4 (by simp)
           clear K5)))
    try rw [q]
    have HW5 := Lib.hid (HK4.out.trans (HK5.out.mono (by simp)))
    have HA5 := Lib.hid (HA4.out.keep HK5.out (by simp) (by simp))
    go_wp2_with fail
    refine hR.out _ _ ⟨by simp, ?_, (HK0.out.mono (by simp)).trans (HW3.out.trans HW5.out)⟩
    have h5 := HA5.out
    have hlz : lz W.length n (lz W.length n l) = lz W.length n l := by unfold lz; split <;> simp_all
    rw [hlz] at h5
    simpa using h5
  · have q1 : (tellOf (rdz W n) c == 1) = false := by simp [q]
    have q2 : (tellOf (rdz W n) c != 1) = true := by simp [q]
    go_wp2_with fail
    refine hR.out _ _ ⟨congrArg (fun x => Ending.returned (Value.bool x)) (by rw [Bool.eq_iff_iff]; simp [q]), ?_, (HK0.out.mono (by simp)).trans HW3.out⟩
    rw [if_neg q, show shadeOf (rdz W n) c = rdz W n from by simp [shadeOf, q], putz_rdz]
    exact HA3.out
end Go.Proofs.Ytnadiddaeolanaa
