/- The walk of GivePlays. -/
import Derived.Test.YtnadiddaeolanaaActs14
import Derived.WalkSmall
import Derived.Deep.LoopGhost
import Derived.Deep.DeepCutAuto
import Derived.Deep.CutBlock
import Derived.Deep.RegionHeld3
import Derived.Deep.RegionWith
import Derived.Deep.DrawnRows
namespace Go.Proofs.Ytnadiddaeolanaa
open Go.RowKit Go.ChangeShapes Go.WideShapes
set_option linter.unusedVariables false
set_option linter.unusedSimpArgs false

/-- GvAt, with what it says. -/
def GvX (w : World) (b g z7 base z9 n m : Nat) (E : List Int) (ao : Option Addr) (cap : Nat) (wx : World) (t : Int) : Prop := Ga wx b g n m E t ∧ Ents wx base (.slice ao n cap) n E ∧
  wx.heap[z7]? = some (.cells #[.int .i64 1, .int .i64 1, .int .i64 n] 53 (0, 0)) ∧ wx.heap[z9]? = some (.cells #[.int .i64 n, .int .u64 m, .slice ao n cap] 58 (0, 0)) ∧ Keep [] w wx
theorem GvX.read {w wx w2 : World} {b g z7 base z9 n m : Nat} {E : List Int} {ao : Option Addr} {cap : Nat} {t t' : Int} (h : GvX w b g z7 base z9 n m E ao cap wx t) (o : Ords w b g z7 base z9) (A : Ga w2 b g n m E t') (k : Keep [b, g] wx w2) : GvX w b g z7 base z9 n m E ao cap w2 t' := by
  obtain ⟨h1, h2, h3, h4, h5⟩ := h
  obtain ⟨o1, o2, o3, o4, o5, o6⟩ := o
  exact ⟨A, h2.keep k (by simp; omega), k.get h3 (by simp; omega), k.get h4 (by simp; omega), h5.fresh k (by simp; omega)⟩
theorem GvX.still {w wx w2 : World} {b g z7 base z9 n m : Nat} {E : List Int} {ao : Option Addr} {cap : Nat} {t : Int} (h : GvX w b g z7 base z9 n m E ao cap wx t) (k : Keep [] wx w2) : GvX w b g z7 base z9 n m E ao cap w2 t := by
  obtain ⟨h1, h2, h3, h4, h5⟩ := h
  exact ⟨h1.keep k (by simp) (by simp), h2.still k, k.get h3 (by simp), k.get h4 (by simp), h5.trans k⟩

set_option maxRecDepth 100000 in
set_option maxHeartbeats 40000000 in
theorem give_plays_law (blocks : Int) (hbk : 0 ≤ blocks ∧ blocks ≤ 255) (w : World) (ao : Option Addr) (cap : Nat) (l : List Ac) (hA : Acs w (.slice ao l.length cap) l) (hlen : l.length ≤ 9223372036854775807) :
    Calls Try.prog 7 #[.int .u8 blocks, .slice ao l.length cap] w fun e w' => e = .returned (.bool true) ∧ Keep [] w w' := by
  refine calls_abs fun R hR => ?_
  have mixed : Try.prog.follows .mixedOrders = true := by kernel_rfl
  have hmf : ∀ (fn : Fn) (first cap : Array Value) (w : World), (Instr.makeFunc fn first cap).run Try.prog w = .ok (.func fn first cap) w := fun _ _ _ _ => rfl
  have HA := Lib.hid hA; have HLEN := Lib.hid hlen
  clear hA hlen
  have hcv : IntKind.i64.wrap blocks = blocks := by rw [IntKind.wrap_i64]; omega
  obtain ⟨n, rfl⟩ : ∃ n : Nat, blocks = n := ⟨blocks.toNat, by omega⟩
  by_cases h1 : (n : Int) < 1
  · have q1 : decide ((n : Int) < 1) = true := by simp; omega
    go_enter Try.func7, Try.ntmps7
    go_wp2_with fail
    refine (law14_wakes _).mono ?_
    rintro e w' ⟨rfl, K⟩
    go_wp2_with fail
    exact hR.out _ _ ⟨rfl, K⟩
  have q1 : decide ((n : Int) < 1) = false := by simp; omega
  by_cases h2 : (20 : Int) < n
  · have q2 : decide ((20 : Int) < (n : Int)) = true := by simp; omega
    go_enter Try.func7, Try.ntmps7
    go_wp2_with fail
    refine (law14_wakes _).mono ?_
    rintro e w' ⟨rfl, K⟩
    go_wp2_with fail
    exact hR.out _ _ ⟨rfl, K⟩
  have q2 : decide ((20 : Int) < (n : Int)) = false := by simp; omega
  by_cases h3 : (100 : Int) < l.length
  · have q3 : decide ((100 : Int) < (l.length : Int)) = true := by simp; omega
    go_enter Try.func7, Try.ntmps7
    go_wp2_with fail
    refine (law14_wakes _).mono ?_
    rintro e w' ⟨rfl, K⟩
    go_wp2_with fail
    exact hR.out _ _ ⟨rfl, K⟩
  have q3 : decide ((100 : Int) < (l.length : Int)) = false := by simp; omega
  have hn1 : 1 ≤ n := by omega
  have hn : n ≤ 20 := by omega
  have HN1 := Lib.hid hn1; have HN := Lib.hid hn
  generalize hL : l.length = L at *
  have HL := Lib.hid hL
  clear hL
  have hbeg := fun (b g : Nat) (w : World) (t la : Int) (h : Arn w b g (List.replicate (5 + 33 * n) 0) t la) => ga_begin hn h
  simp only [arnV, layV] at hbeg
  have HBEG := Lib.hid hbeg
  have hmade := law14_made n ⟨hn1, hn⟩ w
  unfold layV at hmade
  have HM := Lib.hid hmade
  clear hbeg hmade
  go_enter Try.func7, Try.ntmps7
  go_wp2_with fail
  refine HM.out.mono ?_
  rintro e w1 ⟨b, g, rfl, A1, K1, hb, hg⟩
  have HA1 := Lib.hid A1; have HK1 := Lib.hid K1; have HWB := Lib.hid (And.intro hb hg)
  clear A1 K1 hb hg
  go_wp2_with fail
  obtain ⟨z7, hz⟩ : ∃ z, z = w1.heap.size := ⟨_, rfl⟩
  simp only [← hz]
  generalize hw2 : World.alloc _ _ = w2
  have b2 : w2.heap[z7]? = some (.cells #[.int .i64 1, .int .i64 1, .int .i64 n] 53 (0, 0)) := by rw [← hw2]; exact alloc_new _ _ _ hz
  have K2 : Keep [] w1 w2 := by rw [← hw2]; exact (by repeat (first | (with_reducible exact Keep.refl _ _) | (with_reducible refine Keep.drew ?_) | (with_reducible refine Keep.drewN ?_ _) | (with_reducible refine Keep.alloc ?_ _) | (with_reducible refine Keep.setCell ?_ (by first | (simp; done) | (simp; omega) | (left; dsimp only; omega)) _)))
  have hzb : b < z7 ∧ g < z7 := by have := lt_of_block HA1.out.head; have := lt_of_block HA1.out.row; omega
  have HZB := Lib.hid hzb
  have HB2 := Lib.hid b2; have HA2 := Lib.hid (HA1.out.keep K2 (by simp) (by simp)); have HK2 := Lib.hid (HK1.out.trans K2)
  clear b2 K2 hw2 hz
  refine (HBEG.out b g w2 _ _ HA2.out).mono ?_
  rintro e w3 ⟨rfl, ⟨t3, A3⟩, K3⟩
  have HA3 := Lib.hid A3
  have b3 := K3.get HB2.out (by simp; omega)
  have HB3 := Lib.hid b3; have HK3 := Lib.hid (HK2.out.fresh K3 (by have := HWB.out; simp; omega))
  have hl3 := lt_of_block b3
  have HL3 := Lib.hid hl3
  clear A3 K3 b3 hzb
  go_wp2_with fail
  refine (ref14_begin n ⟨HN1.out, by omega⟩ w3.heap.size w3 (Nat.le_refl _)).mono ?_
  rintro e w4 ⟨v4, rfl, E4, K4⟩
  obtain ⟨ao4, cap4, rfl, -, -⟩ := owns_val E4.own
  have HE4 := Lib.hid E4; have HB4 := Lib.hid (K4.get HB3.out (by simp)); have HA4 := Lib.hid (HA3.out.keep K4 (by simp) (by simp)); have HK4 := Lib.hid (HK3.out.trans K4)
  have hs4 := K4.size
  have HS4 := Lib.hid hs4
  clear E4 K4 hl3 hs4
  unfold stVal
  go_wp2_with fail
  obtain ⟨z9, hz⟩ : ∃ z, z = w4.heap.size := ⟨_, rfl⟩
  simp only [← hz]
  generalize hw5 : World.alloc _ _ = w5
  have b5 : w5.heap[z9]? = some (.cells #[.int .i64 n, .int .u64 (allN n : Nat), .slice ao4 n cap4] 58 (0, 0)) := by rw [← hw5]; exact alloc_new _ _ _ hz
  have K5 : Keep [] w4 w5 := by rw [← hw5]; exact (by repeat (first | (with_reducible exact Keep.refl _ _) | (with_reducible refine Keep.drew ?_) | (with_reducible refine Keep.drewN ?_ _) | (with_reducible refine Keep.alloc ?_ _) | (with_reducible refine Keep.setCell ?_ (by first | (simp; done) | (simp; omega) | (left; dsimp only; omega)) _)))
  have hord : Ords w b g z7 w3.heap.size z9 := ⟨HWB.out.1, HWB.out.2, HZB.out.1, HZB.out.2, HL3.out, by have := HS4.out; omega⟩
  obtain ⟨base, hbase⟩ : ∃ base, base = w3.heap.size := ⟨_, rfl⟩
  rw [← hbase] at hord
  have hgv : GvAt w b g z7 base z9 n w5 t3 := ⟨allN n, List.replicate n 0, ao4, cap4, HA4.out.keep K5 (by simp) (by simp), by rw [hbase]; exact HE4.out.still K5, K5.get HB4.out (by simp), b5, HK4.out.trans K5⟩
  have HG5 := Lib.hid hgv; have HO := Lib.hid hord
  have hz9 : w.heap.size ≤ base := by have := HK3.out.size; omega
  have HWZ := Lib.hid hz9
  clear hgv hord b5 K5 hw5 hz hbase HE4 HB4 HA4 HK4 HS4 HL3 HB3 HA3 HK3 HB2 HA2 HK2 HA1 HK1 HWB HZB HBEG HM hz9
  have hcl := fun (w' : World) (m : Nat) (E : List Int) (t : Int) (h : Ga w' b g n m E t) => ga_claim h
  have hbk := fun (w' : World) (m : Nat) (E : List Int) (t : Int) (h : Ga w' b g n m E t) => ga_back HN.out h
  have hwt := fun (w' : World) (m : Nat) (E : List Int) (t : Int) (h : Ga w' b g n m E t) => ga_waiting HN.out h
  have hst := fun (w' : World) (m : Nat) (E : List Int) (t : Int) (h : Ga w' b g n m E t) => ga_set HN.out h
  simp only [arnV, layV] at hcl hbk hwt hst
  have HCL := Lib.hid hcl; have HBK := Lib.hid hbk; have HWT := Lib.hid hwt; have HST0 := Lib.hid hst
  clear hcl hbk hwt hst
  go_loopg [10] L (fun j i wr => ∃ k : Nat, k + j = L ∧ i = .int .i64 k ∧ ∃ t, GvAt w b g z7 base z9 n wr t)
  case atStart => exact ⟨0, by omega, rfl, t3, HG5.out⟩
  case round =>
    obtain ⟨k, hkj, rfl, t, hG⟩ := hrel
    by_cases hkn : k < L
    · obtain ⟨m, E, ao', cap', GA, HE, hb7, hb9, hkw⟩ := hG
      have hak : k < l.length := by rw [HL.out]; exact hkn
      have hac := HA.out
      obtain ⟨ab, aof, rfl, hab, hcl⟩ := hac.cell (List.getElem?_eq_getElem hak)
      have hok := HA.out.ok l[k] (List.getElem_mem hak)
      generalize l[k] = a at *
      have i1 : (k : Int) < (L : Int) := by omega
      have i0 : (0 : Int) ≤ (k : Int) := by omega
      obtain ⟨d, p, r, o, e⟩ := a
      obtain ⟨ek, ec, er, eo⟩ := e
      obtain ⟨hu, ho⟩ := hok
      have d0 := hkw.cell (hcl 0 _ rfl) (by simp); have d1 := hkw.cell (hcl 1 _ rfl) (by simp); have d2 := hkw.cell (hcl 2 _ rfl) (by simp); have d3 := hkw.cell (hcl 3 _ rfl) (by simp)
      have d4 := hkw.cell (hcl 4 _ rfl) (by simp); have d5 := hkw.cell (hcl 5 _ rfl) (by simp); have d6 := hkw.cell (hcl 6 _ rfl) (by simp); have d7 := hkw.cell (hcl 7 _ rfl) (by simp)
      simp only [Nat.add_zero] at d0
      have c7 := cell_at hb7; have c9 := cell_at hb9; have f9 := frozen_at hb9; have l7 := lt_of_block hb7; have l9 := lt_of_block hb9
      have HGA := Lib.hid GA; have HEN := Lib.hid HE; have HB7 := Lib.hid hb7; have HB9 := Lib.hid hb9; have HKW := Lib.hid hkw; have HU := Lib.hid hu; have HOO := Lib.hid ho
      clear hac hcl hab GA HE hb7 hb9 hkw hu ho hak
      go_wp2_with fail
      obtain ⟨y, hy⟩ : ∃ y, y = wr.heap.size := ⟨_, rfl⟩
      simp only [← hy]
      generalize hwa : World.alloc wr _ = wa
      have bya : wa.heap[y]? = some (.cells #[.int .u8 d, .int .i64 p, .int .i64 r, .int .u8 o, .int .u8 ek, .int .u8 ec, .int .u8 er, .int .u8 eo] 63 (0, 0)) := by rw [← hwa]; exact alloc_new _ _ _ hy
      have Ka : Keep [] wr wa := by rw [← hwa]; exact (by repeat (first | (with_reducible exact Keep.refl _ _) | (with_reducible refine Keep.drew ?_) | (with_reducible refine Keep.drewN ?_ _) | (with_reducible refine Keep.alloc ?_ _) | (with_reducible refine Keep.setCell ?_ (by first | (simp; done) | (simp; omega) | (left; dsimp only; omega)) _)))
      have hyo : y ≠ b ∧ y ≠ g ∧ y ≠ z9 ∧ y ≠ z7 ∧ z9 ≠ b ∧ z9 ≠ g ∧ z7 ≠ b ∧ z7 ≠ g ∧ z7 ≠ z9 ∧ z9 ≠ z7 ∧ z9 ≠ y ∧ z7 ≠ y ∧ b < base ∧ g < base ∧ base ≤ z9 := by
        obtain ⟨o1, o2, o3, o4, o5, o6⟩ := HO.out
        omega
      have ba7 := Ka.get HB7.out (by simp); have ba9 := Ka.get HB9.out (by simp)
      have c7 := cell_at ba7; have c9 := cell_at ba9; have f9 := frozen_at ba9; have l7 := lt_of_block ba7; have l9 := lt_of_block ba9; have cy := cell_at bya; have ly := lt_of_block bya
      have HBY := Lib.hid bya; have HB7 := Lib.hid ba7; have HB9 := Lib.hid ba9; have HGA := Lib.hid (HGA.out.keep Ka (by simp) (by simp)); have HEN := Lib.hid (HEN.out.still Ka); have HKWA := Lib.hid (HKW.out.trans Ka)
      have HMM : Hid (m < 18446744073709551616) := by obtain ⟨W, la, hA, hS⟩ := HGA.out; exact hS.lt
      clear hwa Ka hy ba7 ba9 bya d0 d1 d2 d3 d4 d5 d6 d7
      refine (ga_touched HGA.out).mono ?_
      rintro e w6 ⟨rfl, hw6⟩
      subst hw6
      obtain ⟨wa, hwa⟩ : ∃ wa, wa = w6 := ⟨_, rfl⟩
      simp only [← hwa] at *
      clear hwa
      go_upto_block 2 with (fail)
      go_cut [13, 14, 15, 16, 17] (fun want x14 x15 x16 x17 wx => ∃ t', want = .int .u64 (IntKind.u64.wrap (t' - t)) ∧ GvAt w b g z7 base z9 n wx t')
      case first =>
        --ACTS
        by_cases hd0 : d = 0
        · subst hd0
          as_aux_lemma =>
            have hcl := HCL.out wa m E t HGA.out r
            have hrc := fun (w' : World) (h : Ents w' base (.slice ao' n cap') n E) => ref14_claim h m HMM.out (by have := HN.out; omega) r
            unfold stVal at hrc
            have hf : ((findN m r).isSome = decide (0 ≤ findI m r)) ∧ ((findN m r).isSome = true → atOf (findN m r) = findI m r) ∧ ((findN m r).isSome = false → atOf (findN m r) = 0) := by
              unfold findI
              cases findN m r <;> simp [atOf]
            generalize (findN m r).isSome = got at hcl hf
            generalize atOf (findN m r) = at_ at hcl hf
            generalize findI m r = fx at hrc hf
            generalize claimV m r = m2 at hcl hrc
            have HCL1 := Lib.hid hcl; have HRC := Lib.hid hrc; have HF := Lib.hid hf
            clear hcl hrc hf
            go_wp2_with fail
            refine HCL1.out.mono ?_
            rintro e w3 ⟨rfl, ⟨t', A3, ht⟩, K3⟩
            have by3 := K3.get HBY.out (by simp; omega); have b93 := K3.get HB9.out (by simp; omega); have b73 := K3.get HB7.out (by simp; omega)
            have cy3 := cell_at by3; have c93 := cell_at b93; have c73 := cell_at b73; have f93 := frozen_at b93; have l93 := lt_of_block b93; have ly3 := lt_of_block by3; have l73 := lt_of_block b73
            have hbs3 : base ≤ w3.heap.size := by omega
            have HE3 := Lib.hid (HEN.out.keep K3 (by simp; omega)); have HBY3 := Lib.hid by3; have HB93 := Lib.hid b93; have HB73 := Lib.hid b73; have HK3 := Lib.hid K3; have HA3 := Lib.hid A3; have HT := Lib.hid ht
            clear by3 b93 b73 K3 A3 ht cy c9 c7 f9 l9 l7 ly
            go_wp2_with fail
            refine (HRC.out w3 HE3.out).mono ?_
            rintro e w4 ⟨rfl, E4, K4⟩
            have by4 := K4.get HBY3.out (by simp); have b94 := K4.get HB93.out (by simp); have b74 := K4.get HB73.out (by simp)
            have cy4 := cell_at by4; have c94 := cell_at b94; have c74 := cell_at b74; have f94 := frozen_at b94; have l94 := lt_of_block b94; have ly4 := lt_of_block by4; have l74 := lt_of_block b74
            have HBY4 := Lib.hid by4; have HB94 := Lib.hid b94; have HK4 := Lib.hid K4; have HE4 := Lib.hid E4
            clear by4 b94 b74 K4 E4 cy3 c93 c73 f93 l93 ly3 l73
            go_upto_region 24 with (fail)
            obtain ⟨w5, hw5⟩ : ∃ x, x = World.alloc (World.setCell (World.setCell (World.setCell w4 ⟨z9, 0, none⟩ (.int .i64 n)) ⟨z9, 1, none⟩ (.int .u64 m2)) ⟨z9, 2, none⟩ (.slice ao' n cap')) (.cells #[.int .i64 n, .int .u64 m2, .slice ao' n cap'] 58 (0, 0)) := ⟨_, rfl⟩
            simp only [← hw5]
            have K5 : Keep [z9] w4 w5 := by rw [hw5]; ((repeat (first | (with_reducible exact Keep.refl _ _) | (with_reducible refine Keep.drew ?_) | (with_reducible refine Keep.drewN ?_ _) | (with_reducible refine Keep.alloc ?_ _) | ((with_reducible refine Keep.setCell ?_ ?_ _); rotate_left; focus (first | (simp; done) | (simp; omega) | (left; dsimp only; omega))))); done)
            have hgv : GvAt w b g z7 base z9 n w5 t' := GvAt.next HO.out HKWA.out HB7.out HB9.out HK3.out HA3.out HE4.out HK4.out K5 (by
              have h := HB94.out
              rw [hw5]
              exact alloc_keeps (put_at (put_at (put_at h 0 _) 1 _) 2 _) _)
            have by5 := K5.get HBY4.out (by simp; omega)
            have cy5 := cell_at by5; have ly5 := lt_of_block by5
            have HGV := Lib.hid hgv; have HBY5 := Lib.hid by5
            clear hw5 K5 hgv by5 cy4 c94 c74 f94 l94 ly4 l74
            go_cut [130] (fun c wx => c = .bool false ∧ wx = w5)
            case first =>
              obtain ⟨f1, f2, f3⟩ := HF.out
              cases got with
              | true =>
                have g0 : decide (0 ≤ fx) = true := f1.symm
                obtain rfl := f2 rfl
                clear f1 f2 f3
                go_wp2_with fail
                go_meet
                case rel => exact ⟨rfl, rfl⟩
              | false =>
                have g0 : decide (0 ≤ fx) = false := f1.symm
                obtain rfl := f3 rfl
                clear f1 f2 f3
                go_wp2_with fail
                go_meet
                case rel => exact ⟨rfl, rfl⟩
            case rest =>
              obtain ⟨rfl, hwc⟩ := hcut
              subst hwc
              go_upto_region 26 with (fail)
              go_cut [138] (fun c wx => c = .bool (decide (1 ≤ r ∧ r ≤ 3)) ∧ wx = wc)
              case first =>
                by_cases r1 : 1 ≤ r
                · have g1 : decide ((1 : Int) ≤ r) = true := by simp; omega
                  by_cases r3 : r ≤ 3
                  · have g3 : decide (r ≤ (3 : Int)) = true := by simp; omega
                    have G := Lib.hid (show decide (1 ≤ r ∧ r ≤ 3) = true by simp; omega)
                    go_wp2_with fail
                    go_meet
                    case rel => exact ⟨by rw [G.out], rfl⟩
                  · have g3 : decide (r ≤ (3 : Int)) = false := by simp; omega
                    have G := Lib.hid (show decide (1 ≤ r ∧ r ≤ 3) = false by simp; omega)
                    go_wp2_with fail
                    go_meet
                    case rel => exact ⟨by rw [G.out], rfl⟩
                · have g1 : decide ((1 : Int) ≤ r) = false := by simp; omega
                  have G := Lib.hid (show decide (1 ≤ r ∧ r ≤ 3) = false by simp; omega)
                  go_wp2_with fail
                  go_meet
                  case rel => exact ⟨by rw [G.out], rfl⟩
              case rest =>
                obtain ⟨rfl, hwc⟩ := hcut
                subst hwc
                by_cases hr : 1 ≤ r ∧ r ≤ 3
                · have ht := HT.out
                  rw [if_pos hr] at ht
                  have HT := Lib.hid ht
                  rw [show decide (1 ≤ r ∧ r ≤ 3) = true from decide_eq_true hr]
                  clear ht hr
                  go_wp2_with fail
                  go_meet
                  case rel => exact ⟨t', by have ht := HT.out; rw [IntKind.wrap_u64, ht], HGV.out⟩
                · have ht := HT.out
                  rw [if_neg hr] at ht
                  have HT := Lib.hid ht
                  rw [show decide (1 ≤ r ∧ r ≤ 3) = false from decide_eq_false hr]
                  clear ht hr
                  go_wp2_with fail
                  go_meet
                  case rel => exact ⟨t', by have ht := HT.out; rw [IntKind.wrap_u64, ht], HGV.out⟩
        have e0 : (d == 0) = false := by simp [hd0]
        by_cases hd1 : d = 1
        · subst hd1
          as_aux_lemma =>
            have hbk := HBK.out wa m E t HGA.out p r
            have hrb := fun (w' : World) (h : Ents w' base (.slice ao' n cap') n E) (hb : base ≤ w'.heap.size) => ref14_back h (by have := HN.out; omega) hb m HMM.out p r
            unfold stVal at hrb
            generalize backM n m p r = m2 at hbk hrb
            generalize backE n E p r = E2 at hbk hrb
            have HBK1 := Lib.hid hbk; have HRB := Lib.hid hrb
            clear hbk hrb
            go_wp2_with fail
            refine HBK1.out.mono ?_
            rintro e w3 ⟨rfl, ⟨t', A3, ht⟩, K3⟩
            have by3 := K3.get HBY.out (by simp; omega); have b93 := K3.get HB9.out (by simp; omega); have b73 := K3.get HB7.out (by simp; omega)
            have cy3 := cell_at by3; have c93 := cell_at b93; have c73 := cell_at b73; have f93 := frozen_at b93; have l93 := lt_of_block b93; have ly3 := lt_of_block by3; have l73 := lt_of_block b73
            have hbs3 : base ≤ w3.heap.size := by omega
            have HE3 := Lib.hid (HEN.out.keep K3 (by simp; omega)); have HBY3 := Lib.hid by3; have HB93 := Lib.hid b93; have HB73 := Lib.hid b73; have HK3 := Lib.hid K3; have HA3 := Lib.hid A3; have HT := Lib.hid ht
            clear by3 b93 b73 K3 A3 ht cy c9 c7 f9 l9 l7 ly
            go_wp2_with fail
            refine (HRB.out w3 HE3.out hbs3).mono ?_
            rintro e w4 ⟨v4, rfl, E4, K4⟩
            obtain ⟨ao4, cap4, rfl, -, -⟩ := owns_val E4.own
            have by4 := K4.get HBY3.out (by simp); have b94 := K4.get HB93.out (by simp); have b74 := K4.get HB73.out (by simp)
            have cy4 := cell_at by4; have c94 := cell_at b94; have c74 := cell_at b74; have f94 := frozen_at b94; have l94 := lt_of_block b94; have ly4 := lt_of_block by4; have l74 := lt_of_block b74
            have HBY4 := Lib.hid by4; have HB94 := Lib.hid b94; have HK4 := Lib.hid K4; have HE4 := Lib.hid E4
            clear by4 b94 b74 K4 E4 cy3 c93 c73 f93 l93 ly3 l73
            go_upto_region 31 with (fail)
            obtain ⟨w5, hw5⟩ : ∃ x, x = World.setCell (World.setCell (World.setCell w4 ⟨z9, 0, none⟩ (.int .i64 n)) ⟨z9, 1, none⟩ (.int .u64 m2)) ⟨z9, 2, none⟩ (.slice ao4 n cap4) := ⟨_, rfl⟩
            simp only [← hw5]
            have K5 : Keep [z9] w4 w5 := by rw [hw5]; ((repeat (first | (with_reducible exact Keep.refl _ _) | (with_reducible refine Keep.drew ?_) | (with_reducible refine Keep.drewN ?_ _) | (with_reducible refine Keep.alloc ?_ _) | ((with_reducible refine Keep.setCell ?_ ?_ _); rotate_left; focus (first | (simp; done) | (simp; omega) | (left; dsimp only; omega))))); done)
            have hgv : GvAt w b g z7 base z9 n w5 t' := GvAt.next HO.out HKWA.out HB7.out HB9.out HK3.out HA3.out HE4.out HK4.out K5 (by
              have h := HB94.out
              rw [hw5]
              exact put_at (put_at (put_at h 0 _) 1 _) 2 _)
            have by5 := K5.get HBY4.out (by simp; omega)
            have cy5 := cell_at by5; have ly5 := lt_of_block by5
            have HGV := Lib.hid hgv; have HBY5 := Lib.hid by5
            clear hw5 K5 hgv by5 cy4 c94 c74 f94 l94 ly4 l74
            go_cut [176] (fun c wx => c = .bool (okE n p r) ∧ wx = w5)
            case first =>
              by_cases r1 : r < 1
              · have g1 : decide ((1 : Int) ≤ r) = false := by simp; omega
                have G := Lib.hid (show okE n p r = false by simp [okE]; omega)
                go_wp2_with fail
                go_meet
                case rel => exact ⟨by rw [G.out], rfl⟩
              by_cases r3 : 3 < r
              · have g1 : decide ((1 : Int) ≤ r) = true := by simp; omega
                have g3 : decide (r ≤ (3 : Int)) = false := by simp; omega
                have G := Lib.hid (show okE n p r = false by simp [okE]; omega)
                go_wp2_with fail
                go_meet
                case rel => exact ⟨by rw [G.out], rfl⟩
              by_cases p0 : p < 0
              · have g1 : decide ((1 : Int) ≤ r) = true := by simp; omega
                have g3 : decide (r ≤ (3 : Int)) = true := by simp; omega
                have g4 : decide ((0 : Int) ≤ p) = false := by simp; omega
                have G := Lib.hid (show okE n p r = false by simp [okE]; omega)
                go_wp2_with fail
                go_meet
                case rel => exact ⟨by rw [G.out], rfl⟩
              have hwr : IntKind.i64.wrap ((n : Int) - r) = n - r := by have := HN.out; rw [IntKind.wrap_i64]; omega
              by_cases p1 : (n : Int) - r < p
              · have g1 : decide ((1 : Int) ≤ r) = true := by simp; omega
                have g3 : decide (r ≤ (3 : Int)) = true := by simp; omega
                have g4 : decide ((0 : Int) ≤ p) = true := by simp; omega
                have g5 : decide (p ≤ (n : Int) - r) = false := by simp; omega
                have G := Lib.hid (show okE n p r = false by simp [okE]; omega)
                go_wp2_with fail
                go_meet
                case rel => exact ⟨by rw [G.out], rfl⟩
              · have g1 : decide ((1 : Int) ≤ r) = true := by simp; omega
                have g3 : decide (r ≤ (3 : Int)) = true := by simp; omega
                have g4 : decide ((0 : Int) ≤ p) = true := by simp; omega
                have g5 : decide (p ≤ (n : Int) - r) = true := by simp; omega
                have G := Lib.hid (show okE n p r = true by simp [okE]; omega)
                go_wp2_with fail
                go_meet
                case rel => exact ⟨by rw [G.out], rfl⟩
            case rest =>
              obtain ⟨rfl, hwc⟩ := hcut
              subst hwc
              cases ho : okE n p r with
              | false =>
                have ht := HT.out
                rw [ho, if_neg (by simp)] at ht
                have HT := Lib.hid ht
                clear ht ho
                go_wp2_with fail
                go_meet
                case rel => exact ⟨t', by have ht := HT.out; rw [IntKind.wrap_u64, ht], HGV.out⟩
              | true =>
                have ht := HT.out
                rw [ho, if_pos rfl] at ht
                have HT := Lib.hid ht
                have hk : 1 ≤ r ∧ r ≤ 3 ∧ 0 ≤ p ∧ p ≤ n - r := by simpa [okE] using ho
                have hw8 : IntKind.u64.wrap r = r := by rw [IntKind.wrap_u64]; omega
                have hw9 : IntKind.u64.wrap (r + 1) = r + 1 := by rw [IntKind.wrap_u64]; omega
                clear ht ho hk
                go_wp2_with fail
                go_meet
                case rel => exact ⟨t', by have ht := HT.out; rw [IntKind.wrap_u64, ht], HGV.out⟩
        have e1 : (d == 1) = false := by simp [hd1]
        by_cases hd2 : d = 2
        · subst hd2
          as_aux_lemma =>
            have hwt := HWT.out wa m E t HGA.out o y _ _ rfl HBY.out ⟨hyo.1, hyo.2.1⟩
            have hrw := fun (w' : World) (h : Ents w' base (.slice ao' n cap') n E) (hb : base ≤ w'.heap.size) => ref14_waiting h (by have := HN.out; omega) hb m HMM.out o
            unfold stVal at hrw
            generalize waitE n o (m, E) n = s2 at hwt hrw
            obtain ⟨m2, E2⟩ := s2
            dsimp only at hwt hrw
            have HWT1 := Lib.hid hwt; have HRW := Lib.hid hrw
            clear hwt hrw
            go_wp2_with fail
            refine HWT1.out.mono ?_
            rintro e w3 ⟨rfl, ⟨t', A3⟩, K3⟩
            have ht : True := trivial
            have by3 := K3.get HBY.out (by simp; omega); have b93 := K3.get HB9.out (by simp; omega); have b73 := K3.get HB7.out (by simp; omega)
            have cy3 := cell_at by3; have c93 := cell_at b93; have c73 := cell_at b73; have f93 := frozen_at b93; have l93 := lt_of_block b93; have ly3 := lt_of_block by3; have l73 := lt_of_block b73
            have hbs3 : base ≤ w3.heap.size := by omega
            have HE3 := Lib.hid (HEN.out.keep K3 (by simp; omega)); have HBY3 := Lib.hid by3; have HB93 := Lib.hid b93; have HB73 := Lib.hid b73; have HK3 := Lib.hid K3; have HA3 := Lib.hid A3; have HT := Lib.hid ht
            clear by3 b93 b73 K3 A3 ht cy c9 c7 f9 l9 l7 ly
            go_wp2_with fail
            refine (HRW.out w3 HE3.out hbs3).mono ?_
            rintro e w4 ⟨v4, rfl, E4, K4⟩
            obtain ⟨ao4, cap4, rfl, -, -⟩ := owns_val E4.own
            have by4 := K4.get HBY3.out (by simp); have b94 := K4.get HB93.out (by simp); have b74 := K4.get HB73.out (by simp)
            have cy4 := cell_at by4; have c94 := cell_at b94; have c74 := cell_at b74; have f94 := frozen_at b94; have l94 := lt_of_block b94; have ly4 := lt_of_block by4; have l74 := lt_of_block b74
            have HBY4 := Lib.hid by4; have HB94 := Lib.hid b94; have HK4 := Lib.hid K4; have HE4 := Lib.hid E4
            clear by4 b94 b74 K4 E4 cy3 c93 c73 f93 l93 ly3 l73
            go_wp2_with fail
            refine (ga_touched (((HA3.out.keep HK4.out (by simp) (by simp)).keep (S := [z9]) (by ((repeat (first | (with_reducible exact Keep.refl _ _) | (with_reducible refine Keep.drew ?_) | (with_reducible refine Keep.drewN ?_ _) | (with_reducible refine Keep.alloc ?_ _) | ((with_reducible refine Keep.setCell ?_ ?_ _); rotate_left; focus (first | (simp; done) | (simp; omega) | (left; dsimp only; omega))))); done)) (by simp; omega) (by simp; omega)))).mono ?_
            rintro e w6 ⟨rfl, hw6⟩
            subst hw6
            go_wp2_with fail
            go_meet
            case rel =>
              refine ⟨t', rfl, GvAt.next HO.out HKWA.out HB7.out HB9.out HK3.out HA3.out HE4.out HK4.out (by ((repeat (first | (with_reducible exact Keep.refl _ _) | (with_reducible refine Keep.drew ?_) | (with_reducible refine Keep.drewN ?_ _) | (with_reducible refine Keep.alloc ?_ _) | ((with_reducible refine Keep.setCell ?_ ?_ _); rotate_left; focus (first | (simp; done) | (simp; omega) | (left; dsimp only; omega))))); done)) ?_⟩
              have h := HB94.out
              exact put_at (put_at (put_at h 0 _) 1 _) 2 _
        have e2 : (d == 2) = false := by simp [hd2]
        as_aux_lemma =>
          have hmay := fun w' => ref05_may ⟨ek, ec, er, eo⟩ HU.out w'
          unfold En.val at hmay
          dsimp only at hmay
          have hety := fun w' => law14_entry ⟨ek, ec, er, eo⟩ w'
          unfold En.val at hety
          dsimp only at hety
          have HENTRY := Lib.hid hety
          clear hety
          have hst := fun (w' : World) (K : Keep [] wa w') => HST0.out w' m E t (HGA.out.keep K (by simp) (by simp)) p ⟨ek, ec, er, eo⟩ HU.out
          have hrs := fun (w' : World) (h : Ents w' base (.slice ao' n cap') n E) (hb : base ≤ w'.heap.size) => ref14_set h (by have := HN.out; omega) hb m p ⟨ek, ec, er, eo⟩ HU.out
          unfold stVal En.val at hrs
          unfold En.val at hst
          dsimp only at hrs hst
          generalize setE n E p ⟨ek, ec, er, eo⟩ = E2 at hst hrs
          generalize En.may ⟨ek, ec, er, eo⟩ = may at hst hmay
          have HST1 := Lib.hid hst; have HRS := Lib.hid hrs; have HMAY1 := Lib.hid hmay
          clear hst hrs hmay
          have D0 : Hid (wa.cell? ⟨z7, 0, none⟩ = some (.int .i64 1)) := by rw [Hid, c7]; rfl
          have D1 : Hid (wa.cell? ⟨z7, 1, none⟩ = some (.int .i64 1)) := by rw [Hid, c7]; rfl
          have D2 : Hid (wa.cell? ⟨z7, 2, none⟩ = some (.int .i64 n)) := by rw [Hid, c7]; rfl
          have Y1 : Hid (wa.cell? ⟨y, 1, none⟩ = some (.int .i64 p)) := by rw [Hid, cy]; rfl
          have Y4 : Hid (wa.cell? ⟨y, 4, none⟩ = some (.int .u8 ek)) := by rw [Hid, cy]; rfl
          have Y5 : Hid (wa.cell? ⟨y, 5, none⟩ = some (.int .u8 ec)) := by rw [Hid, cy]; rfl
          have Y6 : Hid (wa.cell? ⟨y, 6, none⟩ = some (.int .u8 er)) := by rw [Hid, cy]; rfl
          have Y7 : Hid (wa.cell? ⟨y, 7, none⟩ = some (.int .u8 eo)) := by rw [Hid, cy]; rfl
          go_wp2_with fail
          first
          | (go_region_held3 (fun w' => w'.cell? ⟨z7, 0, none⟩ = some (.int .i64 1) ∧ w'.cell? ⟨z7, 1, none⟩ = some (.int .i64 1) ∧ w'.cell? ⟨z7, 2, none⟩ = some (.int .i64 n) ∧ w'.cell? ⟨y, 1, none⟩ = some (.int .i64 p) ∧ w'.cell? ⟨y, 4, none⟩ = some (.int .u8 ek) ∧ w'.cell? ⟨y, 5, none⟩ = some (.int .u8 ec) ∧ w'.cell? ⟨y, 6, none⟩ = some (.int .u8 er) ∧ w'.cell? ⟨y, 7, none⟩ = some (.int .u8 eo))
              (first
                | (refine ⟨Keep.cell (S := []) (w := wa) ?_ D0.out (by simp), Keep.cell (S := []) (w := wa) ?_ D1.out (by simp), Keep.cell (S := []) (w := wa) ?_ D2.out (by simp), Keep.cell (S := []) (w := wa) ?_ Y1.out (by simp), Keep.cell (S := []) (w := wa) ?_ Y4.out (by simp), Keep.cell (S := []) (w := wa) ?_ Y5.out (by simp), Keep.cell (S := []) (w := wa) ?_ Y6.out (by simp), Keep.cell (S := []) (w := wa) ?_ Y7.out (by simp)⟩; all_goals (((repeat (first | (with_reducible exact Keep.refl _ _) | (with_reducible refine Keep.drew ?_) | (with_reducible refine Keep.drewN ?_ _) | (with_reducible refine Keep.alloc ?_ _) | ((with_reducible refine Keep.setCell ?_ ?_ _); rotate_left; focus (first | (simp; done) | (simp; omega) | (left; dsimp only; omega))))); done)))
                | (refine ⟨Keep.cell (S := []) (w := wa) ?_ D0.out (by simp), Keep.cell (S := []) (w := wa) ?_ D1.out (by simp), Keep.cell (S := []) (w := wa) ?_ D2.out (by simp), Keep.cell (S := []) (w := wa) ?_ Y1.out (by simp), Keep.cell (S := []) (w := wa) ?_ Y4.out (by simp), Keep.cell (S := []) (w := wa) ?_ Y5.out (by simp), Keep.cell (S := []) (w := wa) ?_ Y6.out (by simp), Keep.cell (S := []) (w := wa) ?_ Y7.out (by simp)⟩; all_goals (((repeat (first | (with_reducible exact HK2.out) | (with_reducible refine Keep.drew ?_) | (with_reducible refine Keep.drewN ?_ _) | (with_reducible refine Keep.alloc ?_ _) | ((with_reducible refine Keep.setCell ?_ ?_ _); rotate_left; focus (first | (simp; done) | (simp; omega) | (left; dsimp only; omega))))); done)))
                | (refine ⟨Keep.cell (S := [b, g]) (w := wa) ?_ D0.out (by simp; omega), Keep.cell (S := [b, g]) (w := wa) ?_ D1.out (by simp; omega), Keep.cell (S := [b, g]) (w := wa) ?_ D2.out (by simp; omega), Keep.cell (S := [b, g]) (w := wa) ?_ Y1.out (by simp; omega), Keep.cell (S := [b, g]) (w := wa) ?_ Y4.out (by simp; omega), Keep.cell (S := [b, g]) (w := wa) ?_ Y5.out (by simp; omega), Keep.cell (S := [b, g]) (w := wa) ?_ Y6.out (by simp; omega), Keep.cell (S := [b, g]) (w := wa) ?_ Y7.out (by simp; omega)⟩; all_goals (((repeat (first | (with_reducible exact HK3.out) | (with_reducible refine Keep.drew ?_) | (with_reducible refine Keep.drewN ?_ _) | (with_reducible refine Keep.alloc ?_ _) | ((with_reducible refine Keep.setCell ?_ ?_ _); rotate_left; focus (first | (simp; done) | (simp; omega) | (left; dsimp only; omega))))); done))))
              (first
                | (go_at_call 44; refine (HENTRY.out _).mono ?_; rintro e w2 ⟨rfl, K2⟩; have HK2 := Lib.hid (show Keep [] wa w2 from by refine Keep.trans (a := wa) ?_ K2; ((repeat (first | (with_reducible exact Keep.refl _ _) | (with_reducible refine Keep.drew ?_) | (with_reducible refine Keep.drewN ?_ _) | (with_reducible refine Keep.alloc ?_ _) | ((with_reducible refine Keep.setCell ?_ ?_ _); rotate_left; focus (first | (simp; done) | (simp; omega) | (left; dsimp only; omega))))); done)); clear K2)
                | (go_at_call 43; refine (HST1.out _ (by first | (((repeat (first | (with_reducible exact HK2.out) | (with_reducible refine Keep.drew ?_) | (with_reducible refine Keep.drewN ?_ _) | (with_reducible refine Keep.alloc ?_ _) | ((with_reducible refine Keep.setCell ?_ ?_ _); rotate_left; focus (first | (simp; done) | (simp; omega) | (left; dsimp only; omega))))); done)) | (((repeat (first | (with_reducible exact Keep.refl _ _) | (with_reducible refine Keep.drew ?_) | (with_reducible refine Keep.drewN ?_ _) | (with_reducible refine Keep.alloc ?_ _) | ((with_reducible refine Keep.setCell ?_ ?_ _); rotate_left; focus (first | (simp; done) | (simp; omega) | (left; dsimp only; omega))))); done)))).mono ?_; rintro e w3 ⟨rfl, ⟨t', A3, ht⟩, K3⟩; have HA3 := Lib.hid A3; have HT := Lib.hid ht; have HK3 := Lib.hid (show Keep [b, g] wa w3 from by refine Keep.trans (a := wa) ?_ K3; ((repeat (first | (with_reducible exact HK2.out.mono (by simp)) | (with_reducible refine Keep.drew ?_) | (with_reducible refine Keep.drewN ?_ _) | (with_reducible refine Keep.alloc ?_ _) | ((with_reducible refine Keep.setCell ?_ ?_ _); rotate_left; focus (first | (simp; done) | (simp; omega) | (left; dsimp only; omega))))); done)); clear A3 ht K3)))
          | fail
          all_goals (
            have K3 := HK3.out; have A3 := HA3.out; have ht := HT.out
            have by3 := K3.get HBY.out (by simp; omega); have b93 := K3.get HB9.out (by simp; omega); have b73 := K3.get HB7.out (by simp; omega)
            have cy3 := cell_at by3; have c93 := cell_at b93; have c73 := cell_at b73; have f93 := frozen_at b93; have l93 := lt_of_block b93; have ly3 := lt_of_block by3; have l73 := lt_of_block b73
            have hbs3 : base ≤ w3.heap.size := by omega
            have HE3 := Lib.hid (HEN.out.keep K3 (by simp; omega)); have HBY3 := Lib.hid by3; have HB93 := Lib.hid b93; have HB73 := Lib.hid b73; have HK3 := Lib.hid K3; have HA3 := Lib.hid A3; have HT := Lib.hid ht
            clear by3 b93 b73 K3 A3 ht cy c9 c7 f9 l9 l7 ly
            go_wp2_with fail
            refine (HRS.out w3 HE3.out hbs3).mono ?_
            rintro e w4 ⟨v4, rfl, E4, K4⟩
            obtain ⟨ao4, cap4, rfl, -, -⟩ := owns_val E4.own
            have by4 := K4.get HBY3.out (by simp); have b94 := K4.get HB93.out (by simp); have b74 := K4.get HB73.out (by simp)
            have cy4 := cell_at by4; have c94 := cell_at b94; have c74 := cell_at b74; have f94 := frozen_at b94; have l94 := lt_of_block b94; have ly4 := lt_of_block by4; have l74 := lt_of_block b74
            have HBY4 := Lib.hid by4; have HB94 := Lib.hid b94; have HK4 := Lib.hid K4; have HE4 := Lib.hid E4
            clear by4 b94 b74 K4 E4 cy3 c93 c73 f93 l93 ly3 l73
            go_upto_region 18 with (fail)
            obtain ⟨w5, hw5⟩ : ∃ x, x = World.setCell (World.setCell (World.setCell w4 ⟨z9, 0, none⟩ (.int .i64 n)) ⟨z9, 1, none⟩ (.int .u64 m)) ⟨z9, 2, none⟩ (.slice ao4 n cap4) := ⟨_, rfl⟩
            simp only [← hw5]
            have K5 : Keep [z9] w4 w5 := by rw [hw5]; ((repeat (first | (with_reducible exact Keep.refl _ _) | (with_reducible refine Keep.drew ?_) | (with_reducible refine Keep.drewN ?_ _) | (with_reducible refine Keep.alloc ?_ _) | ((with_reducible refine Keep.setCell ?_ ?_ _); rotate_left; focus (first | (simp; done) | (simp; omega) | (left; dsimp only; omega))))); done)
            have hgv : GvAt w b g z7 base z9 n w5 t' := GvAt.next HO.out HKWA.out HB7.out HB9.out HK3.out HA3.out HE4.out HK4.out K5 (by
              have h := HB94.out
              rw [hw5]
              exact put_at (put_at (put_at h 0 _) 1 _) 2 _)
            have by5 := K5.get HBY4.out (by simp; omega)
            have cy5 := cell_at by5; have ly5 := lt_of_block by5
            have HGV := Lib.hid hgv; have HBY5 := Lib.hid by5
            clear hw5 K5 hgv by5 cy4 c94 c74 f94 l94 ly4 l74
            go_cut [91] (fun c wx => c = .bool (decide (may = true ∧ 0 ≤ p ∧ p < n)) ∧ GvAt w b g z7 base z9 n wx t')
            case first =>
              by_cases p0 : p < 0
              · have g1 : decide ((0 : Int) ≤ p) = false := by simp; omega
                have G := Lib.hid (show decide (may = true ∧ 0 ≤ p ∧ p < n) = false by simp; omega)
                go_wp2_with fail
                go_meet
                case rel => exact ⟨by rw [G.out], HGV.out⟩
              have g1 : decide ((0 : Int) ≤ p) = true := by simp; omega
              by_cases p1 : (n : Int) ≤ p
              · have g3 : decide (p < (n : Int)) = false := by simp; omega
                have G := Lib.hid (show decide (may = true ∧ 0 ≤ p ∧ p < n) = false by simp; omega)
                go_wp2_with fail
                go_meet
                case rel => exact ⟨by rw [G.out], HGV.out⟩
              have g3 : decide (p < (n : Int)) = true := by simp; omega
              have G := Lib.hid (show decide (may = true ∧ 0 ≤ p ∧ p < n) = may by cases may <;> simp <;> omega)
              go_wp2_with fail
              refine (HMAY1.out _).mono ?_
              rintro e w6 ⟨rfl, K6⟩
              have HK6 := Lib.hid K6
              clear K6
              go_wp2_with fail
              go_meet
              case rel => exact ⟨by rw [G.out], (let ⟨m9, E9, a9, c9, hX⟩ := HGV.out; ⟨m9, E9, a9, c9, GvX.still hX HK6.out⟩)⟩
            case rest =>
              obtain ⟨rfl, hgv⟩ := hcut
              have HGV := Lib.hid hgv
              clear hgv
              by_cases hr : may = true ∧ 0 ≤ p ∧ p < n
              · have ht := HT.out
                rw [if_pos hr] at ht
                have HT := Lib.hid ht
                rw [show decide (may = true ∧ 0 ≤ p ∧ p < n) = true from decide_eq_true hr]
                clear ht hr
                go_wp2_with fail
                go_meet
                case rel => exact ⟨t', by have ht := HT.out; rw [IntKind.wrap_u64, ht], HGV.out⟩
              · have ht := HT.out
                rw [if_neg hr] at ht
                have HT := Lib.hid ht
                rw [show decide (may = true ∧ 0 ≤ p ∧ p < n) = false from decide_eq_false hr]
                clear ht hr
                go_wp2_with fail
                go_meet
                case rel => exact ⟨t', by have ht := HT.out; rw [IntKind.wrap_u64, ht], HGV.out⟩)
        --END
      case rest => as_aux_lemma =>
        obtain ⟨t', rfl, m2, E2, ao2, cap2, hG2⟩ := hcut
        clear c7 c9 f9 l7 l9 cy ly
        have hG2 : GvX w b g z7 base z9 n m2 E2 ao2 cap2 wc t' := hG2
        have c9 : wc.cell? ⟨z9, 1, none⟩ = some (.int .u64 m2) := by rw [cell_at hG2.2.2.2.1]; rfl
        have C9 := Lib.hid c9
        have HGX := Lib.hid hG2
        clear hG2 c9
        go_upto_region 37 with (fail)
        go_cut [208] (fun c wx => c = .bool false ∧ ∃ t5, GvX w b g z7 base z9 n m2 E2 ao2 cap2 wx t5)
        case first =>
          first
          | (go_region_held3 (fun w' => w'.cell? ⟨z9, 1, none⟩ = some (.int .u64 m2))
              (first
                | (refine Keep.cell (S := []) (w := wc) ?_ C9.out (by simp); all_goals (((repeat (first | (with_reducible exact Keep.refl _ _) | (with_reducible refine Keep.drew ?_) | (with_reducible refine Keep.drewN ?_ _) | (with_reducible refine Keep.alloc ?_ _) | ((with_reducible refine Keep.setCell ?_ ?_ _); rotate_left; focus (first | (simp; done) | (simp; omega) | (left; dsimp only; omega))))); done)))
                | (refine Keep.cell (S := [b, g]) (w := wc) ?_ C9.out (by simp; omega); all_goals (((repeat (first | (with_reducible exact HK5.out) | (with_reducible refine Keep.drew ?_) | (with_reducible refine Keep.drewN ?_ _) | (with_reducible refine Keep.alloc ?_ _) | ((with_reducible refine Keep.setCell ?_ ?_ _); rotate_left; focus (first | (simp; done) | (simp; omega) | (left; dsimp only; omega))))); done))))
              (first
                | (go_at_call 23; refine (ga_touched (HGX.out.1.keep (S := []) (by ((repeat (first | (with_reducible exact Keep.refl _ _) | (with_reducible refine Keep.drew ?_) | (with_reducible refine Keep.drewN ?_ _) | (with_reducible refine Keep.alloc ?_ _) | ((with_reducible refine Keep.setCell ?_ ?_ _); rotate_left; focus (first | (simp; done) | (simp; omega) | (left; dsimp only; omega))))); done)) (by simp) (by simp))).mono ?_; rintro e w4 ⟨rfl, hw4⟩; subst hw4)
                | (go_at_call 30; refine (ga_map (HGX.out.1.keep (S := []) (by ((repeat (first | (with_reducible exact Keep.refl _ _) | (with_reducible refine Keep.drew ?_) | (with_reducible refine Keep.drewN ?_ _) | (with_reducible refine Keep.alloc ?_ _) | ((with_reducible refine Keep.setCell ?_ ?_ _); rotate_left; focus (first | (simp; done) | (simp; omega) | (left; dsimp only; omega))))); done)) (by simp) (by simp))).mono ?_; rintro e w5 ⟨rfl, ⟨t5, A5⟩, K5⟩; have HA5 := Lib.hid A5; have HK5 := Lib.hid (show Keep [b, g] wc w5 from by refine Keep.trans (a := wc) ?_ K5; ((repeat (first | (with_reducible exact Keep.refl _ _) | (with_reducible refine Keep.drew ?_) | (with_reducible refine Keep.drewN ?_ _) | (with_reducible refine Keep.alloc ?_ _) | ((with_reducible refine Keep.setCell ?_ ?_ _); rotate_left; focus (first | (simp; done) | (simp; omega) | (left; dsimp only; omega))))); done)); clear A5 K5)))
          | fail
          all_goals (
            go_wp2_with fail
            go_meet
            case rel => exact ⟨rfl, t5, HGX.out.read HO.out (HA5.out.keep (S := []) (by ((repeat (first | (with_reducible exact Keep.refl _ _) | (with_reducible refine Keep.drew ?_) | (with_reducible refine Keep.drewN ?_ _) | (with_reducible refine Keep.alloc ?_ _) | ((with_reducible refine Keep.setCell ?_ ?_ _); rotate_left; focus (first | (simp; done) | (simp; omega) | (left; dsimp only; omega))))); done)) (by simp) (by simp)) (by ((repeat (first | (with_reducible exact HK5.out) | (with_reducible refine Keep.drew ?_) | (with_reducible refine Keep.drewN ?_ _) | (with_reducible refine Keep.alloc ?_ _) | ((with_reducible refine Keep.setCell ?_ ?_ _); rotate_left; focus (first | (simp; done) | (simp; omega) | (left; dsimp only; omega))))); done))⟩)
        case rest =>
          obtain ⟨rfl, t5, hX⟩ := hcut
          clear HGX C9 HGA HEN HB7 HB9 HBY HKW HKWA
          have HX := Lib.hid hX
          clear hX
          go_wp2_with fail
          go_loopg [18] n (fun j i wr => ∃ q : Nat, q + j = n ∧ i = .int .i64 q ∧ ∃ t, GvX w b g z7 base z9 n m2 E2 ao2 cap2 wr t)
          case atStart => exact ⟨0, by omega, rfl, t5, HX.out⟩
          case round =>
            obtain ⟨q, hqj, rfl, tq, hQ⟩ := hrel
            by_cases hqn : q < n
            · have j1 : (q : Int) < (n : Int) := by omega
              have j0 : (0 : Int) ≤ (q : Int) := by omega
              have hE := hQ.2.1
              obtain ⟨g0, cap0, hv, hc1', hc2', hge, hltg, hcl, hfr⟩ := owns_some hE.own (by omega)
              cases hv
              have hel : q < E2.length := by rw [hE.len]; exact hqn
              have cg := hcl q (.int .u64 (E2.getD q 0)) (by simp [u64s, hel])
              have fg := hfr q
              have hx := hE.words (E2.getD q 0) (by rw [List.getD_eq_getElem?_getD, List.getElem?_eq_getElem hel]; exact List.getElem_mem hel)
              have hgb : g0 ≠ b ∧ g0 ≠ g := by omega
              have c7 := cell_at hQ.2.2.1; have c9 := cell_at hQ.2.2.2.1; have l7 := lt_of_block hQ.2.2.1; have l9 := lt_of_block hQ.2.2.2.1
              have hrd := fun (w' : World) (t : Int) (h : Ga w' b g n m2 E2 t) => ga_word h q hqn
              have hen : ∀ (w' : World), (∃ t, Ga w' b g n m2 E2 t) → _ := fun w' ⟨t, h⟩ => ga_entry HN.out h q (by omega)
              have hly := fun (w' : World) => lay_entry n HN.out q hqn w'
              rw [if_pos hqn] at hen
              have htk := ref05_take (E2.getD q 0) hx wr
              have hety := fun (w' : World) => law14_entry (takeE (E2.getD q 0)) w'
              have HQ := Lib.hid hQ; have HCG := Lib.hid cg; have HLTG := Lib.hid hltg
              clear hQ hE hcl hfr hge hltg hel
              generalize takeE (E2.getD q 0) = d at *
              generalize (if isEn (E2.getD q 0) = true then (0 : Int) else 3) = xe at htk
              generalize E2.getD q 0 = x at *
              obtain ⟨dk, dc, dr, dd⟩ := d
              unfold En.val at htk hety hen
              simp only [arnV, layV] at htk hety hen hly
              generalize ((5 + q : Nat) : Int) = pl at hrd hly
              have HTK := Lib.hid htk; have HETY := Lib.hid hety; have HENT := Lib.hid hen; have HLY := Lib.hid hly; have HRD := Lib.hid hrd
              clear htk hety hen hly hrd
              go_wp2_with fail
              refine HTK.out.mono ?_
              rintro e w6 ⟨rfl, K6⟩
              have HX6 := Lib.hid (HQ.out.still K6)
              have HCG6 := Lib.hid (K6.cell HCG.out (by simp))
              have hs6 := K6.size
              have c7 := cell_at HX6.out.2.2.1; have c9 := cell_at HX6.out.2.2.2.1; have l7 := lt_of_block HX6.out.2.2.1; have l9 := lt_of_block HX6.out.2.2.2.1
              have hg6 : g0 < w6.heap.size := by have := HLTG.out; omega
              have HG6 := Lib.hid hg6
              clear K6 cg fg hs6 hg6
              go_wp2_with fail
              obtain ⟨zz, hz⟩ : ∃ z, z = w6.heap.size := ⟨_, rfl⟩
              simp only [← hz]
              generalize hwb : World.alloc w6 _ = wb
              have bz : wb.heap[zz]? = some (.cells #[.int .u8 dk, .int .u8 dc, .int .u8 dr, .int .u8 dd] 61 (0, 0)) := by rw [← hwb]; exact alloc_new _ _ _ hz
              have Kb : Keep [] w6 wb := by rw [← hwb]; exact (by repeat (first | (with_reducible exact Keep.refl _ _) | (with_reducible refine Keep.drew ?_) | (with_reducible refine Keep.drewN ?_ _) | (with_reducible refine Keep.alloc ?_ _) | (with_reducible refine Keep.setCell ?_ (by first | (simp; done) | (simp; omega) | (left; dsimp only; omega)) _)))
              have hzo : zz ≠ b ∧ zz ≠ g ∧ zz ≠ z9 ∧ zz ≠ z7 ∧ zz ≠ g0 := by have := HG6.out; have := l9; omega
              have HXB := Lib.hid (HX6.out.still Kb)
              have D0 : Hid (wb.cell? ⟨z7, 0, none⟩ = some (.int .i64 1)) := by rw [Hid, cell_at HXB.out.2.2.1]; rfl
              have D1 : Hid (wb.cell? ⟨z7, 1, none⟩ = some (.int .i64 1)) := by rw [Hid, cell_at HXB.out.2.2.1]; rfl
              have D2 : Hid (wb.cell? ⟨z7, 2, none⟩ = some (.int .i64 n)) := by rw [Hid, cell_at HXB.out.2.2.1]; rfl
              have D3 : Hid (wb.cell? ⟨z9, 2, none⟩ = some (.slice (some ⟨g0, 0, none⟩) n cap2)) := by rw [Hid, cell_at HXB.out.2.2.2.1]; rfl
              have D4 : Hid (wb.cell? ⟨g0, q, none⟩ = some (.int .u64 x)) := Kb.cell HCG6.out (by simp)
              have Y0 : Hid (wb.cell? ⟨zz, 0, none⟩ = some (.int .u8 dk)) := by rw [Hid, cell_at bz]; rfl
              have Y1 : Hid (wb.cell? ⟨zz, 1, none⟩ = some (.int .u8 dc)) := by rw [Hid, cell_at bz]; rfl
              have Y2 : Hid (wb.cell? ⟨zz, 2, none⟩ = some (.int .u8 dr)) := by rw [Hid, cell_at bz]; rfl
              have Y3 : Hid (wb.cell? ⟨zz, 3, none⟩ = some (.int .u8 dd)) := by rw [Hid, cell_at bz]; rfl
              clear hwb hz bz Kb c7 c9 l7 l9
              first
              | (go_region_held3 (fun w' => w'.cell? ⟨z7, 0, none⟩ = some (.int .i64 1) ∧ w'.cell? ⟨z7, 1, none⟩ = some (.int .i64 1) ∧ w'.cell? ⟨z7, 2, none⟩ = some (.int .i64 n) ∧ w'.cell? ⟨z9, 2, none⟩ = some (.slice (some ⟨g0, 0, none⟩) n cap2) ∧ w'.cell? ⟨g0, q, none⟩ = some (.int .u64 x) ∧ w'.cell? ⟨zz, 0, none⟩ = some (.int .u8 dk) ∧ w'.cell? ⟨zz, 1, none⟩ = some (.int .u8 dc) ∧ w'.cell? ⟨zz, 2, none⟩ = some (.int .u8 dr) ∧ w'.cell? ⟨zz, 3, none⟩ = some (.int .u8 dd))
                  (first
                    | (refine ⟨Keep.cell (S := []) (w := wb) ?_ D0.out (by simp), Keep.cell (S := []) (w := wb) ?_ D1.out (by simp), Keep.cell (S := []) (w := wb) ?_ D2.out (by simp), Keep.cell (S := []) (w := wb) ?_ D3.out (by simp), Keep.cell (S := []) (w := wb) ?_ D4.out (by simp), Keep.cell (S := []) (w := wb) ?_ Y0.out (by simp), Keep.cell (S := []) (w := wb) ?_ Y1.out (by simp), Keep.cell (S := []) (w := wb) ?_ Y2.out (by simp), Keep.cell (S := []) (w := wb) ?_ Y3.out (by simp)⟩; all_goals (((repeat (first | (with_reducible exact Keep.refl _ _) | (with_reducible refine Keep.drew ?_) | (with_reducible refine Keep.drewN ?_ _) | (with_reducible refine Keep.alloc ?_ _) | ((with_reducible refine Keep.setCell ?_ ?_ _); rotate_left; focus (first | (simp; done) | (simp; omega) | (left; dsimp only; omega))))); done)))
                    | (refine ⟨Keep.cell (S := []) (w := wb) ?_ D0.out (by simp), Keep.cell (S := []) (w := wb) ?_ D1.out (by simp), Keep.cell (S := []) (w := wb) ?_ D2.out (by simp), Keep.cell (S := []) (w := wb) ?_ D3.out (by simp), Keep.cell (S := []) (w := wb) ?_ D4.out (by simp), Keep.cell (S := []) (w := wb) ?_ Y0.out (by simp), Keep.cell (S := []) (w := wb) ?_ Y1.out (by simp), Keep.cell (S := []) (w := wb) ?_ Y2.out (by simp), Keep.cell (S := []) (w := wb) ?_ Y3.out (by simp)⟩; all_goals (((repeat (first | (with_reducible exact HK7.out) | (with_reducible refine Keep.drew ?_) | (with_reducible refine Keep.drewN ?_ _) | (with_reducible refine Keep.alloc ?_ _) | ((with_reducible refine Keep.setCell ?_ ?_ _); rotate_left; focus (first | (simp; done) | (simp; omega) | (left; dsimp only; omega))))); done)))
                    | (refine ⟨Keep.cell (S := [b, g]) (w := wb) ?_ D0.out (by simp; omega), Keep.cell (S := [b, g]) (w := wb) ?_ D1.out (by simp; omega), Keep.cell (S := [b, g]) (w := wb) ?_ D2.out (by simp; omega), Keep.cell (S := [b, g]) (w := wb) ?_ D3.out (by simp; omega), Keep.cell (S := [b, g]) (w := wb) ?_ D4.out (by simp; omega), Keep.cell (S := [b, g]) (w := wb) ?_ Y0.out (by simp; omega), Keep.cell (S := [b, g]) (w := wb) ?_ Y1.out (by simp; omega), Keep.cell (S := [b, g]) (w := wb) ?_ Y2.out (by simp; omega), Keep.cell (S := [b, g]) (w := wb) ?_ Y3.out (by simp; omega)⟩; all_goals (((repeat (first | (with_reducible exact HK8.out) | (with_reducible refine Keep.drew ?_) | (with_reducible refine Keep.drewN ?_ _) | (with_reducible refine Keep.alloc ?_ _) | ((with_reducible refine Keep.setCell ?_ ?_ _); rotate_left; focus (first | (simp; done) | (simp; omega) | (left; dsimp only; omega))))); done)))
                    | (refine ⟨Keep.cell (S := [b, g]) (w := wb) ?_ D0.out (by simp; omega), Keep.cell (S := [b, g]) (w := wb) ?_ D1.out (by simp; omega), Keep.cell (S := [b, g]) (w := wb) ?_ D2.out (by simp; omega), Keep.cell (S := [b, g]) (w := wb) ?_ D3.out (by simp; omega), Keep.cell (S := [b, g]) (w := wb) ?_ D4.out (by simp; omega), Keep.cell (S := [b, g]) (w := wb) ?_ Y0.out (by simp; omega), Keep.cell (S := [b, g]) (w := wb) ?_ Y1.out (by simp; omega), Keep.cell (S := [b, g]) (w := wb) ?_ Y2.out (by simp; omega), Keep.cell (S := [b, g]) (w := wb) ?_ Y3.out (by simp; omega)⟩; all_goals (first | (((repeat (first | (with_reducible exact HK8.out.trans HK9.out) | (with_reducible refine Keep.drew ?_) | (with_reducible refine Keep.drewN ?_ _) | (with_reducible refine Keep.alloc ?_ _) | ((with_reducible refine Keep.setCell ?_ ?_ _); rotate_left; focus (first | (simp; done) | (simp; omega) | (left; dsimp only; omega))))); done)) | (((repeat (first | (with_reducible exact HK8.out.trans HK10.out) | (with_reducible refine Keep.drew ?_) | (with_reducible refine Keep.drewN ?_ _) | (with_reducible refine Keep.alloc ?_ _) | ((with_reducible refine Keep.setCell ?_ ?_ _); rotate_left; focus (first | (simp; done) | (simp; omega) | (left; dsimp only; omega))))); done)))))
                  (first
                    | (go_at_call 48; refine (HLY.out _).mono ?_; rintro e w7 ⟨rfl, K7⟩; have HK7 := Lib.hid (show Keep [] wb w7 from by refine Keep.trans (a := wb) ?_ K7; ((repeat (first | (with_reducible exact Keep.refl _ _) | (with_reducible refine Keep.drew ?_) | (with_reducible refine Keep.drewN ?_ _) | (with_reducible refine Keep.alloc ?_ _) | ((with_reducible refine Keep.setCell ?_ ?_ _); rotate_left; focus (first | (simp; done) | (simp; omega) | (left; dsimp only; omega))))); done)); clear K7)
                    | (go_at_call 30; refine (HRD.out _ _ (HXB.out.1.keep (S := []) (by ((repeat (first | (with_reducible exact HK7.out) | (with_reducible refine Keep.drew ?_) | (with_reducible refine Keep.drewN ?_ _) | (with_reducible refine Keep.alloc ?_ _) | ((with_reducible refine Keep.setCell ?_ ?_ _); rotate_left; focus (first | (simp; done) | (simp; omega) | (left; dsimp only; omega))))); done)) (by simp) (by simp))).mono ?_; rintro e w8 ⟨rfl, ⟨t8, A8⟩, K8⟩; have HA8 := Lib.hid (show ∃ t, Ga w8 b g n m2 E2 t from ⟨t8, A8⟩); have HK8 := Lib.hid (show Keep [b, g] wb w8 from by refine Keep.trans (a := wb) ?_ K8; ((repeat (first | (with_reducible exact HK7.out.mono (by simp)) | (with_reducible refine Keep.drew ?_) | (with_reducible refine Keep.drewN ?_ _) | (with_reducible refine Keep.alloc ?_ _) | ((with_reducible refine Keep.setCell ?_ ?_ _); rotate_left; focus (first | (simp; done) | (simp; omega) | (left; dsimp only; omega))))); done)); clear A8 K8)
                    | (go_at_call 49; refine (HENT.out _ (by first | (refine Exists.imp (fun _ h => h.keep (S := []) ?_ (by simp) (by simp)) HA10.out; ((repeat (first | (with_reducible exact Keep.refl _ _) | (with_reducible refine Keep.drew ?_) | (with_reducible refine Keep.drewN ?_ _) | (with_reducible refine Keep.alloc ?_ _) | ((with_reducible refine Keep.setCell ?_ ?_ _); rotate_left; focus (first | (simp; done) | (simp; omega) | (left; dsimp only; omega))))); done)) | (refine Exists.imp (fun _ h => h.keep (S := []) ?_ (by simp) (by simp)) HA8.out; ((repeat (first | (with_reducible exact Keep.refl _ _) | (with_reducible refine Keep.drew ?_) | (with_reducible refine Keep.drewN ?_ _) | (with_reducible refine Keep.alloc ?_ _) | ((with_reducible refine Keep.setCell ?_ ?_ _); rotate_left; focus (first | (simp; done) | (simp; omega) | (left; dsimp only; omega))))); done)))).mono ?_; rintro e w9 ⟨rfl, A9, K9⟩; have HA9 := Lib.hid A9; have HK9 := Lib.hid (show Keep [b, g] w8 w9 from by refine Keep.trans (a := w8) ?_ K9; first | (((repeat (first | (with_reducible exact HK10.out) | (with_reducible refine Keep.drew ?_) | (with_reducible refine Keep.drewN ?_ _) | (with_reducible refine Keep.alloc ?_ _) | ((with_reducible refine Keep.setCell ?_ ?_ _); rotate_left; focus (first | (simp; done) | (simp; omega) | (left; dsimp only; omega))))); done)) | (((repeat (first | (with_reducible exact Keep.refl _ _) | (with_reducible refine Keep.drew ?_) | (with_reducible refine Keep.drewN ?_ _) | (with_reducible refine Keep.alloc ?_ _) | ((with_reducible refine Keep.setCell ?_ ?_ _); rotate_left; focus (first | (simp; done) | (simp; omega) | (left; dsimp only; omega))))); done))); clear A9 K9)
                    | (go_at_call 44; refine (HETY.out _).mono ?_; rintro e w10 ⟨rfl, K10⟩; have HA10 := Lib.hid (show ∃ t, Ga w10 b g n m2 E2 t from by first | (refine Exists.imp (fun _ h => Ga.keep (S := []) h (Keep.trans ?_ K10) (by simp) (by simp)) HA9.out; ((repeat (first | (with_reducible exact Keep.refl _ _) | (with_reducible refine Keep.drew ?_) | (with_reducible refine Keep.drewN ?_ _) | (with_reducible refine Keep.alloc ?_ _) | ((with_reducible refine Keep.setCell ?_ ?_ _); rotate_left; focus (first | (simp; done) | (simp; omega) | (left; dsimp only; omega))))); done)) | (refine Exists.imp (fun _ h => Ga.keep (S := []) h (Keep.trans ?_ K10) (by simp) (by simp)) HA8.out; ((repeat (first | (with_reducible exact Keep.refl _ _) | (with_reducible refine Keep.drew ?_) | (with_reducible refine Keep.drewN ?_ _) | (with_reducible refine Keep.alloc ?_ _) | ((with_reducible refine Keep.setCell ?_ ?_ _); rotate_left; focus (first | (simp; done) | (simp; omega) | (left; dsimp only; omega))))); done))); have HK10 := Lib.hid (show Keep [b, g] w8 w10 from by refine Keep.trans (a := w8) ?_ (K10.mono (by simp)); first | (((repeat (first | (with_reducible exact HK9.out) | (with_reducible refine Keep.drew ?_) | (with_reducible refine Keep.drewN ?_ _) | (with_reducible refine Keep.alloc ?_ _) | ((with_reducible refine Keep.setCell ?_ ?_ _); rotate_left; focus (first | (simp; done) | (simp; omega) | (left; dsimp only; omega))))); done)) | (((repeat (first | (with_reducible exact Keep.refl _ _) | (with_reducible refine Keep.drew ?_) | (with_reducible refine Keep.drewN ?_ _) | (with_reducible refine Keep.alloc ?_ _) | ((with_reducible refine Keep.setCell ?_ ?_ _); rotate_left; focus (first | (simp; done) | (simp; omega) | (left; dsimp only; omega))))); done))); clear K10)))
              | fail
              all_goals (
                go_wp2_with fail
                go_roundg (n - (q + 1))
                case measure => omega
                case rel =>
                  refine ⟨q + 1, by omega, by go_num, ?_⟩
                  first
                  | (obtain ⟨tt, hh⟩ := HA10.out; refine ⟨tt, HXB.out.read HO.out (hh.keep (S := []) ?_ (by simp) (by simp)) (HK8.out.trans (HK10.out.trans ?_))⟩ <;> (((repeat (first | (with_reducible exact Keep.refl _ _) | (with_reducible refine Keep.drew ?_) | (with_reducible refine Keep.drewN ?_ _) | (with_reducible refine Keep.alloc ?_ _) | ((with_reducible refine Keep.setCell ?_ ?_ _); rotate_left; focus (first | (simp; done) | (simp; omega) | (left; dsimp only; omega))))); done)))
                  | (obtain ⟨tt, hh⟩ := HA9.out; refine ⟨tt, HXB.out.read HO.out (hh.keep (S := []) ?_ (by simp) (by simp)) (HK8.out.trans (HK9.out.trans ?_))⟩ <;> (((repeat (first | (with_reducible exact Keep.refl _ _) | (with_reducible refine Keep.drew ?_) | (with_reducible refine Keep.drewN ?_ _) | (with_reducible refine Keep.alloc ?_ _) | ((with_reducible refine Keep.setCell ?_ ?_ _); rotate_left; focus (first | (simp; done) | (simp; omega) | (left; dsimp only; omega))))); done))))
            · obtain rfl : q = n := by omega
              have HQ := Lib.hid hQ
              clear hQ
              go_wp2_with fail
              go_roundg (L - (k + 1))
              case measure => omega
              case rel => exact ⟨k + 1, by omega, by go_num, tq, m2, E2, ao2, cap2, HQ.out⟩
    · as_aux_lemma =>
      obtain rfl : k = L := by omega
      obtain ⟨m, E, ao', cap', hX⟩ := hG
      have hX : GvX w b g z7 base z9 n m E ao' cap' wr t := hX
      have c7 := cell_at hX.2.2.1
      have hen := ga_entry HN.out hX.1 n (Nat.le_refl n)
      rw [if_neg (by omega)] at hen
      unfold En.val En.zero at hen
      simp only [arnV, layV] at hen
      have HENT := Lib.hid hen; have HX := Lib.hid hX
      clear hen hX
      go_wp2_with fail
      refine HENT.out.mono ?_
      rintro e w6 ⟨rfl, ⟨t6, A6⟩, K6⟩
      have HK6 := Lib.hid (HX.out.2.2.2.2.fresh K6 (by have := HO.out.wb; have := HO.out.wg; simp; omega))
      clear A6 K6 c7
      go_wp2_with fail
      refine (law14_wakes _).mono ?_
      rintro e w7 ⟨rfl, K7⟩
      go_wp2_with fail
      exact hR.out _ _ ⟨rfl, HK6.out.trans (by refine Keep.trans ?_ K7; ((repeat (first | (with_reducible exact Keep.refl _ _) | (with_reducible refine Keep.drew ?_) | (with_reducible refine Keep.drewN ?_ _) | (with_reducible refine Keep.alloc ?_ _) | ((with_reducible refine Keep.setCell ?_ ?_ _); rotate_left; focus (first | (simp; done) | (simp; omega) | (left; dsimp only; omega))))); done))⟩

set_option maxRecDepth 100000 in
theorem lawGivePlays_walk {H : Type} {enc : TypeId × Value → H} {base : Nat} (W : World) {v0 v1 : Value} {d0 d1 : DataW H} {p0 p1 : List MemPlace}
    (ok0 : Value.okWide Try.prog W .any base 5 v0) (h0 : DataW.Trod enc Try.prog W 0 (fun _ => true) true 5 v0 d0 p0)
    (ok1 : Value.okWide Try.prog W .any base 51 v1) (h1 : DataW.Trod enc Try.prog W 0 (fun _ => true) true 51 v1 d1 p1) :
    Calls Try.prog 7 #[v0, v1] W fun e w' => e = .returned (.bool true) ∧ Below W.heap.size W w' := by
  obtain ⟨a0, rfl, rfl, rfl, w0⟩ := open_int Try.underlying5 ok0 h0
  obtain ⟨ao, len, cap, rfl⟩ := okWide_slice Try.underlying51 ok1
  obtain ⟨fuel, h1⟩ := h1
  rw [show (Value.slice ao len cap).cells = #[.slice ao len cap] from rfl] at h1
  obtain ⟨⟨v, l⟩, hv, hrd, hu, _⟩ := opens_acts _ _ _ h1
  simp at hv
  subst hv
  dsimp only at hrd hu
  obtain ⟨rfl, hcap⟩ := hrd.len
  refine (give_plays_law a0 (lit_wf_u8 w0) W ao cap l ⟨hrd, hu⟩ (by simp only [maxLen] at hcap; omega)).mono ?_
  rintro e w' ⟨rfl, K⟩
  exact ⟨rfl, K.below (Nat.le_refl _) (by simp)⟩
end Go.Proofs.Ytnadiddaeolanaa
