/- The law contangolaw20.VaryCarries holds: whatever the input, it answers true, and the input reads as it did. Part 3 of 4. -/
import Derived.Test.YteipjpkdlhojeaaCarries2
import Derived.Maps.GroupsBeside
import Derived.Maps.RangeWalk
import Derived.Maps.AppendAt
import Derived.Carry
import Derived.Deep.RegionHeld3
import Derived.Deep.AppendLies
import Derived.Laws.BitsLemmas
import Derived.Laws.EntriesVeiled
import Derived.ChangeArms
import Derived.DataReads
import Derived.OpenShut

/- The checks of lists: product.CheckAll, position.Check, mark.CheckAll. -/
namespace Go.Proofs.Yteipjpkdlhojeaa.Q
open Go.RowKit Go.Proofs.YteipjpkdlhojeaaW.PrintWords Go.Proofs.YteipjpkdlhojeaaW.PrintLast Go.Proofs.YteipjpkdlhojeaaW.PrintMore
set_option linter.unusedVariables false
set_option linter.unusedSimpArgs false

theorem Up.cell {w : World} {a : Addr} {v : Value} (h : w.cell? a = some v) (u : Up w) : u.w.cell? a = some v := cell_up u.below h

/-- What product.CheckAll answers: product by product, each with the one ahead. -/
def productsGo : Option S23 → List S23 → Int
  | _, [] => 0
  | prev, p :: r => if productCheck p ≠ 0 then productCheck p else if prev.any (fun q => !Op.bytesLess q.f0.toList p.f0.toList) = true then 12 else productsGo (some p) r
def productsCheck (l : List S23) : Int := if 32 < l.length then 8 else productsGo none l
def prevAt {α : Type} (z : α) (l : List α) : Nat → Option α
  | 0 => none
  | i + 1 => some (l.getD i z)
theorem drop_cons {α : Type} (z : α) {l : List α} {i : Nat} (h : i < l.length) : l.drop i = l.getD i z :: l.drop (i + 1) := by
  rw [List.drop_eq_getElem_cons h]; simp [List.getD, h]

set_option maxHeartbeats 2000000 in
set_option maxRecDepth 100000 in
theorem product_CheckAll_tells (A : Option Addr) (c : Nat) (l : List S23) (w : World) (hC : k23.C w A l.length l) (hc : l.length ≤ c) :
    Calls Try.prog 26 #[.slice A l.length c] w fun e w' => e = .returned (.int .i64 (productsCheck l)) ∧ Below w.heap.size w w' := by
  have hu1 := Try.underlying23
  have HC := Aside0.mk hC
  clear hC
  by_cases hL : 32 < l.length
  · have HF := Aside0.mk (show productsCheck l = 8 by unfold productsCheck; rw [if_pos hL])
    go_enter Try.func26, Try.ntmps26
    go_wp2
    go_ret
    exact ⟨by rw [HF.out]; rfl, Below.refl _ _⟩
  · have hF : productsCheck l = productsGo none l := by unfold productsCheck; rw [if_neg hL]
    have HF := Aside0.mk hF
    clear hF
    go_enter Try.func26, Try.ntmps26
    go_wp2
    go_loopg [11] l.length (fun kq v11 wr => ∃ i : Nat, v11 = .int .i64 i ∧ Aside0 (i + kq = l.length) ∧ i ≤ l.length ∧ Aside0 (productsGo none l = productsGo (prevAt z23 l i) (l.drop i)) ∧ Below w.heap.size w wr)
    case atStart => exact ⟨0, rfl, ⟨by omega⟩, by omega, ⟨rfl⟩, Below.refl _ _⟩
    case round =>
      obtain ⟨i, rfl, HK, hi, HN, HB⟩ := hrel
      by_cases hlt2 : i < l.length
      · have hCr := Kd.C_below HC.out HB
        obtain ⟨ad, rfl, d0, d1, d2, d3, d4, d5, d6⟩ := at_T23 hCr (i : Int) (by omega) (by omega)
        simp only [Int.toNat_natCast] at d0 d1 d2 d3 d4 d5 d6
        generalize hp : rd_T23 l i = p at d0 d1 d2 d3 d4 d5 d6
        have hp' : l.getD i z23 = p := by rw [← hp]; simp [rd_T23]
        have HN2 := HN.out
        rw [drop_cons z23 hlt2, hp'] at HN2
        have HN3 := Aside0.mk HN2
        have HP := Aside0.mk hp'
        clear hp hp' HN2
        go_wp2_with fail
        refine (product_Check_tells p _).mono ?_
        rintro e w1 ⟨rfl, hb⟩
        have HBa := below_alloc HB (Obj.cells #[.string p.f0, .int .i64 p.f1, .int .i64 p.f2, .int .i64 p.f3, .int .i64 p.f4, .int .i64 p.f5, .bool p.f6] 23)
        have HB1 := below_up HBa hb
        have hbk := blk_up hb (heap_alloc_new _ _)
        obtain ⟨⟨x0, _, _, _, _, _, _⟩, _⟩ := box7 hbk
        have hzz := blk_lt hbk
        clear hb hbk
        by_cases hq : productCheck p = 0
        · have hq' : (productCheck p != 0) = false := by simp [hq]
          cases i with
          | zero =>
            have hnext := HN3.out
            rw [productsGo, if_neg (by simp [hq]), if_neg (by simp [prevAt])] at hnext
            have HN4 := Aside0.mk hnext
            clear hnext hq
            go_wp2
            refine wp_region_up (by kernel_rfl) (by kernel_rfl) ?_
            repeat (go_big_quiet_step (fail))
            refine wpQuiet_nil ?_
            rintro W ⟨u, rfl⟩
            have HB2 := below_up HB1 u.below
            go_wp2
            go_roundg (l.length - 1)
            case measure => have := HK.out; omega
            case rel => exact ⟨1, by go_num, ⟨by omega⟩, by omega, ⟨by rw [HN4.out]; simp only [prevAt]; rw [HP.out]⟩, HB2⟩
          | succ j =>
            obtain ⟨ad2, e2, q0, _⟩ := at_T23 (Kd.C_below HC.out HB1) (j : Int) (by omega) (by omega)
            obtain rfl : ad = ad2 := by injection e2
            clear e2
            simp only [Int.toNat_natCast] at q0
            have hp2 : rd_T23 l j = l.getD j z23 := by simp [rd_T23]
            rw [hp2] at q0
            clear hp2
            generalize hq2 : l.getD j z23 = q at q0
            have HQ := Aside0.mk hq2
            clear hq2
            have hj1 : ((j + 1 : Nat) : Int) - 1 = (j : Int) := by omega
            have U0 := Up.cell x0
            have U1 := Up.cell q0
            have hg : decide ((0 : Int) < ((j + 1 : Nat) : Int)) = true := by simp
            go_wp2
            refine wp_region_up (by kernel_rfl) (by kernel_rfl) ?_
            repeat (go_big_quiet_step (fail))
            refine wpQuiet_nil ?_
            rintro W ⟨u, rfl⟩
            have HB2 := below_up HB1 u.below
            have hnext := HN3.out
            rw [productsGo, if_neg (by simp [hq])] at hnext
            simp only [prevAt, HQ.out, Option.any_some] at hnext
            clear U0 U1 q0 x0
            cases hcmp : Op.bytesLess q.f0.toList p.f0.toList
            · rw [hcmp, if_pos (by rfl)] at hnext
              have HN4 := Aside0.mk hnext
              clear hnext hq
              go_wp2
              go_ret
              exact ⟨by rw [HF.out, HN4.out]; rfl, HB2⟩
            · rw [hcmp, if_neg (by decide)] at hnext
              have HN4 := Aside0.mk hnext
              clear hnext hq
              go_wp2
              go_roundg (l.length - (j + 2))
              case measure => have := HK.out; omega
              case rel => exact ⟨j + 2, by go_num, ⟨by omega⟩, by omega, ⟨by rw [HN4.out]; simp only [prevAt]; rw [HP.out]⟩, HB2⟩
        · have hq' : (productCheck p != 0) = true := by simp [hq]
          have hfin := HN3.out
          rw [productsGo, if_pos hq] at hfin
          have HF2 := Aside0.mk hfin
          clear hfin hq
          go_wp2
          go_ret
          exact ⟨by rw [HF.out, HF2.out]; rfl, HB1⟩
      · have hfin : productsCheck l = 0 := by
          rw [HF.out, HN.out, List.drop_of_length_le (by omega)]; rfl
        have HF2 := Aside0.mk hfin
        clear hfin
        go_wp2
        go_ret
        exact ⟨by rw [HF2.out]; rfl, HB⟩

theorem lots_tells (n : Int) (w : World) : Calls Try.prog 58 #[.int .i64 n] w fun e w' => e = .returned (.bool (decide (0 ≤ n) && decide (n ≤ 1048576))) ∧ Drawn0 w w' := by
  go_enter Try.func58, Try.ntmps58
  go_wp2
  all_goals
    go_ret
    refine ⟨?_, Drawn0.refl _⟩
    first | rfl | (simp; omega)
theorem mprice_tells (n : Int) (w : World) : Calls Try.prog 59 #[.int .i64 n] w fun e w' => e = .returned (.bool (decide (-16777216 ≤ n) && decide (n ≤ 16777216))) ∧ Drawn0 w w' := by
  go_enter Try.func59, Try.ntmps59
  go_wp2
  all_goals
    go_ret
    refine ⟨?_, Drawn0.refl _⟩
    first | rfl | (simp; omega)

/-- What position.Check answers. -/
def badLots (p : S63) : Prop := (p.f1 < 0 ∨ 1048576 < p.f1) ∨ (p.f2 < 0 ∨ 1048576 < p.f2) ∨ (p.f1 = 0 ∧ p.f2 = 0)
instance (p : S63) : Decidable (badLots p) := by unfold badLots; infer_instance
def positionsGo : Option S63 → List S63 → Int
  | _, [] => 0
  | prev, p :: r => if prev.any (fun q => decide (0 ≤ compareSeries q.f0 p.f0)) = true then 19 else if badLots p then 18 else positionsGo (some p) r
def positionsCheck (l : List S63) : Int := if 128 < l.length then 8 else positionsGo none l

set_option maxHeartbeats 2000000 in
set_option maxRecDepth 100000 in
theorem position_Check_tells (A : Option Addr) (c : Nat) (l : List S63) (w : World) (hC : k63.C w A l.length l) (hc : l.length ≤ c) :
    Calls Try.prog 28 #[.slice A l.length c] w fun e w' => e = .returned (.int .i64 (positionsCheck l)) ∧ Below w.heap.size w w' := by
  have hu1 := Try.underlying63
  have hu2 := Try.underlying27
  have HC := Aside0.mk hC
  clear hC
  by_cases hL : 128 < l.length
  · have HF := Aside0.mk (show positionsCheck l = 8 by unfold positionsCheck; rw [if_pos hL])
    go_enter Try.func28, Try.ntmps28
    go_wp2
    go_ret
    exact ⟨by rw [HF.out]; rfl, Below.refl _ _⟩
  · have hF : positionsCheck l = positionsGo none l := by unfold positionsCheck; rw [if_neg hL]
    have HF := Aside0.mk hF
    clear hF
    go_enter Try.func28, Try.ntmps28
    go_wp2
    go_loopg [10] l.length (fun kq v10 wr => ∃ i : Nat, v10 = .int .i64 i ∧ Aside0 (i + kq = l.length) ∧ i ≤ l.length ∧ Aside0 (positionsGo none l = positionsGo (prevAt z63 l i) (l.drop i)) ∧ Below w.heap.size w wr)
    case atStart => exact ⟨0, rfl, ⟨by omega⟩, by omega, ⟨rfl⟩, Below.refl _ _⟩
    case round =>
      obtain ⟨i, rfl, HK, hi, HN, HB⟩ := hrel
      by_cases hlt2 : i < l.length
      · have hCr := Kd.C_below HC.out HB
        obtain ⟨ad, rfl, d0, d1, d2, d3, d4, d5⟩ := at_T63 hCr (i : Int) (by omega) (by omega)
        simp only [Int.toNat_natCast] at d0 d1 d2 d3 d4 d5
        generalize hp : rd_T63 l i = p at d0 d1 d2 d3 d4 d5
        have hp' : l.getD i z63 = p := by rw [← hp]; simp [rd_T63]
        have HN2 := HN.out
        rw [drop_cons z63 hlt2, hp'] at HN2
        have HN3 := Aside0.mk HN2
        have HP := Aside0.mk hp'
        clear hp hp' HN2
        have HBa := below_alloc HB (Obj.cells #[.string p.f0.f0, .int .i64 p.f0.f1, .int .i64 p.f0.f2, .int .i64 p.f0.f3, .int .i64 p.f1, .int .i64 p.f2] 63)
        have hbk := heap_alloc_new wr (Obj.cells #[.string p.f0.f0, .int .i64 p.f0.f1, .int .i64 p.f0.f2, .int .i64 p.f0.f3, .int .i64 p.f1, .int .i64 p.f2] 63)
        go_wp2
        clear d0 d1 d2 d3 d4 d5
        cases i with
        | zero =>
          refine wp_region_up (by kernel_rfl) (by kernel_rfl) ?_
          repeat (go_big_quiet_step (fail))
          refine wpQuiet_nil ?_
          rintro W ⟨u, rfl⟩
          have HB2 := below_up HBa u.below
          obtain ⟨⟨x0, x1, x2, x3, x4, x5⟩, _⟩ := box6 (blk_up u.below hbk)
          have hnext := HN3.out
          rw [positionsGo, if_neg (by simp [prevAt])] at hnext
          clear hbk HBa
          by_cases hbad : badLots p
          · rw [if_pos hbad] at hnext
            have HN4 := Aside0.mk hnext
            have HBd := Aside0.mk hbad
            clear hnext hbad
            go_wp2_with (go_at_call 58; refine (lots_tells _ _).mono ?_; rintro e w' ⟨rfl, ⟨n, rfl⟩⟩)
            all_goals first
              | (exfalso; have hb := HBd.out; unfold badLots at hb; (try simp only [bne_iff_ne, ne_eq, bne_eq_false_iff_eq, beq_iff_eq, beq_eq_false_iff_ne, Bool.not_eq_true', Bool.not_eq_false', decide_eq_true_eq, decide_eq_false_iff_not, Bool.and_eq_true, Bool.or_eq_true, Bool.and_eq_false_iff, Bool.or_eq_false_iff, decide_true, decide_false] at *); omega)
              | (go_ret; exact ⟨by rw [HF.out, HN4.out]; rfl, by repeat (first | exact HB2 | apply pw_below_drewN)⟩)
          · rw [if_neg hbad] at hnext
            have HN4 := Aside0.mk hnext
            have HBd := Aside0.mk hbad
            clear hnext hbad
            go_wp2_with (go_at_call 58; refine (lots_tells _ _).mono ?_; rintro e w' ⟨rfl, ⟨n, rfl⟩⟩)
            all_goals first
              | (exfalso; have hb := HBd.out; unfold badLots at hb; (try simp only [bne_iff_ne, ne_eq, bne_eq_false_iff_eq, beq_iff_eq, beq_eq_false_iff_ne, Bool.not_eq_true', Bool.not_eq_false', decide_eq_true_eq, decide_eq_false_iff_not, Bool.and_eq_true, Bool.or_eq_true, Bool.and_eq_false_iff, Bool.or_eq_false_iff, decide_true, decide_false] at *); omega)
              | (go_roundg (l.length - 1)
                 case measure => have := HK.out; omega
                 case rel => exact ⟨1, by go_num, ⟨by omega⟩, by omega, ⟨by rw [HN4.out]; simp only [prevAt]; rw [HP.out]⟩, by repeat (first | exact HB2 | apply pw_below_drewN)⟩)
        | succ j =>
          obtain ⟨ad2, e2, q0, q1, q2, q3, _⟩ := at_T63 (Kd.C_below HC.out HBa) (j : Int) (by omega) (by omega)
          obtain rfl : ad = ad2 := by injection e2
          clear e2
          simp only [Int.toNat_natCast] at q0 q1 q2 q3
          have hp2 : rd_T63 l j = l.getD j z63 := by simp [rd_T63]
          rw [hp2] at q0 q1 q2 q3
          clear hp2
          generalize hq2 : l.getD j z63 = q at q0 q1 q2 q3
          have HQ := Aside0.mk hq2
          clear hq2
          obtain ⟨⟨x0, x1, x2, x3, x4, x5⟩, _⟩ := box6 hbk
          have U0 := Up.cell q0
          have U1 := Up.cell q1
          have U2 := Up.cell q2
          have U3 := Up.cell q3
          have V0 := Up.cell x0
          have V1 := Up.cell x1
          have V2 := Up.cell x2
          have V3 := Up.cell x3
          have hg : decide ((0 : Int) < ((j + 1 : Nat) : Int)) = true := by simp
          refine wp_region_up (by kernel_rfl) (by kernel_rfl) ?_
          repeat (go_big_quiet_step ((go_at_call 57; exact Calls.up_of (series_Compare_tells q.f0 p.f0 _))))
          refine wpQuiet_nil ?_
          rintro W ⟨u, rfl⟩
          have HB2 := below_up HBa u.below
          have hnext := HN3.out
          rw [positionsGo] at hnext
          simp only [prevAt, HQ.out, Option.any_some] at hnext
          clear U0 U1 U2 U3 V0 V1 V2 V3 q0 q1 q2 q3 x0 x1 x2 x3 x4 x5
          obtain ⟨⟨x0, x1, x2, x3, x4, x5⟩, _⟩ := box6 (blk_up u.below hbk)
          clear hbk HBa
          by_cases hcmp : 0 ≤ compareSeries q.f0 p.f0
          · rw [if_pos (by simpa using hcmp)] at hnext
            have HN4 := Aside0.mk hnext
            clear hnext
            go_wp2
            go_ret
            exact ⟨by rw [HF.out, HN4.out]; rfl, HB2⟩
          · rw [if_neg (by simpa using hcmp)] at hnext
            by_cases hbad : badLots p
            · rw [if_pos hbad] at hnext
              have HN4 := Aside0.mk hnext
              have HBd := Aside0.mk hbad
              clear hnext hbad
              go_wp2_with (go_at_call 58; refine (lots_tells _ _).mono ?_; rintro e w' ⟨rfl, ⟨n, rfl⟩⟩)
              all_goals first
                | (exfalso; have hb := HBd.out; unfold badLots at hb; (try simp only [bne_iff_ne, ne_eq, bne_eq_false_iff_eq, beq_iff_eq, beq_eq_false_iff_ne, Bool.not_eq_true', Bool.not_eq_false', decide_eq_true_eq, decide_eq_false_iff_not, Bool.and_eq_true, Bool.or_eq_true, Bool.and_eq_false_iff, Bool.or_eq_false_iff, decide_true, decide_false] at *); omega)
                | (go_ret; exact ⟨by rw [HF.out, HN4.out]; rfl, by repeat (first | exact HB2 | apply pw_below_drewN)⟩)
            · rw [if_neg hbad] at hnext
              have HN4 := Aside0.mk hnext
              have HBd := Aside0.mk hbad
              clear hnext hbad
              go_wp2_with (go_at_call 58; refine (lots_tells _ _).mono ?_; rintro e w' ⟨rfl, ⟨n, rfl⟩⟩)
              all_goals first
                | (exfalso; have hb := HBd.out; unfold badLots at hb; (try simp only [bne_iff_ne, ne_eq, bne_eq_false_iff_eq, beq_iff_eq, beq_eq_false_iff_ne, Bool.not_eq_true', Bool.not_eq_false', decide_eq_true_eq, decide_eq_false_iff_not, Bool.and_eq_true, Bool.or_eq_true, Bool.and_eq_false_iff, Bool.or_eq_false_iff, decide_true, decide_false] at *); omega)
                | (go_roundg (l.length - (j + 2))
                   case measure => have := HK.out; omega
                   case rel => exact ⟨j + 2, by go_num, ⟨by omega⟩, by omega, ⟨by rw [HN4.out]; simp only [prevAt]; rw [HP.out]⟩, by repeat (first | exact HB2 | apply pw_below_drewN)⟩)
      · have hfin : positionsCheck l = 0 := by
          rw [HF.out, HN.out, List.drop_of_length_le (by omega)]; rfl
        have HF2 := Aside0.mk hfin
        clear hfin
        go_wp2
        go_ret
        exact ⟨by rw [HF2.out]; rfl, HB⟩

/-- What mark.CheckAll answers. -/
def badPrice (p : S71) : Prop := p.f1 < -16777216 ∨ 16777216 < p.f1
instance (p : S71) : Decidable (badPrice p) := by unfold badPrice; infer_instance
def marksGo : Option S71 → List S71 → Int
  | _, [] => 0
  | prev, p :: r => if prev.any (fun q => decide (0 ≤ compareSeries q.f0 p.f0)) = true then 19 else if badPrice p then 17 else marksGo (some p) r
def marksCheck (l : List S71) : Int := if 128 < l.length then 8 else marksGo none l

set_option maxHeartbeats 2000000 in
set_option maxRecDepth 100000 in
theorem mark_CheckAll_tells (A : Option Addr) (c : Nat) (l : List S71) (w : World) (hC : k71.C w A l.length l) (hc : l.length ≤ c) :
    Calls Try.prog 30 #[.slice A l.length c] w fun e w' => e = .returned (.int .i64 (marksCheck l)) ∧ Below w.heap.size w w' := by
  have hu1 := Try.underlying71
  have hu2 := Try.underlying27
  have HC := Aside0.mk hC
  clear hC
  by_cases hL : 128 < l.length
  · have HF := Aside0.mk (show marksCheck l = 8 by unfold marksCheck; rw [if_pos hL])
    go_enter Try.func30, Try.ntmps30
    go_wp2
    go_ret
    exact ⟨by rw [HF.out]; rfl, Below.refl _ _⟩
  · have hF : marksCheck l = marksGo none l := by unfold marksCheck; rw [if_neg hL]
    have HF := Aside0.mk hF
    clear hF
    go_enter Try.func30, Try.ntmps30
    go_wp2
    go_loopg [10] l.length (fun kq v10 wr => ∃ i : Nat, v10 = .int .i64 i ∧ Aside0 (i + kq = l.length) ∧ i ≤ l.length ∧ Aside0 (marksGo none l = marksGo (prevAt z71 l i) (l.drop i)) ∧ Below w.heap.size w wr)
    case atStart => exact ⟨0, rfl, ⟨by omega⟩, by omega, ⟨rfl⟩, Below.refl _ _⟩
    case round =>
      obtain ⟨i, rfl, HK, hi, HN, HB⟩ := hrel
      by_cases hlt2 : i < l.length
      · have hCr := Kd.C_below HC.out HB
        obtain ⟨ad, rfl, d0, d1, d2, d3, d4⟩ := at_T71 hCr (i : Int) (by omega) (by omega)
        simp only [Int.toNat_natCast] at d0 d1 d2 d3 d4
        generalize hp : rd_T71 l i = p at d0 d1 d2 d3 d4
        have hp' : l.getD i z71 = p := by rw [← hp]; simp [rd_T71]
        have HN2 := HN.out
        rw [drop_cons z71 hlt2, hp'] at HN2
        have HN3 := Aside0.mk HN2
        have HP := Aside0.mk hp'
        clear hp hp' HN2
        have HBa := below_alloc HB (Obj.cells #[.string p.f0.f0, .int .i64 p.f0.f1, .int .i64 p.f0.f2, .int .i64 p.f0.f3, .int .i64 p.f1] 71)
        have hbk := heap_alloc_new wr (Obj.cells #[.string p.f0.f0, .int .i64 p.f0.f1, .int .i64 p.f0.f2, .int .i64 p.f0.f3, .int .i64 p.f1] 71)
        go_wp2
        clear d0 d1 d2 d3 d4
        cases i with
        | zero =>
          refine wp_region_up (by kernel_rfl) (by kernel_rfl) ?_
          repeat (go_big_quiet_step (fail))
          refine wpQuiet_nil ?_
          rintro W ⟨u, rfl⟩
          have HB2 := below_up HBa u.below
          obtain ⟨⟨x0, x1, x2, x3, x4⟩, _⟩ := box5 (blk_up u.below hbk)
          have hnext := HN3.out
          rw [marksGo, if_neg (by simp [prevAt])] at hnext
          clear hbk HBa
          by_cases hbad : badPrice p
          · rw [if_pos hbad] at hnext
            have HN4 := Aside0.mk hnext
            have HBd := Aside0.mk hbad
            clear hnext hbad
            go_wp2_with (go_at_call 59; refine (mprice_tells _ _).mono ?_; rintro e w' ⟨rfl, ⟨n, rfl⟩⟩)
            all_goals first
              | (exfalso; have hb := HBd.out; unfold badPrice at hb; (try simp only [bne_iff_ne, ne_eq, bne_eq_false_iff_eq, beq_iff_eq, beq_eq_false_iff_ne, Bool.not_eq_true', Bool.not_eq_false', decide_eq_true_eq, decide_eq_false_iff_not, Bool.and_eq_true, Bool.or_eq_true, Bool.and_eq_false_iff, Bool.or_eq_false_iff, decide_true, decide_false] at *); omega)
              | (go_ret; exact ⟨by rw [HF.out, HN4.out]; rfl, by repeat (first | exact HB2 | apply pw_below_drewN)⟩)
          · rw [if_neg hbad] at hnext
            have HN4 := Aside0.mk hnext
            have HBd := Aside0.mk hbad
            clear hnext hbad
            go_wp2_with (go_at_call 59; refine (mprice_tells _ _).mono ?_; rintro e w' ⟨rfl, ⟨n, rfl⟩⟩)
            all_goals first
              | (exfalso; have hb := HBd.out; unfold badPrice at hb; (try simp only [bne_iff_ne, ne_eq, bne_eq_false_iff_eq, beq_iff_eq, beq_eq_false_iff_ne, Bool.not_eq_true', Bool.not_eq_false', decide_eq_true_eq, decide_eq_false_iff_not, Bool.and_eq_true, Bool.or_eq_true, Bool.and_eq_false_iff, Bool.or_eq_false_iff, decide_true, decide_false] at *); omega)
              | (go_roundg (l.length - 1)
                 case measure => have := HK.out; omega
                 case rel => exact ⟨1, by go_num, ⟨by omega⟩, by omega, ⟨by rw [HN4.out]; simp only [prevAt]; rw [HP.out]⟩, by repeat (first | exact HB2 | apply pw_below_drewN)⟩)
        | succ j =>
          obtain ⟨ad2, e2, q0, q1, q2, q3, _⟩ := at_T71 (Kd.C_below HC.out HBa) (j : Int) (by omega) (by omega)
          obtain rfl : ad = ad2 := by injection e2
          clear e2
          simp only [Int.toNat_natCast] at q0 q1 q2 q3
          have hp2 : rd_T71 l j = l.getD j z71 := by simp [rd_T71]
          rw [hp2] at q0 q1 q2 q3
          clear hp2
          generalize hq2 : l.getD j z71 = q at q0 q1 q2 q3
          have HQ := Aside0.mk hq2
          clear hq2
          obtain ⟨⟨x0, x1, x2, x3, x4⟩, _⟩ := box5 hbk
          have U0 := Up.cell q0
          have U1 := Up.cell q1
          have U2 := Up.cell q2
          have U3 := Up.cell q3
          have V0 := Up.cell x0
          have V1 := Up.cell x1
          have V2 := Up.cell x2
          have V3 := Up.cell x3
          have hg : decide ((0 : Int) < ((j + 1 : Nat) : Int)) = true := by simp
          refine wp_region_up (by kernel_rfl) (by kernel_rfl) ?_
          repeat (go_big_quiet_step ((go_at_call 57; exact Calls.up_of (series_Compare_tells q.f0 p.f0 _))))
          refine wpQuiet_nil ?_
          rintro W ⟨u, rfl⟩
          have HB2 := below_up HBa u.below
          have hnext := HN3.out
          rw [marksGo] at hnext
          simp only [prevAt, HQ.out, Option.any_some] at hnext
          clear U0 U1 U2 U3 V0 V1 V2 V3 q0 q1 q2 q3 x0 x1 x2 x3 x4
          obtain ⟨⟨x0, x1, x2, x3, x4⟩, _⟩ := box5 (blk_up u.below hbk)
          clear hbk HBa
          by_cases hcmp : 0 ≤ compareSeries q.f0 p.f0
          · rw [if_pos (by simpa using hcmp)] at hnext
            have HN4 := Aside0.mk hnext
            clear hnext
            go_wp2
            go_ret
            exact ⟨by rw [HF.out, HN4.out]; rfl, HB2⟩
          · rw [if_neg (by simpa using hcmp)] at hnext
            by_cases hbad : badPrice p
            · rw [if_pos hbad] at hnext
              have HN4 := Aside0.mk hnext
              have HBd := Aside0.mk hbad
              clear hnext hbad
              go_wp2_with (go_at_call 59; refine (mprice_tells _ _).mono ?_; rintro e w' ⟨rfl, ⟨n, rfl⟩⟩)
              all_goals first
                | (exfalso; have hb := HBd.out; unfold badPrice at hb; (try simp only [bne_iff_ne, ne_eq, bne_eq_false_iff_eq, beq_iff_eq, beq_eq_false_iff_ne, Bool.not_eq_true', Bool.not_eq_false', decide_eq_true_eq, decide_eq_false_iff_not, Bool.and_eq_true, Bool.or_eq_true, Bool.and_eq_false_iff, Bool.or_eq_false_iff, decide_true, decide_false] at *); omega)
                | (go_ret; exact ⟨by rw [HF.out, HN4.out]; rfl, by repeat (first | exact HB2 | apply pw_below_drewN)⟩)
            · rw [if_neg hbad] at hnext
              have HN4 := Aside0.mk hnext
              have HBd := Aside0.mk hbad
              clear hnext hbad
              go_wp2_with (go_at_call 59; refine (mprice_tells _ _).mono ?_; rintro e w' ⟨rfl, ⟨n, rfl⟩⟩)
              all_goals first
                | (exfalso; have hb := HBd.out; unfold badPrice at hb; (try simp only [bne_iff_ne, ne_eq, bne_eq_false_iff_eq, beq_iff_eq, beq_eq_false_iff_ne, Bool.not_eq_true', Bool.not_eq_false', decide_eq_true_eq, decide_eq_false_iff_not, Bool.and_eq_true, Bool.or_eq_true, Bool.and_eq_false_iff, Bool.or_eq_false_iff, decide_true, decide_false] at *); omega)
                | (go_roundg (l.length - (j + 2))
                   case measure => have := HK.out; omega
                   case rel => exact ⟨j + 2, by go_num, ⟨by omega⟩, by omega, ⟨by rw [HN4.out]; simp only [prevAt]; rw [HP.out]⟩, by repeat (first | exact HB2 | apply pw_below_drewN)⟩)
      · have hfin : marksCheck l = 0 := by
          rw [HF.out, HN.out, List.drop_of_length_le (by omega)]; rfl
        have HF2 := Aside0.mk hfin
        clear hfin
        go_wp2
        go_ret
        exact ⟨by rw [HF2.out]; rfl, HB⟩
end Go.Proofs.Yteipjpkdlhojeaa.Q

/- The function literals of vary.Account, and vary.looked. -/
namespace Go.Proofs.Yteipjpkdlhojeaa.Q
open Go.RowKit Go.Proofs.YteipjpkdlhojeaaW.PrintWords Go.Proofs.YteipjpkdlhojeaaW.PrintLast Go.Proofs.YteipjpkdlhojeaaW.PrintMore
set_option linter.unusedVariables false
set_option linter.unusedSimpArgs false

theorem vary_looked_tells (n c : Nat) (A : Option Addr) (w : World) :
    Calls Try.prog 32 #[.slice A n c] w fun e w' => e = .returned (.func (.func 60) #[] #[.pointer (some ⟨w.heap.size, 0, none⟩)]) ∧ w' = w.alloc (.cells #[.slice A n c] 43) := by
  go_enter Try.func32, Try.ntmps32
  go_wp2
  go_ret
  exact ⟨rfl, rfl⟩

/-- A series' price, or why there is none. -/
def lookMark (l : List S71) (s : S27) : Int × Int := if (findMark l s).2 = true then ((findMark l s).1, 0) else (0, 11)
set_option maxHeartbeats 2000000 in
set_option maxRecDepth 100000 in
theorem vary_looked_1_tells (b : Nat) (A : Option Addr) (c : Nat) (l : List S71) (s : S27) (w : World) (hb : w.heap[b]? = some (.cells #[.slice A l.length c] 43 (0, 0)))
    (hC : k71.C w A l.length l) (hc : l.length ≤ c) (hm : l.length ≤ 9223372036854775807) :
    Calls Try.prog 60 #[.agg #[.string s.f0, .int .i64 s.f1, .int .i64 s.f2, .int .i64 s.f3], .pointer (some ⟨b, 0, none⟩)] w
      fun e w' => e = .returned (.tuple #[.int .i64 (lookMark l s).1, .int .i64 (lookMark l s).2]) ∧ Below w.heap.size w w' := by
  have hu1 := Try.underlying27
  have hbc := blk_cell hb 0
  have hbl := blk_lt hb
  have HC := Aside0.mk hC
  clear hC hb
  simp only [List.getElem?_toArray, List.getElem?_cons_zero] at hbc
  go_enter Try.func60, Try.ntmps60
  cases hF : (findMark l s).2
  · have HF := Aside0.mk (show lookMark l s = (0, 11) by unfold lookMark; rw [if_neg (by rw [hF]; decide)])
    go_wp2_with (go_at_call 61; refine (mark_Find.calls s A c l _ (Kd.C_below HC.out (below_alloc (Below.refl _ _) _)) hc hm).mono ?_; rintro e w1 ⟨rfl, hb1⟩; rw [hF]; have HB := Aside0.mk (below_up (below_alloc (Below.refl w.heap.size w) _) hb1); clear hb1)
    go_ret2
    exact ⟨by rw [HF.out]; rfl, HB.out⟩
  · have HF := Aside0.mk (show lookMark l s = ((findMark l s).1, 0) by unfold lookMark; rw [if_pos hF])
    go_wp2_with (go_at_call 61; refine (mark_Find.calls s A c l _ (Kd.C_below HC.out (below_alloc (Below.refl _ _) _)) hc hm).mono ?_; rintro e w1 ⟨rfl, hb1⟩; rw [hF]; have HB := Aside0.mk (below_up (below_alloc (Below.refl w.heap.size w) _) hb1); clear hb1)
    go_ret2
    exact ⟨by rw [HF.out]; rfl, HB.out⟩

set_option maxHeartbeats 2000000 in
set_option maxRecDepth 100000 in
theorem vary_Account_1_tells (b : Nat) (A : Option Addr) (c : Nat) (l : List S23) (w : World) (hb : w.heap[b]? = some (.cells #[.slice A l.length c] 40 (0, 0))) (hC : k23.C w A l.length l) (hc : l.length ≤ c) :
    Calls Try.prog 25 #[.pointer (some ⟨b, 0, none⟩)] w fun e w' => e = .returned (.int .i64 (productsCheck l)) ∧ Below w.heap.size w w' := by
  have hbc := blk_cell hb 0
  clear hb
  simp only [List.getElem?_toArray, List.getElem?_cons_zero] at hbc
  have HC := Aside0.mk hC
  clear hC
  go_enter Try.func25, Try.ntmps25
  go_wp2_with (go_at_call 26; refine (product_CheckAll_tells A c l _ HC.out hc).mono ?_; rintro e w1 ⟨rfl, hb1⟩; have HB := Aside0.mk hb1; clear hb1)
  go_ret
  exact ⟨rfl, HB.out⟩
set_option maxHeartbeats 2000000 in
set_option maxRecDepth 100000 in
theorem vary_Account_2_tells (b : Nat) (A : Option Addr) (c : Nat) (l : List S63) (w : World) (hb : w.heap[b]? = some (.cells #[.slice A l.length c] 47 (0, 0))) (hC : k63.C w A l.length l) (hc : l.length ≤ c) :
    Calls Try.prog 27 #[.pointer (some ⟨b, 0, none⟩)] w fun e w' => e = .returned (.int .i64 (positionsCheck l)) ∧ Below w.heap.size w w' := by
  have hbc := blk_cell hb 0
  clear hb
  simp only [List.getElem?_toArray, List.getElem?_cons_zero] at hbc
  have HC := Aside0.mk hC
  clear hC
  go_enter Try.func27, Try.ntmps27
  go_wp2_with (go_at_call 28; refine (position_Check_tells A c l _ HC.out hc).mono ?_; rintro e w1 ⟨rfl, hb1⟩; have HB := Aside0.mk hb1; clear hb1)
  go_ret
  exact ⟨rfl, HB.out⟩
set_option maxHeartbeats 2000000 in
set_option maxRecDepth 100000 in
theorem vary_Account_3_tells (b : Nat) (A : Option Addr) (c : Nat) (l : List S71) (w : World) (hb : w.heap[b]? = some (.cells #[.slice A l.length c] 43 (0, 0))) (hC : k71.C w A l.length l) (hc : l.length ≤ c) :
    Calls Try.prog 29 #[.pointer (some ⟨b, 0, none⟩)] w fun e w' => e = .returned (.int .i64 (marksCheck l)) ∧ Below w.heap.size w w' := by
  have hbc := blk_cell hb 0
  clear hb
  simp only [List.getElem?_toArray, List.getElem?_cons_zero] at hbc
  have HC := Aside0.mk hC
  clear hC
  go_enter Try.func29, Try.ntmps29
  go_wp2_with (go_at_call 30; refine (mark_CheckAll_tells A c l _ HC.out hc).mono ?_; rintro e w1 ⟨rfl, hb1⟩; have HB := Aside0.mk hb1; clear hb1)
  go_ret
  exact ⟨rfl, HB.out⟩
set_option maxHeartbeats 2000000 in
set_option maxRecDepth 100000 in
theorem vary_Account_4_tells (b : Nat) (A : Option Addr) (c : Nat) (l : List S71) (w : World) (hb : w.heap[b]? = some (.cells #[.slice A l.length c] 43 (0, 0))) (hC : k71.C w A l.length l) (hc : l.length ≤ c) :
    Calls Try.prog 31 #[.pointer (some ⟨b, 0, none⟩)] w fun e w' => e = .returned (.int .i64 (marksCheck l)) ∧ Below w.heap.size w w' := by
  have hbc := blk_cell hb 0
  clear hb
  simp only [List.getElem?_toArray, List.getElem?_cons_zero] at hbc
  have HC := Aside0.mk hC
  clear hC
  go_enter Try.func31, Try.ntmps31
  go_wp2_with (go_at_call 30; refine (mark_CheckAll_tells A c l _ HC.out hc).mono ?_; rintro e w1 ⟨rfl, hb1⟩; have HB := Aside0.mk hb1; clear hb1)
  go_ret
  exact ⟨rfl, HB.out⟩

theorem position_Net_tells (x : S63) (w : World) : Calls Try.prog 36 #[.agg #[.string x.f0.f0, .int .i64 x.f0.f1, .int .i64 x.f0.f2, .int .i64 x.f0.f3, .int .i64 x.f1, .int .i64 x.f2]] w
    fun e w' => e = .returned (.int .i64 (wrap64 (x.f1 - x.f2))) ∧ Below w.heap.size w w' := by
  have hu1 := Try.underlying63
  go_enter Try.func36, Try.ntmps36
  go_wp2
  go_ret
  exact ⟨rfl, below_alloc (Below.refl _ _) _⟩

/-- What lots that are held get. -/
def reckonHeld (before now : List S71) (x : S63) (p : S23) : Int × Int :=
  if (lookMark before x.f0).2 ≠ 0 then (0, (lookMark before x.f0).2)
  else if (lookMark now x.f0).2 ≠ 0 then (0, (lookMark now x.f0).2)
  else carried p (wrap64 (x.f1 - x.f2)) (lookMark before x.f0).1 (lookMark now x.f0).1
/-- What a day's leg gets. -/
def reckonLeg (now : List S71) (x : S29) (p : S23) : Int × Int :=
  if (lookMark now x.f1).2 ≠ 0 then (0, (lookMark now x.f1).2)
  else carried p x.f2 x.f3 (lookMark now x.f1).1
end Go.Proofs.Yteipjpkdlhojeaa.Q

/- What the two reckoning function literals of vary.Account answer. -/
namespace Go.Proofs.Yteipjpkdlhojeaa.Q
open Go.RowKit Go.Proofs.YteipjpkdlhojeaaW.PrintWords Go.Proofs.YteipjpkdlhojeaaW.PrintLast Go.Proofs.YteipjpkdlhojeaaW.PrintMore
set_option linter.unusedVariables false
set_option linter.unusedSimpArgs false
abbrev fLooked (g : Nat) : Value := .func (.func 60) #[] #[.pointer (some ⟨g, 0, none⟩)]

set_option maxHeartbeats 2000000 in
set_option maxRecDepth 100000 in
theorem vary_Account_6_tells (p : S23) (x : S63) (bw bx bi g1 g2 : Nat) (A3 A4 : Option Addr) (c3 c4 : Nat) (l3 l4 : List S71) (w : World)
    (hw : w.heap[bw]? = some (.cells #[.func (.func 60) #[] #[.pointer (some ⟨g1, 0, none⟩)]] 77 (0, 0)))
    (hi : w.heap[bi]? = some (.cells #[.func (.func 60) #[] #[.pointer (some ⟨g2, 0, none⟩)]] 77 (0, 0)))
    (hx : w.heap[bx]? = some (.cells #[.string x.f0.f0, .int .i64 x.f0.f1, .int .i64 x.f0.f2, .int .i64 x.f0.f3, .int .i64 x.f1, .int .i64 x.f2] 63 (0, 0)))
    (h1 : w.heap[g1]? = some (.cells #[.slice A3 l3.length c3] 43 (0, 0))) (h2 : w.heap[g2]? = some (.cells #[.slice A4 l4.length c4] 43 (0, 0)))
    (hC3 : k71.C w A3 l3.length l3) (hc3 : l3.length ≤ c3) (hm3 : l3.length ≤ 9223372036854775807) (hC4 : k71.C w A4 l4.length l4) (hc4 : l4.length ≤ c4) (hm4 : l4.length ≤ 9223372036854775807) :
    Calls Try.prog 35 #[.agg #[.string p.f0, .int .i64 p.f1, .int .i64 p.f2, .int .i64 p.f3, .int .i64 p.f4, .int .i64 p.f5, .bool p.f6], .pointer (some ⟨bw, 0, none⟩), .pointer (some ⟨bx, 0, none⟩), .pointer (some ⟨bi, 0, none⟩)] w
      fun e w' => e = .returned (.tuple #[.int .i64 (reckonHeld l3 l4 x p).1, .int .i64 (reckonHeld l3 l4 x p).2]) ∧ Below w.heap.size w w' := by
  have hu1 := Try.underlying23
  have hu2 := Try.underlying63
  have HB0 := below_alloc (Below.refl w.heap.size w) (Obj.cells #[.string p.f0, .int .i64 p.f1, .int .i64 p.f2, .int .i64 p.f3, .int .i64 p.f4, .int .i64 p.f5, .bool p.f6] 23)
  have cw := (blk_cell hw 0)
  obtain ⟨⟨x0, x1, x2, x3, x4, x5⟩, _⟩ := box6 hx
  simp only [List.getElem?_toArray, List.getElem?_cons_zero] at cw
  have zw := blk_lt hw
  have zx := blk_lt hx
  have Hi := Aside0.mk hi
  have Hx := Aside0.mk hx
  have H1 := Aside0.mk h1
  have H2 := Aside0.mk h2
  have HC3 := Aside0.mk hC3
  have HC4 := Aside0.mk hC4
  clear hw hi hx h1 h2 hC3 hC4
  go_enter Try.func35, Try.ntmps35
  go_wp2_with fail
  refine (vary_looked_1_tells g1 A3 c3 l3 x.f0 _ (blk_up HB0 H1.out) (Kd.C_below HC3.out HB0) hc3 hm3).mono ?_
  rintro e w1 ⟨rfl, hb1⟩
  have HB1 := below_up HB0 hb1
  have HP := Aside0.mk (blk_up hb1 (heap_alloc_new _ _))
  clear hb1 HB0 x0 x1 x2 x3 x4 x5 cw
  by_cases hE : (lookMark l3 x.f0).2 = 0
  · have hb2 := blk_up HB1 Hi.out
    have cw := (blk_cell hb2 0)
    obtain ⟨⟨x0, x1, x2, x3, x4, x5⟩, _⟩ := box6 (blk_up HB1 Hx.out)
    simp only [List.getElem?_toArray, List.getElem?_cons_zero] at cw
    have hE' : ((lookMark l3 x.f0).2 != 0) = false := by simp [hE]
    have HE := Aside0.mk hE
    clear hb2 hE
    go_wp2_with fail
    refine (vary_looked_1_tells g2 A4 c4 l4 x.f0 _ (blk_up HB1 H2.out) (Kd.C_below HC4.out HB1) hc4 hm4).mono ?_
    rintro e w2 ⟨rfl, hb1⟩
    have HB2 := below_up HB1 hb1
    have HP2 := Aside0.mk (blk_up hb1 HP.out)
    clear hb1 HB1 x0 x1 x2 x3 x4 x5 cw hE'
    by_cases hF : (lookMark l4 x.f0).2 = 0
    · have HF := Aside0.mk (show reckonHeld l3 l4 x p = carried p (wrap64 (x.f1 - x.f2)) (lookMark l3 x.f0).1 (lookMark l4 x.f0).1 by unfold reckonHeld; rw [if_neg (by simp [HE.out]), if_neg (by simp [hF])])
      have hF' : ((lookMark l4 x.f0).2 != 0) = false := by simp [hF]
      clear hF
      go_wp2
      obtain ⟨⟨x0, x1, x2, x3, x4, x5⟩, _⟩ := box6 (blk_up HB2 Hx.out)
      obtain ⟨⟨p0, p1, p2, p3, p4, p5, p6⟩, _⟩ := box7 HP2.out
      have U0 := Up.cell x0
      have U1 := Up.cell x1
      have U2 := Up.cell x2
      have U3 := Up.cell x3
      have U4 := Up.cell x4
      have U5 := Up.cell x5
      have V0 := Up.cell p0
      have V1 := Up.cell p1
      have V2 := Up.cell p2
      have V3 := Up.cell p3
      have V4 := Up.cell p4
      have V5 := Up.cell p5
      have V6 := Up.cell p6
      refine wp_region_up (by kernel_rfl) (by kernel_rfl) ?_
      repeat (go_big_quiet_step ((first | (go_at_call 36; exact Calls.up_of (position_Net_tells x _)) | (go_at_call 8; exact Calls.up_of (vary_Carried_tells p _ _ _ _)))))
      refine wpQuiet_nil ?_
      rintro W ⟨u, rfl⟩
      have HB3 := below_up HB2 u.below
      clear U0 U1 U2 U3 U4 U5 V0 V1 V2 V3 V4 V5 V6 x0 x1 x2 x3 x4 x5 p0 p1 p2 p3 p4 p5 p6 hF'
      go_wp2
      go_ret2
      exact ⟨by rw [HF.out]; rfl, HB3⟩
    · have HF := Aside0.mk (show reckonHeld l3 l4 x p = (0, (lookMark l4 x.f0).2) by unfold reckonHeld; rw [if_neg (by simp [HE.out]), if_pos hF])
      have hF' : ((lookMark l4 x.f0).2 != 0) = true := by simp [hF]
      clear hF
      go_wp2
      go_ret2
      exact ⟨by rw [HF.out]; rfl, HB2⟩
  · have HF := Aside0.mk (show reckonHeld l3 l4 x p = (0, (lookMark l3 x.f0).2) by unfold reckonHeld; rw [if_pos hE])
    have hE' : ((lookMark l3 x.f0).2 != 0) = true := by simp [hE]
    clear hE
    go_wp2
    go_ret2
    exact ⟨by rw [HF.out]; rfl, HB1⟩

set_option maxHeartbeats 2000000 in
set_option maxRecDepth 100000 in
theorem vary_Account_7_tells (p : S23) (x : S29) (bi bx g2 : Nat) (A4 : Option Addr) (c4 : Nat) (l4 : List S71) (w : World)
    (hi : w.heap[bi]? = some (.cells #[.func (.func 60) #[] #[.pointer (some ⟨g2, 0, none⟩)]] 77 (0, 0)))
    (hx : w.heap[bx]? = some (.cells #[.string x.f0.f0, .string x.f0.f1, .string x.f1.f0, .int .i64 x.f1.f1, .int .i64 x.f1.f2, .int .i64 x.f1.f3, .int .i64 x.f2, .int .i64 x.f3, .int .i64 x.f4] 29 (0, 0)))
    (h2 : w.heap[g2]? = some (.cells #[.slice A4 l4.length c4] 43 (0, 0)))
    (hC4 : k71.C w A4 l4.length l4) (hc4 : l4.length ≤ c4) (hm4 : l4.length ≤ 9223372036854775807) :
    Calls Try.prog 37 #[.agg #[.string p.f0, .int .i64 p.f1, .int .i64 p.f2, .int .i64 p.f3, .int .i64 p.f4, .int .i64 p.f5, .bool p.f6], .pointer (some ⟨bi, 0, none⟩), .pointer (some ⟨bx, 0, none⟩)] w
      fun e w' => e = .returned (.tuple #[.int .i64 (reckonLeg l4 x p).1, .int .i64 (reckonLeg l4 x p).2]) ∧ Below w.heap.size w w' := by
  have hu1 := Try.underlying23
  have hu2 := Try.underlying29
  have HB0 := below_alloc (Below.refl w.heap.size w) (Obj.cells #[.string p.f0, .int .i64 p.f1, .int .i64 p.f2, .int .i64 p.f3, .int .i64 p.f4, .int .i64 p.f5, .bool p.f6] 23)
  have cw := (blk_cell hi 0)
  obtain ⟨⟨x0, x1, x2, x3, x4, x5, x6, x7, x8⟩, _⟩ := box9 hx
  simp only [List.getElem?_toArray, List.getElem?_cons_zero] at cw
  have zw := blk_lt hi
  have zx := blk_lt hx
  have Hx := Aside0.mk hx
  have H2 := Aside0.mk h2
  have HC4 := Aside0.mk hC4
  clear hi hx h2 hC4
  go_enter Try.func37, Try.ntmps37
  go_wp2_with fail
  refine (vary_looked_1_tells g2 A4 c4 l4 x.f1 _ (blk_up HB0 H2.out) (Kd.C_below HC4.out HB0) hc4 hm4).mono ?_
  rintro e w1 ⟨rfl, hb1⟩
  have HB1 := below_up HB0 hb1
  have HP := blk_up hb1 (heap_alloc_new _ _)
  obtain ⟨⟨p0, p1, p2, p3, p4, p5, p6⟩, _⟩ := box7 HP
  have zp := blk_lt HP
  clear hb1 HB0 x0 x1 x2 x3 x4 x5 x6 x7 x8 cw HP
  obtain ⟨⟨x0, x1, x2, x3, x4, x5, x6, x7, x8⟩, _⟩ := box9 (blk_up HB1 Hx.out)
  by_cases hE : (lookMark l4 x.f1).2 = 0
  · have HF := Aside0.mk (show reckonLeg l4 x p = carried p x.f2 x.f3 (lookMark l4 x.f1).1 by unfold reckonLeg; rw [if_neg (by simp [hE])])
    have hE' : ((lookMark l4 x.f1).2 != 0) = false := by simp [hE]
    clear hE
    go_wp2_with fail
    refine (vary_Fresh_tells p x _ _).mono ?_
    rintro e w2 ⟨rfl, hb2⟩
    have HB2 := below_up HB1 hb2
    clear hb2 x0 x1 x2 x3 x4 x5 x6 x7 x8 p0 p1 p2 p3 p4 p5 p6 hE'
    go_wp2
    go_ret2
    exact ⟨by rw [HF.out]; rfl, HB2⟩
  · have HF := Aside0.mk (show reckonLeg l4 x p = (0, (lookMark l4 x.f1).2) by unfold reckonLeg; rw [if_pos hE])
    have hE' : ((lookMark l4 x.f1).2 != 0) = true := by simp [hE]
    clear hE
    go_wp2
    go_ret2
    exact ⟨by rw [HF.out]; rfl, HB1⟩
end Go.Proofs.Yteipjpkdlhojeaa.Q

/- A map from numbers to lists of numbers that a call makes: what it holds, said by a function. -/
namespace Go.Proofs.Yteipjpkdlhojeaa.Q
open Go.RowKit Go.Proofs.YteipjpkdlhojeaaW.PrintWords Go.Proofs.YteipjpkdlhojeaaW.PrintLast Go.Proofs.YteipjpkdlhojeaaW.PrintMore
set_option linter.unusedVariables false
set_option linter.unusedSimpArgs false
open Go.Maps Go.WideElems Go.MapKept Go.ChangeShapes

theorem findNow_int {k q : IntKind} (c : Int) : ∀ (es : List MapEntry) (i : Nat), (∀ x ∈ es, ∃ a, x.key = .int q a) → ∃ r, Instr.findNow (.int k) (.int q c) es i = some r
  | [], i, _ => ⟨none, rfl⟩
  | e :: es, i, h => by
    obtain ⟨a, ha⟩ := h e (List.mem_cons_self ..)
    obtain ⟨r, hr⟩ := findNow_int c es (i + 1) (fun x hx => h x (List.mem_cons_of_mem _ hx))
    unfold Instr.findNow
    rw [ha]
    simp only [Instr.sameNow, if_true]
    cases hca : (c == a)
    · exact ⟨r, hr⟩
    · exact ⟨_, rfl⟩
theorem lookup_stays {P : Program} {t K E : TypeId} {q : IntKind} {z : Value} (ht : P.underlying t = some (.map K E)) (hK : P.underlying K = some (.int q)) {w W : World} {b : Nat} {es : Array MapEntry} {clock : Nat}
    (hb : w.heap[b]? = some (.map es clock)) (hb' : W.heap[b]? = some (.map es clock)) (hz : ∀ W, (zeroValue E).run P W = .ok z W) (hk : ∀ x ∈ es.toList, ∃ a, x.key = .int q a) {c : Int} {v : Value} {kl : Lit} (hkey : keyOf P K (.int q c) = some kl)
    (h : (Instr.lookup t (.map (some b)) (.int q c) false).run P w = .ok v w) : (Instr.lookup t (.map (some b)) (.int q c) false).run P W = .ok v W := by
  obtain ⟨r, hr⟩ := findNow_int (k := q) c es.toList 0 hk
  have e1 : ∀ (w : World), w.heap[b]? = some (.map es clock) → (Instr.lookup t (.map (some b)) (.int q c) false).run P w = .ok (match r with | some (_, v) => v | none => z) w := by
    intro w hb
    have hck := fun em => (int_keyed hK).check w em hkey
    cases r <;> simp [Instr.lookup, run_underlying ht, MapKept.run_getObj_map hb, hck, run_underlying hK, Instr.findKey, hr, hz, Result.andThen]
  rw [e1 w hb] at h
  rw [e1 W hb']
  cases h
  rfl

/-- Only block B, and what lies from s on, has turned. -/
structure Turn (s B : Nat) (w w' : World) : Prop where
  os : w'.os = w.os
  tape : w'.tape = w.tape
  output : w'.output = w.output
  size : w.heap.size ≤ w'.heap.size
  block : ∀ i, i < s → i ≠ B → w'.heap[i]? = w.heap[i]?
theorem Turn.refl (s B : Nat) (w : World) : Turn s B w w := ⟨rfl, rfl, rfl, Nat.le_refl _, fun _ _ _ => rfl⟩
theorem Turn.trans {s B : Nat} {w w1 w2 : World} (h : Turn s B w w1) (k : Turn s B w1 w2) : Turn s B w w2 :=
  ⟨k.os.trans h.os, k.tape.trans h.tape, k.output.trans h.output, Nat.le_trans h.size k.size, fun i h1 h2 => (k.block i h1 h2).trans (h.block i h1 h2)⟩
theorem Turn.of_below {s B : Nat} {w w' : World} (h : Below w.heap.size w w') (hs : s ≤ w.heap.size) : Turn s B w w' := ⟨h.os, h.tape, h.output, h.size, fun i h1 _ => h.block i (Nat.lt_of_lt_of_le h1 hs)⟩
theorem Turn.of_grown {s B : Nat} {w w' : World} {row : Option Nat} (h : w.grownBy w' row) (hs : s ≤ w.heap.size) (hr : ∀ k, row = some k → k = B ∨ s ≤ k) : Turn s B w w' :=
  ⟨h.os, h.tape, h.output, h.size, fun i h1 h2 => h.block i (Nat.lt_of_lt_of_le h1 hs) (fun e => by rcases hr i e.symm with h3 | h3 <;> omega)⟩
theorem Turn.blk {s B : Nat} {w w' : World} (h : Turn s B w w') {g : Nat} {o : Obj} (hg : w.heap[g]? = some o) (h1 : g < s) (h2 : g ≠ B) : w'.heap[g]? = some o := (h.block g h1 h2).trans hg
theorem Turn.below {s B b : Nat} {w w' : World} (h : Turn s B w w') (hb : b ≤ B) (hs : B < s) : Below b w w' := ⟨h.os, h.tape, h.output, h.size, fun i hi => h.block i (by omega) (by omega)⟩

def itemsOf : DataW Unit → List (DataW Unit)
  | .slice es _ => es
  | _ => []
theorem items_row {q : IntKind} {v : Value} {zs : List Int} {w : World} {base : Nat} {e : TypeId} (h : w.ownsInts base e q v zs) : itemsOf (rowDatum q v zs) = lits q zs := by
  rcases h.datum (H := Unit) with ⟨h1, h2⟩ | h1
  · rw [h1, h2]; rfl
  · rw [h1]; rfl
theorem lits_inj {q : IntKind} {a b : List Int} (h : lits (H := Unit) q a = lits q b) : a = b := by
  induction a generalizing b with
  | nil => cases b with
    | nil => rfl
    | cons y ys => simp [lits] at h
  | cons x xs ih =>
    cases b with
    | nil => simp [lits] at h
    | cons y ys =>
      simp only [lits, List.map_cons, List.cons.injEq, DataW.lit.injEq, Lit.int.injEq, true_and] at h
      rw [h.1, ih (by simpa [lits] using h.2)]

/-- Block B is a map, of at most n keys, that tells to each number c the numbers G c; its rows lie from s on. -/
def SumsAt (w : World) (s B n : Nat) (G : Int → List Int) : Prop :=
  B < s ∧ s ≤ w.heap.size ∧ ∃ D : DataW Unit, IsMap D ∧ w.ownsGroups Try.prog 3 s 3 .i64 B n D ∧ ∀ c : Int, itemsOf (D.atKey (.int .i64 c) .nil) = lits .i64 (G c)
theorem zeroInts (w : World) : (zeroValue 50).run Try.prog w = .ok (.slice none 0 0) w := by kernel_rfl
theorem keyedInt : Keyed Try.prog 3 := int_keyed Try.underlying3
theorem SumsAt.made (w : World) (B s : Nat) (hB : w.heap[B]? = some (.map #[] 0)) (hs : B < s) (hw : s ≤ w.heap.size) : SumsAt w s B 0 (fun _ => []) :=
  ⟨hs, hw, .map [], isMap_empty, ⟨#[], 0, hB, ⟨by simp, MapKept.stamped_empty 0, by simp⟩, Nat.le_refl _, rfl, hs, by simp, by simp⟩, fun _ => rfl⟩
theorem SumsAt.below {w W : World} {s B n : Nat} {G : Int → List Int} (h : SumsAt w s B n G) (hb : Below w.heap.size w W) : SumsAt W s B n G := by
  obtain ⟨h1, h2, D, hD, ho, hG⟩ := h
  exact ⟨h1, Nat.le_trans h2 hb.size, D, hD, ho.kept (grown_of_below hb none) (by simp) (fun es clock _ x _ => by cases x.val.ownBlock <;> simp), hG⟩
def putG (G : Int → List Int) (c : Int) (l : List Int) : Int → List Int := fun d => if d = c then l else G d

theorem SumsAt.at {w : World} {s B n : Nat} {G : Int → List Int} (h : SumsAt w s B n G) (hn : n < maxLen) (c : Int) (hc : (Lit.int .i64 c).wf = true) :
    ∃ v, (∀ W : World, W.heap[B]? = w.heap[B]? → (Instr.lookup 79 (.map (some B)) (.int .i64 c) false).run Try.prog W = .ok v W) ∧ w.ownsInts s 3 .i64 v (G c) ∧ (G c).length ≤ n ∧
      ∀ (w1 : World) (v' : Value) (x : Int), w.grownBy w1 v.ownBlock → w1.ownsInts s 3 .i64 v' (G c ++ [x]) → (v'.ownBlock = v.ownBlock ∨ ∃ g, v'.ownBlock = some g ∧ w.heap.size ≤ g) →
        ∃ w2, (Instr.mapUpdate 79 (.map (some B)) (.int .i64 c) v').run Try.prog w1 = .ok () w2 ∧ SumsAt w2 s B (n + 1) (putG G c (G c ++ [x])) ∧ w1.grownBy w2 (some B) := by
  obtain ⟨h1, h2, D, hD, ho, hG⟩ := h
  have hkey : keyOf Try.prog 3 (.int .i64 c) = some (.int .i64 c) := keyOf_int_mk Try.underlying3 hc
  obtain ⟨v, zs, hrun, hat, hoi, hzl, hback⟩ := ho.at keyedInt Try.underlying79 (zeroInts w) hn hkey
  have e0 : zs = G c := by
    have := hG c
    rw [hat, items_row hoi] at this
    exact lits_inj this
  subst e0
  refine ⟨v, fun W hW => ?_, hoi, hzl, fun w1 v' x hg hown hloc => ?_⟩
  · obtain ⟨es, clock, hb, F, _⟩ := ho
    refine lookup_stays Try.underlying79 Try.underlying3 hb (hW.trans hb) zeroInts (fun y hy => ?_) hkey hrun
    obtain ⟨z, hz⟩ := F.reads y hy
    obtain ⟨a, ha, _⟩ := Maps.keyOf_int_inv Try.underlying3 (rd_key hz)
    exact ⟨a, ha⟩
  · obtain ⟨w2, hr2, ho2, hg2⟩ := hback w1 v' _ hg hown (by simp; omega) hloc
    refine ⟨w2, hr2, ⟨h1, Nat.le_trans h2 (Nat.le_trans hg.size hg2.size), _, hD.put _ _, ho2, fun d => ?_⟩, hg2⟩
    unfold putG
    by_cases hd : d = c
    · subst hd
      rw [if_pos rfl, atKey_put_same hD (show WideAt.IsKeyLit (.int .i64 d) from trivial), items_row hown]
    · rw [if_neg hd, atKey_put_other (by intro e; cases e; exact hd rfl)]
      exact hG d
end Go.Proofs.Yteipjpkdlhojeaa.Q

/- The function literal of vary.Account that looks a product up, reckons and keeps the sum. -/
namespace Go.Proofs.Yteipjpkdlhojeaa.Q
open Go.RowKit Go.Proofs.YteipjpkdlhojeaaW.PrintWords Go.Proofs.YteipjpkdlhojeaaW.PrintLast Go.Proofs.YteipjpkdlhojeaaW.PrintMore
set_option linter.unusedVariables false
set_option linter.unusedSimpArgs false
theorem info_int : (Try.prog.info? 3).map (fun i => (i.zero, i.size, i.bytes)) = some (some (.int .i64 0), 1, 8) := by kernel_rfl
theorem SumsAt.more {w : World} {s B n : Nat} {G : Int → List Int} (h : SumsAt w s B n G) : SumsAt w s B (n + 1) G := by
  obtain ⟨h1, h2, D, hD, ⟨es, clock, hb, F, hs, hDe, hbb, hlen, hap⟩, hG⟩ := h
  exact ⟨h1, h2, D, hD, ⟨es, clock, hb, F, by omega, hDe, hbb, fun x hx zs hz => Nat.le_succ_of_le (hlen x hx zs hz), hap⟩, hG⟩
theorem alloc_blk {w : World} {o : Obj} {i : Nat} (h : i < w.heap.size) : (w.alloc o).heap[i]? = w.heap[i]? := (below_alloc (Below.refl w.heap.size w) o).block i h
theorem grown_new {w w' : World} {o : Obj} {row : Option Nat} (h : ((w.alloc o).drew).grownBy w' row) : w.grownBy w' row :=
  ⟨h.os, h.tape, h.output, Nat.le_trans (Nat.le_succ _) (by have := h.size; simpa using this), fun i h1 h2 => (h.block i (by simp; omega) h2).trans (alloc_blk h1)⟩
/-- What 'get' answers, and what it keeps: a currency and a number. -/
def gain (l : List S23) (s : S27) (rk : S23 → Int × Int) : Int × Option (Int × Int) :=
  if s.f1 ≠ 1 then (0, none)
  else if (findProduct l s.f0).2 = false then (19, none)
  else if (rk (findProduct l s.f0).1).2 = 0 then (0, some ((findProduct l s.f0).1.f1, (rk (findProduct l s.f0).1).1))
  else ((rk (findProduct l s.f0).1).2, none)
def keepG (G : Int → List Int) : Option (Int × Int) → Int → List Int
  | none => G
  | some (c, k) => putG G c (G c ++ [k])

set_option maxHeartbeats 2000000 in
set_option maxRecDepth 100000 in
theorem vary_Account_5_tells (s : S27) (c1 c2 c3 : Value) (rk : S23 → Int × Int) (bp bm B s0 n : Nat) (G : Int → List Int) (A : Option Addr) (c : Nat) (l : List S23) (w : World)
    (hp : w.heap[bp]? = some (.cells #[.slice A l.length c] 40 (0, 0))) (hm : w.heap[bm]? = some (.cells #[.map (some B)] 79 (0, 0)))
    (hC : k23.C w A l.length l) (hc : l.length ≤ c) (hml : l.length ≤ 9223372036854775807) (hS : SumsAt w s0 B n G) (hn : n ≤ 1000000)
    (hrk : ∀ (p : S23) (W : World), Below w.heap.size w W → Calls Try.prog 35 #[.agg #[.string p.f0, .int .i64 p.f1, .int .i64 p.f2, .int .i64 p.f3, .int .i64 p.f4, .int .i64 p.f5, .bool p.f6], c1, c2, c3] W
      fun e w' => e = .returned (.tuple #[.int .i64 (rk p).1, .int .i64 (rk p).2]) ∧ Below W.heap.size W w')
    (hcur : ∀ p, (rk p).2 = 0 → (0 ≤ p.f1 ∧ p.f1 < 8) ∧ -1152921504606846976 ≤ (rk p).1 ∧ (rk p).1 ≤ 1152921504606846976) :
    Calls Try.prog 33 #[.agg #[.string s.f0, .int .i64 s.f1, .int .i64 s.f2, .int .i64 s.f3], .func (.func 35) #[] #[c1, c2, c3], .pointer (some ⟨bp, 0, none⟩), .pointer (some ⟨bm, 0, none⟩)] w
      fun e w' => e = .returned (.int .i64 (gain l s rk).1) ∧ SumsAt w' s0 B (n + 1) (keepG G (gain l s rk).2) ∧ Turn s0 B w w' := by
  have hu1 := Try.underlying23
  have hu2 := Try.underlying27
  obtain ⟨i0, hi, hz0, hz1, hz2⟩ := info_parts info_int
  have HB0 := below_alloc (Below.refl w.heap.size w) (Obj.cells #[.string s.f0, .int .i64 s.f1, .int .i64 s.f2, .int .i64 s.f3] 27)
  have cp := blk_cell hp 0
  simp only [List.getElem?_toArray, List.getElem?_cons_zero] at cp
  have zp := blk_lt hp
  have Hm := Aside0.mk hm
  have HC := Aside0.mk hC
  have HS := Aside0.mk hS
  have Hrk := Aside0.mk hrk
  have Hcur := Aside0.mk hcur
  have hs0 : s0 ≤ w.heap.size := hS.2.1
  clear hp hm hC hS hrk hcur
  by_cases hK : s.f1 = 1
  · have hK' : (s.f1 != 1) = false := by simp [hK]
    have HK := Aside0.mk hK
    clear hK
    go_enter Try.func33, Try.ntmps33
    go_wp2_with fail
    refine (product_Find.calls s.f0 A c l _ (Kd.C_below HC.out HB0) hc hml).mono ?_
    rintro e w1 ⟨rfl, hb1⟩
    have HB1 := below_up HB0 hb1
    clear hb1 HB0 cp
    cases hF : (findProduct l s.f0).2
    · have HF := Aside0.mk (show gain l s rk = (19, none) by unfold gain; rw [if_neg (by simp [HK.out]), if_pos hF])
      go_wp2
      go_ret
      exact ⟨by rw [HF.out]; rfl, by rw [HF.out]; exact (HS.out.below (below_alloc HB1 _)).more, Turn.of_below (below_alloc HB1 _) hs0⟩
    · have HFF := Aside0.mk hF
      generalize hpp : (findProduct l s.f0).1 = p
      have HPP := Aside0.mk hpp
      clear hpp
      go_wp2_with fail
      have HB2 := below_alloc HB1 (Obj.cells #[.string p.f0, .int .i64 p.f1, .int .i64 p.f2, .int .i64 p.f3, .int .i64 p.f4, .int .i64 p.f5, .bool p.f6] 23)
      refine (Hrk.out p _ HB2).mono ?_
      rintro e w3 ⟨rfl, hb3⟩
      have HB3 := below_up HB2 hb3
      have HP := Aside0.mk (blk_up hb3 (heap_alloc_new _ _))
      clear hb3 HB2
      by_cases hE : (rk p).2 = 0
      · have HF := Aside0.mk (show gain l s rk = (0, some (p.f1, (rk p).1)) by unfold gain; rw [if_neg (by simp [HK.out]), if_neg (by rw [HFF.out]; decide), HPP.out, if_pos hE])
        obtain ⟨hcr, hk1, hk2⟩ := Hcur.out p hE
        rw [hE]
        clear hE
        have hS3 := HS.out.below HB3
        obtain ⟨v, hlook, hoi, hlen, hback⟩ := hS3.at (by unfold maxLen; omega) p.f1 (WalkArith.wf_i64 (by omega))
        have hs3 := hS3.2.1
        have hBlt : B < w3.heap.size := Nat.lt_of_lt_of_le hS3.1 hS3.2.1
        have hvB : v.ownBlock ≠ some B := fun e => by
          have := (hoi.1.lt B e).1
          have := hS3.1
          omega
        have hm3 := blk_up HB3 Hm.out
        have cm := blk_cell hm3 0
        have cq := (box7 HP.out).1.2.1
        simp only [List.getElem?_toArray, List.getElem?_cons_zero] at cm
        have zm := blk_lt hm3
        have zq := blk_lt HP.out
        have hvm : v.ownBlock ≠ some bm := fun e => by
          obtain ⟨cells, hcl⟩ := own_typed hoi.1 bm e
          rw [hm3] at hcl
          simp at hcl
        have hvq : v.ownBlock ≠ some w1.heap.size := fun e => by
          obtain ⟨cells, hcl⟩ := own_typed hoi.1 w1.heap.size e
          rw [HP.out] at hcl
          simp at hcl
        have hmB : bm ≠ B := fun e => by
          obtain ⟨_, _, D, _, ⟨es, clock, hb, _⟩, _⟩ := hS3
          rw [← e, hm3] at hb
          simp at hb
        have hqB : w1.heap.size ≠ B := fun e => by
          obtain ⟨_, _, D, _, ⟨es, clock, hb, _⟩, _⟩ := hS3
          rw [← e, HP.out] at hb
          simp at hb
        have HBK := Aside0.mk hback
        have HLK := Aside0.mk hlook
        have HOI := Aside0.mk hoi
        clear hm3 hback hlook hoi
        go_wp2
        have hl1 := HLK.out w3.drew rfl
        have hl2 := fun o => HLK.out (w3.alloc o).drew (alloc_blk hBlt)
        go_region_held3 (fun w' => w'.cell? ⟨bm, 0, none⟩ = some (.map (some B)) ∧ w'.cell? ⟨w1.heap.size, 1, none⟩ = some (.int .i64 p.f1))
          (first
            | (go_split_ands; refine ⟨by go_keep, by go_keep⟩)
            | (go_split_ands
               refine ⟨(hg5.cell_far _ zm4 (fun e => hmB (Option.some.inj e))).trans (by assumption), (hg5.cell_far _ zq4 (fun e => hqB (Option.some.inj e))).trans (by assumption)⟩)
            | (go_split_ands
               refine ⟨(hgrow.cell_far _ (by simp; omega) (Ne.symm hvm)).trans (by assumption), (hgrow.cell_far _ (by simp; omega) (Ne.symm hvq)).trans (by assumption)⟩))
          ((refine step_append_lies _ (by rfl) _ _ _ (by rfl) s0 3 i0 _ 1 8 Try.underlying50 hi hz0 hz1 hz2 rfl (by omega) v (G p.f1).length ((G p.f1).map (Value.int .i64)) (by rfl) ((HOI.out.1.alloc _).drew)
              ⟨w3.heap.size, 0, none⟩ 1 1 [.int .i64 (rk p).1] (by rfl) (by rfl) (World.news_of_block (cs := #[.int .i64 (rk p).1]) (t := 3) (fr := (0, 0)) (heap_alloc_new w3 _)) (by simp [Value.oneCell'])
              (by omega) (by unfold maxLen; omega) (by omega) (by simp; omega) (w3.heap.size + 1) (by simp) ?_; intro gg cap w4 hown1 hgrow hat hlt; obtain ⟨w5, hmu, hS5, hg5⟩ := HBK.out w4 _ (rk p).1 (grown_new hgrow) (HOI.out.appended hown1 (WalkArith.wf_i64 (by omega))) (hat.elim (fun h => .inl h.symm) (fun h => .inr ⟨gg, rfl, by omega⟩)); have HS5 := Aside0.mk hS5; have HG4 := Aside0.mk (grown_new hgrow); have zm4 : bm < w4.heap.size := Nat.lt_of_lt_of_le zm (grown_new hgrow).size; have zq4 : w1.heap.size < w4.heap.size := Nat.lt_of_lt_of_le zq (grown_new hgrow).size; clear hS5))
        all_goals
          go_wp2
          go_ret
          refine ⟨by rw [HF.out]; rfl, by rw [HF.out]; exact HS5.out, ?_⟩
          refine ((Turn.of_below HB3 hs0).trans (Turn.of_grown HG4.out hs3 ?_)).trans (Turn.of_grown hg5 (Nat.le_trans hs3 HG4.out.size) ?_)
          · intro k hk; exact .inr (HOI.out.1.lt k hk).1
          · intro k hk; cases hk; exact .inl rfl
      · have HF := Aside0.mk (show gain l s rk = ((rk p).2, none) by unfold gain; rw [if_neg (by simp [HK.out]), if_neg (by rw [HFF.out]; decide), HPP.out, if_neg hE])
        have hE' : ((rk p).2 == 0) = false := by simp [hE]
        clear hE
        go_wp2
        go_ret
        exact ⟨by rw [HF.out]; rfl, by rw [HF.out]; exact (HS.out.below HB3).more, Turn.of_below HB3 hs0⟩
  · have HF := Aside0.mk (show gain l s rk = (0, none) by unfold gain; rw [if_pos hK])
    have hK' : (s.f1 != 1) = true := by simp [hK]
    go_enter Try.func33, Try.ntmps33
    go_wp2
    go_ret
    exact ⟨by rw [HF.out]; rfl, by rw [HF.out]; exact (HS.out.below HB0).more, Turn.of_below HB0 hs0⟩

set_option maxHeartbeats 2000000 in
set_option maxRecDepth 100000 in
theorem vary_Account_5_tells_leg (s : S27) (c1 c2 : Value) (rk : S23 → Int × Int) (bp bm B s0 n : Nat) (G : Int → List Int) (A : Option Addr) (c : Nat) (l : List S23) (w : World)
    (hp : w.heap[bp]? = some (.cells #[.slice A l.length c] 40 (0, 0))) (hm : w.heap[bm]? = some (.cells #[.map (some B)] 79 (0, 0)))
    (hC : k23.C w A l.length l) (hc : l.length ≤ c) (hml : l.length ≤ 9223372036854775807) (hS : SumsAt w s0 B n G) (hn : n ≤ 1000000)
    (hrk : ∀ (p : S23) (W : World), Below w.heap.size w W → Calls Try.prog 37 #[.agg #[.string p.f0, .int .i64 p.f1, .int .i64 p.f2, .int .i64 p.f3, .int .i64 p.f4, .int .i64 p.f5, .bool p.f6], c1, c2] W
      fun e w' => e = .returned (.tuple #[.int .i64 (rk p).1, .int .i64 (rk p).2]) ∧ Below W.heap.size W w')
    (hcur : ∀ p, (rk p).2 = 0 → (0 ≤ p.f1 ∧ p.f1 < 8) ∧ -1152921504606846976 ≤ (rk p).1 ∧ (rk p).1 ≤ 1152921504606846976) :
    Calls Try.prog 33 #[.agg #[.string s.f0, .int .i64 s.f1, .int .i64 s.f2, .int .i64 s.f3], .func (.func 37) #[] #[c1, c2], .pointer (some ⟨bp, 0, none⟩), .pointer (some ⟨bm, 0, none⟩)] w
      fun e w' => e = .returned (.int .i64 (gain l s rk).1) ∧ SumsAt w' s0 B (n + 1) (keepG G (gain l s rk).2) ∧ Turn s0 B w w' := by
  have hu1 := Try.underlying23
  have hu2 := Try.underlying27
  obtain ⟨i0, hi, hz0, hz1, hz2⟩ := info_parts info_int
  have HB0 := below_alloc (Below.refl w.heap.size w) (Obj.cells #[.string s.f0, .int .i64 s.f1, .int .i64 s.f2, .int .i64 s.f3] 27)
  have cp := blk_cell hp 0
  simp only [List.getElem?_toArray, List.getElem?_cons_zero] at cp
  have zp := blk_lt hp
  have Hm := Aside0.mk hm
  have HC := Aside0.mk hC
  have HS := Aside0.mk hS
  have Hrk := Aside0.mk hrk
  have Hcur := Aside0.mk hcur
  have hs0 : s0 ≤ w.heap.size := hS.2.1
  clear hp hm hC hS hrk hcur
  by_cases hK : s.f1 = 1
  · have hK' : (s.f1 != 1) = false := by simp [hK]
    have HK := Aside0.mk hK
    clear hK
    go_enter Try.func33, Try.ntmps33
    go_wp2_with fail
    refine (product_Find.calls s.f0 A c l _ (Kd.C_below HC.out HB0) hc hml).mono ?_
    rintro e w1 ⟨rfl, hb1⟩
    have HB1 := below_up HB0 hb1
    clear hb1 HB0 cp
    cases hF : (findProduct l s.f0).2
    · have HF := Aside0.mk (show gain l s rk = (19, none) by unfold gain; rw [if_neg (by simp [HK.out]), if_pos hF])
      go_wp2
      go_ret
      exact ⟨by rw [HF.out]; rfl, by rw [HF.out]; exact (HS.out.below (below_alloc HB1 _)).more, Turn.of_below (below_alloc HB1 _) hs0⟩
    · have HFF := Aside0.mk hF
      generalize hpp : (findProduct l s.f0).1 = p
      have HPP := Aside0.mk hpp
      clear hpp
      go_wp2_with fail
      have HB2 := below_alloc HB1 (Obj.cells #[.string p.f0, .int .i64 p.f1, .int .i64 p.f2, .int .i64 p.f3, .int .i64 p.f4, .int .i64 p.f5, .bool p.f6] 23)
      refine (Hrk.out p _ HB2).mono ?_
      rintro e w3 ⟨rfl, hb3⟩
      have HB3 := below_up HB2 hb3
      have HP := Aside0.mk (blk_up hb3 (heap_alloc_new _ _))
      clear hb3 HB2
      by_cases hE : (rk p).2 = 0
      · have HF := Aside0.mk (show gain l s rk = (0, some (p.f1, (rk p).1)) by unfold gain; rw [if_neg (by simp [HK.out]), if_neg (by rw [HFF.out]; decide), HPP.out, if_pos hE])
        obtain ⟨hcr, hk1, hk2⟩ := Hcur.out p hE
        rw [hE]
        clear hE
        have hS3 := HS.out.below HB3
        obtain ⟨v, hlook, hoi, hlen, hback⟩ := hS3.at (by unfold maxLen; omega) p.f1 (WalkArith.wf_i64 (by omega))
        have hs3 := hS3.2.1
        have hBlt : B < w3.heap.size := Nat.lt_of_lt_of_le hS3.1 hS3.2.1
        have hvB : v.ownBlock ≠ some B := fun e => by
          have := (hoi.1.lt B e).1
          have := hS3.1
          omega
        have hm3 := blk_up HB3 Hm.out
        have cm := blk_cell hm3 0
        have cq := (box7 HP.out).1.2.1
        simp only [List.getElem?_toArray, List.getElem?_cons_zero] at cm
        have zm := blk_lt hm3
        have zq := blk_lt HP.out
        have hvm : v.ownBlock ≠ some bm := fun e => by
          obtain ⟨cells, hcl⟩ := own_typed hoi.1 bm e
          rw [hm3] at hcl
          simp at hcl
        have hvq : v.ownBlock ≠ some w1.heap.size := fun e => by
          obtain ⟨cells, hcl⟩ := own_typed hoi.1 w1.heap.size e
          rw [HP.out] at hcl
          simp at hcl
        have hmB : bm ≠ B := fun e => by
          obtain ⟨_, _, D, _, ⟨es, clock, hb, _⟩, _⟩ := hS3
          rw [← e, hm3] at hb
          simp at hb
        have hqB : w1.heap.size ≠ B := fun e => by
          obtain ⟨_, _, D, _, ⟨es, clock, hb, _⟩, _⟩ := hS3
          rw [← e, HP.out] at hb
          simp at hb
        have HBK := Aside0.mk hback
        have HLK := Aside0.mk hlook
        have HOI := Aside0.mk hoi
        clear hm3 hback hlook hoi
        go_wp2
        have hl1 := HLK.out w3.drew rfl
        have hl2 := fun o => HLK.out (w3.alloc o).drew (alloc_blk hBlt)
        go_region_held3 (fun w' => w'.cell? ⟨bm, 0, none⟩ = some (.map (some B)) ∧ w'.cell? ⟨w1.heap.size, 1, none⟩ = some (.int .i64 p.f1))
          (first
            | (go_split_ands; refine ⟨by go_keep, by go_keep⟩)
            | (go_split_ands
               refine ⟨(hg5.cell_far _ zm4 (fun e => hmB (Option.some.inj e))).trans (by assumption), (hg5.cell_far _ zq4 (fun e => hqB (Option.some.inj e))).trans (by assumption)⟩)
            | (go_split_ands
               refine ⟨(hgrow.cell_far _ (by simp; omega) (Ne.symm hvm)).trans (by assumption), (hgrow.cell_far _ (by simp; omega) (Ne.symm hvq)).trans (by assumption)⟩))
          ((refine step_append_lies _ (by rfl) _ _ _ (by rfl) s0 3 i0 _ 1 8 Try.underlying50 hi hz0 hz1 hz2 rfl (by omega) v (G p.f1).length ((G p.f1).map (Value.int .i64)) (by rfl) ((HOI.out.1.alloc _).drew)
              ⟨w3.heap.size, 0, none⟩ 1 1 [.int .i64 (rk p).1] (by rfl) (by rfl) (World.news_of_block (cs := #[.int .i64 (rk p).1]) (t := 3) (fr := (0, 0)) (heap_alloc_new w3 _)) (by simp [Value.oneCell'])
              (by omega) (by unfold maxLen; omega) (by omega) (by simp; omega) (w3.heap.size + 1) (by simp) ?_; intro gg cap w4 hown1 hgrow hat hlt; obtain ⟨w5, hmu, hS5, hg5⟩ := HBK.out w4 _ (rk p).1 (grown_new hgrow) (HOI.out.appended hown1 (WalkArith.wf_i64 (by omega))) (hat.elim (fun h => .inl h.symm) (fun h => .inr ⟨gg, rfl, by omega⟩)); have HS5 := Aside0.mk hS5; have HG4 := Aside0.mk (grown_new hgrow); have zm4 : bm < w4.heap.size := Nat.lt_of_lt_of_le zm (grown_new hgrow).size; have zq4 : w1.heap.size < w4.heap.size := Nat.lt_of_lt_of_le zq (grown_new hgrow).size; clear hS5))
        all_goals
          go_wp2
          go_ret
          refine ⟨by rw [HF.out]; rfl, by rw [HF.out]; exact HS5.out, ?_⟩
          refine ((Turn.of_below HB3 hs0).trans (Turn.of_grown HG4.out hs3 ?_)).trans (Turn.of_grown hg5 (Nat.le_trans hs3 HG4.out.size) ?_)
          · intro k hk; exact .inr (HOI.out.1.lt k hk).1
          · intro k hk; cases hk; exact .inl rfl
      · have HF := Aside0.mk (show gain l s rk = ((rk p).2, none) by unfold gain; rw [if_neg (by simp [HK.out]), if_neg (by rw [HFF.out]; decide), HPP.out, if_neg hE])
        have hE' : ((rk p).2 == 0) = false := by simp [hE]
        clear hE
        go_wp2
        go_ret
        exact ⟨by rw [HF.out]; rfl, by rw [HF.out]; exact (HS.out.below HB3).more, Turn.of_below HB3 hs0⟩
  · have HF := Aside0.mk (show gain l s rk = (0, none) by unfold gain; rw [if_pos hK])
    have hK' : (s.f1 != 1) = true := by simp [hK]
    go_enter Try.func33, Try.ntmps33
    go_wp2
    go_ret
    exact ⟨by rw [HF.out]; rfl, by rw [HF.out]; exact (HS.out.below HB0).more, Turn.of_below HB0 hs0⟩
end Go.Proofs.Yteipjpkdlhojeaa.Q

-- Written by the kit's print.py, called by a driver of this session (wip/tools/drv.py).
namespace Go.Proofs.Yteipjpkdlhojeaa.Q
open Go.RowKit Go.Proofs.YteipjpkdlhojeaaW.PrintWords Go.Proofs.YteipjpkdlhojeaaW.PrintLast Go.Proofs.YteipjpkdlhojeaaW.PrintMore
attribute [local go_sem] max2_int min2_int max_two min_two max_three min_three max_four min_four   -- for this text's walks alone
set_option linter.unusedVariables false
set_option linter.unusedSimpArgs false

/-! ### cents_Fits: function 64 -/
def cents_Fits.f (a0 : Int) : Option (Bool) := if a0 ≥ (-1152921504606846976) then (some (decide (a0 ≤ 1152921504606846976))) else (some false)
set_option maxHeartbeats 8000000 in
set_option maxRecDepth 100000 in
theorem cents_Fits.calls (a0 : Int) (r : Bool) (w : World) (h : cents_Fits.f a0 = some r) :
    Calls Try.prog 64 #[.int .i64 a0] w fun e w' => e = .returned (.bool r) ∧ Drawn0 w w' := by
  have H : (if a0 ≥ (-1152921504606846976) then (some (decide (a0 ≤ 1152921504606846976))) else (some false)) = some r := h
  clear h
  by_cases c2 : a0 ≥ (-1152921504606846976)
  · rw [if_pos c2] at H
    have c2b0 : decide ((-1152921504606846976) ≤ a0) = true := decide_eq_true c2
    clear c2
    obtain rfl := Option.some.inj H
    go_enter Try.func64, Try.ntmps64
    go_wp2
    go_ret
    exact ⟨by first | rfl | (simp; done) | (simp [*]; done), by repeat (first | exact Drawn0.refl _ | apply Drawn0.step)⟩
  · rw [if_neg c2] at H
    have c2b0 : decide ((-1152921504606846976) ≤ a0) = false := decide_eq_false c2
    clear c2
    obtain rfl := Option.some.inj H
    go_enter Try.func64, Try.ntmps64
    go_wp2
    go_ret
    exact ⟨by first | rfl | (simp; done) | (simp [*]; done), by repeat (first | exact Drawn0.refl _ | apply Drawn0.step)⟩

end Go.Proofs.Yteipjpkdlhojeaa.Q

-- Written by the kit's print.py, called by a driver of this session (wip/tools/drv.py).
namespace Go.Proofs.Yteipjpkdlhojeaa.Q
open Go.RowKit Go.Proofs.YteipjpkdlhojeaaW.PrintWords Go.Proofs.YteipjpkdlhojeaaW.PrintLast Go.Proofs.YteipjpkdlhojeaaW.PrintMore
attribute [local go_sem] max2_int min2_int max_two min_two max_three min_three max_four min_four   -- for this text's walks alone
set_option linter.unusedVariables false
set_option linter.unusedSimpArgs false

/-! ### cents_fitting: function 65 -/
def cents_fitting.f (a0 : Int) : Option (Int × Int) := (cents_Fits.f a0).bind fun t146 => (if t146 = true then (some (a0, 0)) else (some (0, 3)))
set_option maxHeartbeats 8000000 in
set_option maxRecDepth 100000 in
theorem cents_fitting.calls (a0 : Int) (r1 : Int) (r2 : Int) (w : World) (h : cents_fitting.f a0 = some (r1, r2)) :
    Calls Try.prog 65 #[.int .i64 a0] w fun e w' => e = .returned (.tuple #[.int .i64 r1, .int .i64 r2]) ∧ Drawn0 w w' := by
  have H : ((cents_Fits.f a0).bind fun t146 => (if t146 = true then (some (a0, 0)) else (some (0, 3)))) = some (r1, r2) := h
  clear h
  replace H := Option.bind_eq_some_iff.mp H
  obtain ⟨t146, A20, H⟩ := H
  replace H : (if t146 = true then (some (a0, 0)) else (some (0, 3))) = some (r1, r2) := H
  have A2 := Aside0.mk A20
  clear A20
  by_cases c3 : t146 = true
  · subst c3
    have H1 : (some (a0, 0)) = some (r1, r2) := by rw [if_pos rfl] at H; exact H
    clear H
    have H := H1
    clear H1
    simp only [Option.some.injEq, Prod.mk.injEq] at H
    obtain ⟨rfl, rfl⟩ := H
    go_enter Try.func65, Try.ntmps65
    go_wp2_with (first | ((with_reducible refine gate_callee (f := 64) rfl ?_); refine goesL_ (some 5) rfl rfl Try.func64 (by kernel_rfl) rfl #[.int .i64 a0] rfl (by (try simp only [List.map_toArray, List.map_cons, List.map_nil]); first | done | rfl | (simp only [List.length_drop, List.length_take]; rfl)) ?_; (with_reducible refine (cents_Fits.calls a0 true _ A2.out).mono ?_); rintro e w' ⟨rfl, ⟨nd, rfl⟩⟩; refine ⟨_, rfl, ?_⟩))
    go_ret2
    exact ⟨by first | rfl | (simp; done) | (simp [*]; done), by repeat (first | exact Drawn0.refl _ | apply Drawn0.step)⟩
  · replace c3 := Bool.eq_false_iff.mpr c3
    subst c3
    have H1 : (some (0, 3)) = some (r1, r2) := by rw [if_neg (show ¬ (false = true) by decide)] at H; exact H
    clear H
    have H := H1
    clear H1
    simp only [Option.some.injEq, Prod.mk.injEq] at H
    obtain ⟨rfl, rfl⟩ := H
    go_enter Try.func65, Try.ntmps65
    go_wp2_with (first | ((with_reducible refine gate_callee (f := 64) rfl ?_); refine goesL_ (some 5) rfl rfl Try.func64 (by kernel_rfl) rfl #[.int .i64 a0] rfl (by (try simp only [List.map_toArray, List.map_cons, List.map_nil]); first | done | rfl | (simp only [List.length_drop, List.length_take]; rfl)) ?_; (with_reducible refine (cents_Fits.calls a0 false _ A2.out).mono ?_); rintro e w' ⟨rfl, ⟨nd, rfl⟩⟩; refine ⟨_, rfl, ?_⟩))
    go_ret2
    exact ⟨by first | rfl | (simp; done) | (simp [*]; done), by repeat (first | exact Drawn0.refl _ | apply Drawn0.step)⟩

end Go.Proofs.Yteipjpkdlhojeaa.Q

-- Written by the kit's print.py, called by a driver of this session (wip/tools/drv.py).
namespace Go.Proofs.Yteipjpkdlhojeaa.Q
open Go.RowKit Go.Proofs.YteipjpkdlhojeaaW.PrintWords Go.Proofs.YteipjpkdlhojeaaW.PrintLast Go.Proofs.YteipjpkdlhojeaaW.PrintMore
attribute [local go_sem] max2_int min2_int max_two min_two max_three min_three max_four min_four   -- for this text's walks alone
set_option linter.unusedVariables false
set_option linter.unusedSimpArgs false

/-! ### cents_Sum: function 38 -/
def cents_Sum.l0 : Nat → List Int → Int → Int → Int → Int → Option (Int × Int)
  | 0, _, _, _, _, _ => none
  | k + 1, x0, x4, x5, x9, x10 => if x10 < x9 then (if 0 ≤ x10 then (if x10 < (x0.length : Int) then ((cents_Fits.f (rd x0 x10)).bind fun t148 => (if t148 = true then (cents_Sum.l0 k x0 (wrap64 (x4 + ((rd x0 x10) / 4294967296))) (wrap64 (x5 + (Go.bits .and .i64 (rd x0 x10) 4294967295))) x9 (wrap64 (x10 + 1))) else (some (0, 2)))) else (none)) else (none)) else (if (wrap64 (x4 + (x5 / 4294967296))) < (-268435456) then (some (0, 3)) else (if (wrap64 (x4 + (x5 / 4294967296))) > 268435456 then (some (0, 3)) else ((cents_fitting.f (wrap64 ((wrap64 ((wrap64 (x4 + (x5 / 4294967296))) * 4294967296)) + (Go.bits .and .i64 x5 4294967295)))).bind fun bt151 => (some (bt151.1, bt151.2)))))
def cents_Sum.f (k : Nat) (l0 : List Int) : Option (Int × Int) := cents_Sum.l0 k l0 0 0 (l0.length : Int) 0
theorem cents_Sum.mono_l : ∀ k, (∀ y0 y1 y2 y3 y4, LeO (cents_Sum.l0 k y0 y1 y2 y3 y4) (cents_Sum.l0 (k + 1) y0 y1 y2 y3 y4))
  | 0 => fun _ _ _ _ _ r h => by simp [cents_Sum.l0] at h
  | k + 1 => by
    have ih0 := cents_Sum.mono_l k
    · intro y0 y1 y2 y3 y4
      unfold cents_Sum.l0
      repeat' first
      | (with_reducible exact ih0 _ _ _ _ _)
      | (with_reducible exact LeO.refl _)
      | (with_reducible exact LeO.none _)
      | (with_reducible refine LeO.ite ?_ ?_)
      | (with_reducible refine LeO.bind ?_ (fun _ => ?_))
      | exact ih0 _ _ _ _ _
      | exact LeO.none _
      | refine LeO.ite ?_ ?_
      | refine LeO.bind ?_ (fun _ => ?_)
theorem cents_Sum.mono : ∀ a0 k, LeO (cents_Sum.f k a0) (cents_Sum.f (k + 1) a0) := by
  intro a0 k
  have ih0 := cents_Sum.mono_l k
  unfold cents_Sum.f
  repeat' first
      | (with_reducible exact ih0 _ _ _ _ _)
      | (with_reducible exact LeO.refl _)
      | (with_reducible exact LeO.none _)
      | (with_reducible refine LeO.ite ?_ ?_)
      | (with_reducible refine LeO.bind ?_ (fun _ => ?_))
      | exact ih0 _ _ _ _ _
      | exact LeO.none _
      | refine LeO.ite ?_ ?_
      | refine LeO.bind ?_ (fun _ => ?_)
set_option maxHeartbeats 8000000 in
set_option maxRecDepth 100000 in
theorem cents_Sum.calls (k : Nat) (A0 : Option Addr) (c0 : Nat) (l0 : List Int) (r1 : Int) (r2 : Int) (w : World) (hr0 : Kd.C (Kd.int .i64) w A0 l0.length l0) (hc0 : l0.length ≤ c0) (h : cents_Sum.f k l0 = some (r1, r2)) :
    Calls Try.prog 38 #[.slice A0 l0.length c0] w fun e w' => e = .returned (.tuple #[.int .i64 r1, .int .i64 r2]) ∧ Drawn0 w w' := by
  have HR0 := Aside0.mk hr0
  have HC0 := Aside0.mk hc0
  clear hr0 hc0
  have H : (cents_Sum.l0 k l0 0 0 (l0.length : Int) 0) = some (r1, r2) := h
  clear h
  have H' := Aside0.mk H
  clear H
  go_enter Try.func38, Try.ntmps38
  go_wp2
  go_loopg [4, 5, 10] k (fun kq v4 v5 v10 w' => ∃ (x4_1 : Int) (x5_1 : Int) (x10_1 : Int), v4 = .int .i64 x4_1 ∧ v5 = .int .i64 x5_1 ∧ v10 = .int .i64 x10_1 ∧ Aside0 (cents_Sum.l0 kq l0 x4_1 x5_1 (l0.length : Int) x10_1 = some (r1, r2)) ∧ Aside0 (kq ≤ k) ∧ Drawn0 w w')
  case atStart => exact ⟨(0), (0), (0), (by first | rfl | (simp; done) | (simp [*]; done)), (by first | rfl | (simp; done) | (simp [*]; done)), (by first | rfl | (simp; done) | (simp [*]; done)), H', ⟨Nat.le_refl _⟩, by repeat (first | exact Drawn0.refl _ | apply Drawn0.step)⟩
  case round =>
    clear H'
    obtain ⟨x4_1, x5_1, x10_1, rfl, rfl, rfl, HA, HK1, ⟨m1, rfl⟩⟩ := hrel
    cases gk with
    | zero => exact absurd HA.out (by simp [cents_Sum.l0])
    | succ k1 =>
      have H := HA.out
      clear HA
      simp only [cents_Sum.l0] at H
      by_cases c2 : x10_1 < (l0.length : Int)
      · rw [if_pos c2] at H
        have c2b0 : decide (x10_1 < (l0.length : Int)) = true := decide_eq_true c2
        clear c2
        by_cases c3 : 0 ≤ x10_1
        · rw [if_pos c3] at H
          have c3b0 : decide (0 ≤ x10_1) = true := decide_eq_true c3
          clear c3
          by_cases c4 : x10_1 < (l0.length : Int)
          · rw [if_pos c4] at H
            have c4b0 : decide (x10_1 < (l0.length : Int)) = true := decide_eq_true c4
            clear c4
            replace H := Option.bind_eq_some_iff.mp H
            obtain ⟨t148, A50, H⟩ := H
            replace H : (if t148 = true then (cents_Sum.l0 k1 l0 (wrap64 (x4_1 + ((rd l0 x10_1) / 4294967296))) (wrap64 (x5_1 + (Go.bits .and .i64 (rd l0 x10_1) 4294967295))) (l0.length : Int) (wrap64 (x10_1 + 1))) else (some (0, 2))) = some (r1, r2) := H
            have A5 := Aside0.mk A50
            clear A50
            by_cases c6 : t148 = true
            · subst c6
              have H1 : (cents_Sum.l0 k1 l0 (wrap64 (x4_1 + ((rd l0 x10_1) / 4294967296))) (wrap64 (x5_1 + (Go.bits .and .i64 (rd l0 x10_1) 4294967295))) (l0.length : Int) (wrap64 (x10_1 + 1))) = some (r1, r2) := by rw [if_pos rfl] at H; exact H
              clear H
              have H := H1
              clear H1
              have H' := Aside0.mk H
              clear H
              have p147 : 0 ≤ (x10_1 : Int) := of_decide_eq_true (by first | (with_reducible assumption) | assumption)
              have q147 : x10_1 < (l0.length : Int) := of_decide_eq_true (by first | (with_reducible assumption) | assumption)
              obtain ⟨ad147, e147, hx147_0⟩ := Kd.at_int HR0.out x10_1 p147 q147
              cases e147
              replace p147 := eq_true p147
              replace q147 := eq_true q147
              go_wp2_with (first | ((with_reducible refine gate_callee (f := 64) rfl ?_); refine goesL_ (some 17) rfl rfl Try.func64 (by kernel_rfl) rfl #[.int .i64 (rd l0 x10_1)] rfl (by (try simp only [List.map_toArray, List.map_cons, List.map_nil]); first | done | rfl | (simp only [List.length_drop, List.length_take]; rfl)) ?_; (with_reducible refine (cents_Fits.calls (rd l0 x10_1) true _ A5.out).mono ?_); rintro e w' ⟨rfl, ⟨nd, rfl⟩⟩; refine ⟨_, rfl, ?_⟩; have p149 : 0 ≤ (x10_1 : Int) := of_decide_eq_true (by first | (with_reducible assumption) | assumption); have q149 : x10_1 < (l0.length : Int) := of_decide_eq_true (by first | (with_reducible assumption) | assumption); obtain ⟨ad149, e149, hx149_0⟩ := Kd.at_int HR0.out x10_1 p149 q149; obtain rfl : ad147 = ad149 := (by injection e149); replace p149 := eq_true p149; replace q149 := eq_true q149; have p150 : 0 ≤ (x10_1 : Int) := of_decide_eq_true (by first | (with_reducible assumption) | assumption); have q150 : x10_1 < (l0.length : Int) := of_decide_eq_true (by first | (with_reducible assumption) | assumption); obtain ⟨ad150, e150, hx150_0⟩ := Kd.at_int HR0.out x10_1 p150 q150; obtain rfl : ad147 = ad150 := (by injection e150); replace p150 := eq_true p150; replace q150 := eq_true q150))
              go_roundg k1
              case measure => have := HK1.out; omega
              case rel => exact ⟨(wrap64 (x4_1 + ((rd l0 x10_1) / 4294967296))), (wrap64 (x5_1 + (Go.bits .and .i64 (rd l0 x10_1) 4294967295))), (wrap64 (x10_1 + 1)), (by first | rfl | (simp; done) | (simp [*]; done)), (by first | rfl | (simp; done) | (simp [*]; done)), (by first | rfl | (simp; done) | (simp [*]; done)), H', ⟨by have := HK1.out; omega⟩, by repeat (first | exact Drawn0.refl _ | apply Drawn0.step)⟩
            · replace c6 := Bool.eq_false_iff.mpr c6
              subst c6
              have H1 : (some (0, 2)) = some (r1, r2) := by rw [if_neg (show ¬ (false = true) by decide)] at H; exact H
              clear H
              have H := H1
              clear H1
              simp only [Option.some.injEq, Prod.mk.injEq] at H
              obtain ⟨rfl, rfl⟩ := H
              have p147 : 0 ≤ (x10_1 : Int) := of_decide_eq_true (by first | (with_reducible assumption) | assumption)
              have q147 : x10_1 < (l0.length : Int) := of_decide_eq_true (by first | (with_reducible assumption) | assumption)
              obtain ⟨ad147, e147, hx147_0⟩ := Kd.at_int HR0.out x10_1 p147 q147
              cases e147
              replace p147 := eq_true p147
              replace q147 := eq_true q147
              go_wp2_with (first | ((with_reducible refine gate_callee (f := 64) rfl ?_); refine goesL_ (some 17) rfl rfl Try.func64 (by kernel_rfl) rfl #[.int .i64 (rd l0 x10_1)] rfl (by (try simp only [List.map_toArray, List.map_cons, List.map_nil]); first | done | rfl | (simp only [List.length_drop, List.length_take]; rfl)) ?_; (with_reducible refine (cents_Fits.calls (rd l0 x10_1) false _ A5.out).mono ?_); rintro e w' ⟨rfl, ⟨nd, rfl⟩⟩; refine ⟨_, rfl, ?_⟩))
              go_ret2
              exact ⟨by first | rfl | (simp; done) | (simp [*]; done), by repeat (first | exact Drawn0.refl _ | apply Drawn0.step)⟩
          · rw [if_neg c4] at H
            exact absurd H (by simp)
        · rw [if_neg c3] at H
          exact absurd H (by simp)
      · rw [if_neg c2] at H
        have c2b0 : decide (x10_1 < (l0.length : Int)) = false := decide_eq_false c2
        clear c2
        by_cases c7 : (wrap64 (x4_1 + (x5_1 / 4294967296))) < (-268435456)
        · rw [if_pos c7] at H
          have c7b0 : decide ((wrap64 (x4_1 + (x5_1 / 4294967296))) < (-268435456)) = true := decide_eq_true c7
          clear c7
          simp only [Option.some.injEq, Prod.mk.injEq] at H
          obtain ⟨rfl, rfl⟩ := H
          go_wp2
          go_ret2
          exact ⟨by first | rfl | (simp; done) | (simp [*]; done), by repeat (first | exact Drawn0.refl _ | apply Drawn0.step)⟩
        · rw [if_neg c7] at H
          have c7b0 : decide ((wrap64 (x4_1 + (x5_1 / 4294967296))) < (-268435456)) = false := decide_eq_false c7
          clear c7
          by_cases c8 : (wrap64 (x4_1 + (x5_1 / 4294967296))) > 268435456
          · rw [if_pos c8] at H
            have c8b0 : decide (268435456 < (wrap64 (x4_1 + (x5_1 / 4294967296)))) = true := decide_eq_true c8
            clear c8
            simp only [Option.some.injEq, Prod.mk.injEq] at H
            obtain ⟨rfl, rfl⟩ := H
            go_wp2
            go_ret2
            exact ⟨by first | rfl | (simp; done) | (simp [*]; done), by repeat (first | exact Drawn0.refl _ | apply Drawn0.step)⟩
          · rw [if_neg c8] at H
            have c8b0 : decide (268435456 < (wrap64 (x4_1 + (x5_1 / 4294967296)))) = false := decide_eq_false c8
            clear c8
            replace H := Option.bind_eq_some_iff.mp H
            obtain ⟨⟨t151, t152⟩, A90, H⟩ := H
            replace H : (some (t151, t152)) = some (r1, r2) := H
            have A9 := Aside0.mk A90
            clear A90
            simp only [Option.some.injEq, Prod.mk.injEq] at H
            obtain ⟨rfl, rfl⟩ := H
            go_wp2_with (first | ((with_reducible refine gate_callee (f := 65) rfl ?_); refine goesL_ (some 52) rfl rfl Try.func65 (by kernel_rfl) rfl #[.int .i64 (wrap64 ((wrap64 ((wrap64 (x4_1 + (x5_1 / 4294967296))) * 4294967296)) + (Go.bits .and .i64 x5_1 4294967295)))] rfl (by (try simp only [List.map_toArray, List.map_cons, List.map_nil]); first | done | rfl | (simp only [List.length_drop, List.length_take]; rfl)) ?_; (with_reducible refine (cents_fitting.calls (wrap64 ((wrap64 ((wrap64 (x4_1 + (x5_1 / 4294967296))) * 4294967296)) + (Go.bits .and .i64 x5_1 4294967295))) t151 t152 _ A9.out).mono ?_); rintro e w' ⟨rfl, ⟨nd, rfl⟩⟩; refine ⟨_, rfl, ?_⟩))
            go_ret2
            exact ⟨by first | rfl | (simp; done) | (simp [*]; done), by repeat (first | exact Drawn0.refl _ | apply Drawn0.step)⟩

end Go.Proofs.Yteipjpkdlhojeaa.Q

/- Sums of money: what cents.Sum and the reference's Sum answer. -/
namespace Go.Proofs.Yteipjpkdlhojeaa.Q
open Go.RowKit Go.Proofs.YteipjpkdlhojeaaW.PrintWords Go.Proofs.YteipjpkdlhojeaaW.PrintLast Go.Proofs.YteipjpkdlhojeaaW.PrintMore
set_option linter.unusedVariables false
set_option linter.unusedSimpArgs false

theorem i64_and32 (n : Int) : bits .and .i64 n 4294967295 = n % 4294967296 := by
  have h127 : (BitVec.ofInt 64 4294967295).toNat = 2 ^ 32 - 1 := by decide +kernel
  have key : (BitVec.ofInt 64 n &&& BitVec.ofInt 64 4294967295).toNat = (n % ((2 ^ 64 : Nat) : Int)).toNat % 2 ^ 32 := by
    rw [BitVec.toNat_and, BitVec.toNat_ofInt, h127, Nat.and_two_pow_sub_one_eq_mod]
  show IntKind.i64.wrap ((BitVec.ofInt 64 n &&& BitVec.ofInt 64 4294967295).toNat : Nat) = n % 4294967296
  rw [key, IntKind.wrap_i64]
  omega
def isum : List Int → Int
  | [] => 0
  | x :: r => x + isum r
def fitsB (x : Int) : Bool := decide (-1152921504606846976 ≤ x) && decide (x ≤ 1152921504606846976)
/-- What Sum answers. -/
def centsSum (l : List Int) : Int × Int :=
  if l.all fitsB = true then (if -1152921504606846976 ≤ isum l ∧ isum l ≤ 1152921504606846976 then (isum l, 0) else (0, 3)) else (0, 2)
theorem isum_snoc (l : List Int) (x : Int) : isum (l ++ [x]) = isum l + x := by
  induction l with
  | nil => simp [isum]
  | cons y ys ih => simp [isum, ih]; omega
theorem take_next (l : List Int) (i : Nat) (h : i < l.length) : l.take (i + 1) = l.take i ++ [rd l (i : Int)] := by
  rw [List.take_succ_eq_append_getElem h]
  simp [rd, List.getD, h]
theorem fits_tells (x : Int) : cents_Fits.f x = some (fitsB x) := by
  unfold cents_Fits.f fitsB
  by_cases h : x ≥ -1152921504606846976
  · rw [if_pos h]; simp; omega
  · rw [if_neg h]; simp; omega
theorem fitting_tells (x : Int) : cents_fitting.f x = some (if fitsB x = true then (x, 0) else (0, 3)) := by
  unfold cents_fitting.f
  rw [fits_tells]
  simp only [Option.bind_some]
  cases fitsB x <;> rfl
theorem all_take_next (l : List Int) (i : Nat) (h : i < l.length) (q : Int → Bool) : l.all q = true → q (rd l (i : Int)) = true := by
  intro ha
  rw [List.all_eq_true] at ha
  refine ha _ ?_
  have : rd l (i : Int) = l[i] := by simp [rd, List.getD, h]
  rw [this]
  exact List.getElem_mem h
theorem not_all (l : List Int) (i : Nat) (h : i < l.length) (q : Int → Bool) (hq : q (rd l (i : Int)) = false) : l.all q = false := by
  cases ha : l.all q
  · rfl
  · rw [all_take_next l i h q ha] at hq; cases hq
theorem all_of_rd (l : List Int) (q : Int → Bool) (h : ∀ j, j < l.length → q (rd l (j : Int)) = true) : l.all q = true := by
  rw [List.all_eq_true]
  intro x hx
  obtain ⟨j, hj, rfl⟩ := List.getElem_of_mem hx
  have := h j hj
  simpa [rd, List.getD, hj] using this
theorem wrap_small {x : Int} (h : -9223372036854775808 ≤ x) (h2 : x ≤ 9223372036854775807) : wrap64 x = x := by unfold wrap64; omega
theorem sum_loop (l : List Int) (hn : l.length ≤ 1073741824) (d : Nat) : ∀ (k i : Nat) (h lo : Int), i + d = l.length → d < k →
    (∀ j, j < i → fitsB (rd l (j : Int)) = true) → h * 4294967296 + lo = isum (l.take i) → -(268435456 * (i : Int)) ≤ h → h ≤ 268435456 * (i : Int) → 0 ≤ lo → lo ≤ 4294967296 * (i : Int) →
    cents_Sum.l0 k l h lo (l.length : Int) (i : Int) = some (centsSum l) := by
  induction d with
  | zero =>
    intro k i h lo hd hk hall hs h1 h2 h3 h4
    obtain ⟨k, rfl⟩ : ∃ m, k = m + 1 := ⟨k - 1, by omega⟩
    have hi : i = l.length := by omega
    subst hi
    rw [List.take_of_length_le (Nat.le_refl _)] at hs
    have ha := all_of_rd l fitsB hall
    have e1 : wrap64 (h + lo / 4294967296) = h + lo / 4294967296 := wrap_small (by omega) (by omega)
    simp only [cents_Sum.l0, e1, i64_and32]
    rw [if_neg (by omega)]
    unfold centsSum
    rw [if_pos ha]
    by_cases g1 : h + lo / 4294967296 < -268435456
    · rw [if_pos g1, if_neg (by omega)]
    · rw [if_neg g1]
      by_cases g2 : h + lo / 4294967296 > 268435456
      · rw [if_pos g2, if_neg (by omega)]
      · rw [if_neg g2]
        have e2a : wrap64 ((h + lo / 4294967296) * 4294967296) = (h + lo / 4294967296) * 4294967296 := wrap_small (by omega) (by omega)
        have e2b : (h + lo / 4294967296) * 4294967296 + lo % 4294967296 = isum l := by omega
        have e2 : wrap64 (wrap64 ((h + lo / 4294967296) * 4294967296) + lo % 4294967296) = isum l := by
          rw [e2a, e2b]
          have : -1152921504606846976 ≤ isum l := by omega
          have : isum l ≤ 1152921508901814272 := by omega
          clear e1 e2a e2b hs
          exact wrap_small (by omega) (by omega)
        rw [e2, fitting_tells]
        simp only [Option.bind_some]
        by_cases g3 : -1152921504606846976 ≤ isum l ∧ isum l ≤ 1152921504606846976
        · rw [if_pos g3, if_pos (by simp [fitsB, g3])]
        · rw [if_neg g3, if_neg (by simp [fitsB]; omega)]
  | succ d ih =>
    intro k i h lo hd hk hall hs h1 h2 h3 h4
    obtain ⟨k, rfl⟩ : ∃ m, k = m + 1 := ⟨k - 1, by omega⟩
    have hlt : i < l.length := by omega
    simp only [cents_Sum.l0]
    rw [if_pos (by omega), if_pos (by omega), if_pos (by omega), fits_tells]
    simp only [Option.bind_some]
    cases hf : fitsB (rd l (i : Int))
    · simp only [Bool.false_eq_true, if_false]
      unfold centsSum
      rw [if_neg (by rw [not_all l i hlt fitsB hf]; decide)]
    · simp only [if_true]
      have hf' : -1152921504606846976 ≤ rd l (i : Int) ∧ rd l (i : Int) ≤ 1152921504606846976 := by simpa [fitsB] using hf
      have ht := take_next l i hlt
      have hall2 : ∀ j, j < i + 1 → fitsB (rd l (j : Int)) = true := fun j hj => by
        by_cases e : j = i
        · rw [e]; exact hf
        · exact hall j (by omega)
      clear hall hf
      generalize hx : rd l (i : Int) = x at hf' ht ⊢
      clear hx
      have e1 : wrap64 (h + x / 4294967296) = h + x / 4294967296 := wrap_small (by omega) (by omega)
      have e2 : wrap64 (lo + bits .and .i64 x 4294967295) = lo + x % 4294967296 := by rw [i64_and32]; exact wrap_small (by omega) (by omega)
      have e3 : wrap64 ((i : Int) + 1) = ((i + 1 : Nat) : Int) := by rw [wrap_small (by omega) (by omega)]; omega
      rw [e1, e2, e3]
      clear e1 e2 e3
      refine ih k (i + 1) _ _ (by omega) (by omega) hall2 ?_ (by omega) (by omega) (by omega) (by omega)
      · rw [ht, isum_snoc]; omega
theorem cents_Sum_tells (A : Option Addr) (c : Nat) (l : List Int) (w : World) (hn : l.length ≤ 1073741824) (hC : Kd.C (Kd.int .i64) w A l.length l) (hc : l.length ≤ c) :
    Calls Try.prog 38 #[.slice A l.length c] w fun e w' => e = .returned (.tuple #[.int .i64 (centsSum l).1, .int .i64 (centsSum l).2]) ∧ Drawn0 w w' := by
  refine cents_Sum.calls (l.length + 1) A c l _ _ w hC hc ?_
  exact sum_loop l hn l.length (l.length + 1) 0 0 0 (by omega) (by omega) (fun j hj => absurd hj (by omega)) (by simp [isum]) (by simp) (by simp) (by simp) (by simp)
end Go.Proofs.Yteipjpkdlhojeaa.Q

/- vary.Account: what it answers, and its walk. -/
namespace Go.Proofs.Yteipjpkdlhojeaa.Q
open Go.RowKit Go.Proofs.YteipjpkdlhojeaaW.PrintWords Go.Proofs.YteipjpkdlhojeaaW.PrintLast Go.Proofs.YteipjpkdlhojeaaW.PrintMore
set_option linter.unusedVariables false
set_option linter.unusedSimpArgs false

def runHeld (l0 : List S23) (l3 l4 : List S71) : List S63 → (Int → List Int) → Int × (Int → List Int)
  | [], G => (0, G)
  | x :: r, G => if (gain l0 x.f0 (reckonHeld l3 l4 x)).1 ≠ 0 then ((gain l0 x.f0 (reckonHeld l3 l4 x)).1, G) else runHeld l0 l3 l4 r (keepG G (gain l0 x.f0 (reckonHeld l3 l4 x)).2)
def runLegs (l0 : List S23) (l4 : List S71) : List S29 → (Int → List Int) → Int × (Int → List Int)
  | [], G => (0, G)
  | x :: r, G => if (gain l0 x.f1 (reckonLeg l4 x)).1 ≠ 0 then ((gain l0 x.f1 (reckonLeg l4 x)).1, G) else runLegs l0 l4 r (keepG G (gain l0 x.f1 (reckonLeg l4 x)).2)
def sumsFrom (G : Int → List Int) : Nat → Nat → List Int → List Int × Int
  | _, 0, acc => (acc, 0)
  | cur, n + 1, acc => if (centsSum (G cur)).2 ≠ 0 then ([], 3) else sumsFrom G (cur + 1) n (acc ++ [(centsSum (G cur)).1])
/-- What vary.Account answers. -/
def accountF (l0 : List S23) (l1 : List S63) (l2 : List S29) (l3 l4 : List S71) : List Int × Int :=
  if productsCheck l0 ≠ 0 then ([], productsCheck l0)
  else if positionsCheck l1 ≠ 0 then ([], positionsCheck l1)
  else if marksCheck l3 ≠ 0 then ([], marksCheck l3)
  else if marksCheck l4 ≠ 0 then ([], marksCheck l4)
  else if 2048 < l2.length then ([], 8)
  else if (runHeld l0 l3 l4 l1 fun _ => []).1 ≠ 0 then ([], (runHeld l0 l3 l4 l1 fun _ => []).1)
  else if (runLegs l0 l4 l2 (runHeld l0 l3 l4 l1 fun _ => []).2).1 ≠ 0 then ([], (runLegs l0 l4 l2 (runHeld l0 l3 l4 l1 fun _ => []).2).1)
  else sumsFrom (runLegs l0 l4 l2 (runHeld l0 l3 l4 l1 fun _ => []).2).2 0 8 []

/-- .. and those of the two functions that look prices up. -/
structure Looks2 (W : World) (A3 A4 : Option Addr) (n3 c3 n4 c4 p1 p2 g1 g2 : Nat) : Prop where
  p1 : W.heap[p1]? = some (.cells #[.func (.func 60) #[] #[.pointer (some ⟨g1, 0, none⟩)]] 77 (0, 0))
  p2 : W.heap[p2]? = some (.cells #[.func (.func 60) #[] #[.pointer (some ⟨g2, 0, none⟩)]] 77 (0, 0))
  g1 : W.heap[g1]? = some (.cells #[.slice A3 n3 c3] 43 (0, 0))
  g2 : W.heap[g2]? = some (.cells #[.slice A4 n4 c4] 43 (0, 0))
/-- The boxes that a call of vary.Account makes first, in the world W above w. -/
structure Boxes (w W : World) (A0 A1 A3 A4 : Option Addr) (n0 c0 n1 c1 n3 c3 n4 c4 : Nat) : Prop where
  below : Below w.heap.size w W
  b0 : W.heap[w.heap.size]? = some (.cells #[.slice A0 n0 c0] 40 (0, 0))
  b1 : W.heap[w.heap.size + 1]? = some (.cells #[.slice A1 n1 c1] 47 (0, 0))
  b2 : W.heap[w.heap.size + 1 + 1]? = some (.cells #[.slice A3 n3 c3] 43 (0, 0))
  b3 : W.heap[w.heap.size + 1 + 1 + 1]? = some (.cells #[.slice A4 n4 c4] 43 (0, 0))
  b4 : W.heap[w.heap.size + 1 + 1 + 1 + 1]? = some (.cells #[.func (.func 25) #[] #[.pointer (some ⟨w.heap.size, 0, none⟩)], .func (.func 27) #[] #[.pointer (some ⟨w.heap.size + 1, 0, none⟩)], .func (.func 29) #[] #[.pointer (some ⟨w.heap.size + 1 + 1, 0, none⟩)], .func (.func 31) #[] #[.pointer (some ⟨w.heap.size + 1 + 1 + 1, 0, none⟩)]] 73 (0, 0))
theorem Boxes.up {w W W' : World} {A0 A1 A3 A4 : Option Addr} {n0 c0 n1 c1 n3 c3 n4 c4 : Nat} (h : Boxes w W A0 A1 A3 A4 n0 c0 n1 c1 n3 c3 n4 c4) (hb : Below W.heap.size W W') : Boxes w W' A0 A1 A3 A4 n0 c0 n1 c1 n3 c3 n4 c4 :=
  ⟨below_up h.below hb, blk_up hb h.b0, blk_up hb h.b1, blk_up hb h.b2, blk_up hb h.b3, blk_up hb h.b4⟩
theorem size_al (w : World) (o : Obj) : (w.alloc o).heap.size = w.heap.size + 1 := World.size_alloc w o
theorem blk_at {w : World} {o : Obj} {n : Nat} (h : n = w.heap.size) : (w.alloc o).heap[n]? = some o := by subst h; exact heap_alloc_new w o
theorem size_dr (w : World) : w.drew.heap.size = w.heap.size := rfl
theorem Boxes.start (w : World) (A0 A1 A3 A4 : Option Addr) (n0 c0 n1 c1 n3 c3 n4 c4 : Nat) : Boxes w (((((w.alloc (.cells #[.slice A0 n0 c0] 40)).alloc (.cells #[.slice A1 n1 c1] 47)).alloc (.cells #[.slice A3 n3 c3] 43)).alloc (.cells #[.slice A4 n4 c4] 43)).alloc
    (.cells #[.func (.func 25) #[] #[.pointer (some ⟨w.heap.size, 0, none⟩)], .func (.func 27) #[] #[.pointer (some ⟨w.heap.size + 1, 0, none⟩)], .func (.func 29) #[] #[.pointer (some ⟨w.heap.size + 1 + 1, 0, none⟩)], .func (.func 31) #[] #[.pointer (some ⟨w.heap.size + 1 + 1 + 1, 0, none⟩)]] 73)) A0 A1 A3 A4 n0 c0 n1 c1 n3 c3 n4 c4 := by
  refine ⟨?_, ?_, ?_, ?_, ?_, ?_⟩
  · exact below_alloc (below_alloc (below_alloc (below_alloc (below_alloc (Below.refl _ _) _) _) _) _) _
  · exact blk_alloc (blk_alloc (blk_alloc (blk_alloc (heap_alloc_new _ _) _) _) _) _
  · exact blk_alloc (blk_alloc (blk_alloc (blk_at (by rw [size_al])) _) _) _
  · exact blk_alloc (blk_alloc (blk_at (by rw [size_al, size_al])) _) _
  · exact blk_alloc (blk_at (by rw [size_al, size_al, size_al])) _
  · exact blk_at (by rw [size_al, size_al, size_al, size_al])

theorem carried_in {p : S23} {q a b : Int} (h : (carried p q a b).2 = 0) : (0 ≤ p.f1 ∧ p.f1 < 8) ∧ -1152921504606846976 ≤ (carried p q a b).1 ∧ (carried p q a b).1 ≤ 1152921504606846976 := by
  unfold carried at h ⊢
  by_cases h1 : productCheck p = 0
  · rw [if_neg (by simp [h1])] at h ⊢
    by_cases h2 : (a < -16777216 ∨ 16777216 < a) ∨ (b < -16777216 ∨ 16777216 < b)
    · rw [if_pos h2] at h; simp at h
    · rw [if_neg h2] at h ⊢
      unfold productValue at h ⊢
      rw [if_neg (by simp [h1])] at h ⊢
      by_cases h3 : b - a < -33554432 ∨ 33554432 < b - a
      · rw [if_pos h3] at h; simp at h
      · rw [if_neg h3] at h ⊢
        by_cases h4 : q < -1048576 ∨ 1048576 < q
        · rw [if_pos h4] at h; simp at h
        · rw [if_neg h4] at h ⊢
          obtain ⟨_, hc, _⟩ := check_mult h1
          obtain ⟨_, _, h5, h6⟩ := value_plain (p := p) (price := b - a) (qty := q) h1 (by omega) (by omega)
          exact ⟨hc, by simp only; omega, by simp only; omega⟩
  · rw [if_pos h1] at h; exact absurd h h1
theorem reckonHeld_in {l3 l4 : List S71} {x : S63} (p : S23) (h : (reckonHeld l3 l4 x p).2 = 0) : (0 ≤ p.f1 ∧ p.f1 < 8) ∧ -1152921504606846976 ≤ (reckonHeld l3 l4 x p).1 ∧ (reckonHeld l3 l4 x p).1 ≤ 1152921504606846976 := by
  unfold reckonHeld at h ⊢
  by_cases h1 : (lookMark l3 x.f0).2 = 0
  · rw [if_neg (by simp [h1])] at h ⊢
    by_cases h2 : (lookMark l4 x.f0).2 = 0
    · rw [if_neg (by simp [h2])] at h ⊢
      exact carried_in h
    · rw [if_pos h2] at h; exact absurd h h2
  · rw [if_pos h1] at h; exact absurd h h1
theorem reckonLeg_in {l4 : List S71} {x : S29} (p : S23) (h : (reckonLeg l4 x p).2 = 0) : (0 ≤ p.f1 ∧ p.f1 < 8) ∧ -1152921504606846976 ≤ (reckonLeg l4 x p).1 ∧ (reckonLeg l4 x p).1 ≤ 1152921504606846976 := by
  unfold reckonLeg at h ⊢
  by_cases h2 : (lookMark l4 x.f1).2 = 0
  · rw [if_neg (by simp [h2])] at h ⊢
    exact carried_in h
  · rw [if_pos h2] at h; exact absurd h h2
theorem R_ints {w : World} {base e : Nat} {q : IntKind} {v : Value} {zs : List Int} (h : w.ownsInts base e q v zs) : Kd.R (Kd.int q) e w base (fun _ => True) v zs := by
  refine ⟨fun _ _ => trivial, zs.map (Value.int q), h.1, ?_, ?_⟩
  · show _ = zs.length * 1
    simp
  · intro j p hp
    show ((zs.map (Value.int q)).drop (j * 1)).take 1 = [Value.int q p]
    obtain ⟨hj, rfl⟩ := List.getElem?_eq_some_iff.1 hp
    rw [Nat.mul_one, List.drop_eq_getElem_cons (by simpa using hj)]
    simp

theorem sumsFrom_step (G : Int → List Int) (i : Nat) (acc : List Int) (h : i < 8) : sumsFrom G i (8 - i) acc = if (centsSum (G i)).2 ≠ 0 then ([], 3) else sumsFrom G (i + 1) (8 - (i + 1)) (acc ++ [(centsSum (G i)).1]) := by
  rw [show 8 - i = (8 - (i + 1)) + 1 by omega, sumsFrom]
/-- The boxes, the two look-ups and the box of the map, as the loops of vary.Account hold them. -/
structure Room (w W : World) (A0 A1 A3 A4 : Option Addr) (n0 c0 n1 c1 n3 c3 n4 c4 p1 p2 g1 g2 B : Nat) : Prop where
  X : Boxes w W A0 A1 A3 A4 n0 c0 n1 c1 n3 c3 n4 c4
  Y : Looks2 W A3 A4 n3 c3 n4 c4 p1 p2 g1 g2
  m : W.heap[B + 1]? = some (.cells #[.map (some B)] 79 (0, 0))
theorem Room.up {w W W' : World} {A0 A1 A3 A4 : Option Addr} {n0 c0 n1 c1 n3 c3 n4 c4 p1 p2 g1 g2 B : Nat} (h : Room w W A0 A1 A3 A4 n0 c0 n1 c1 n3 c3 n4 c4 p1 p2 g1 g2 B) (hb : Below W.heap.size W W') : Room w W' A0 A1 A3 A4 n0 c0 n1 c1 n3 c3 n4 c4 p1 p2 g1 g2 B :=
  ⟨h.X.up hb, ⟨blk_up hb h.Y.p1, blk_up hb h.Y.p2, blk_up hb h.Y.g1, blk_up hb h.Y.g2⟩, blk_up hb h.m⟩
theorem Room.turn {w W W' : World} {A0 A1 A3 A4 : Option Addr} {n0 c0 n1 c1 n3 c3 n4 c4 p1 p2 g1 g2 B : Nat} (h : Room w W A0 A1 A3 A4 n0 c0 n1 c1 n3 c3 n4 c4 p1 p2 g1 g2 B) (hb : Turn (B + 2) B W W')
    (hB : w.heap.size + 1 + 1 + 1 + 1 < B ∧ p1 < B ∧ p2 < B ∧ g1 < B ∧ g2 < B) : Room w W' A0 A1 A3 A4 n0 c0 n1 c1 n3 c3 n4 c4 p1 p2 g1 g2 B := by
  have k : ∀ {g : Nat} {o : Obj}, W.heap[g]? = some o → g < B → W'.heap[g]? = some o := fun hg hl => hb.blk hg (by omega) (by omega)
  have hbb : Below w.heap.size W W' := hb.below (by omega) (by omega)
  exact ⟨⟨h.X.below.trans hbb, k h.X.b0 (by omega), k h.X.b1 (by omega), k h.X.b2 (by omega), k h.X.b3 (by omega), k h.X.b4 (by omega)⟩,
    ⟨k h.Y.p1 (by omega), k h.Y.p2 (by omega), k h.Y.g1 (by omega), k h.Y.g2 (by omega)⟩, hb.blk h.m (by omega) (by omega)⟩

set_option maxHeartbeats 2000000 in
set_option maxRecDepth 100000 in
theorem vary_Account_tells (A0 A1 A2 A3 A4 : Option Addr) (c0 c1 c2 c3 c4 : Nat) (l0 : List S23) (l1 : List S63) (l2 : List S29) (l3 l4 : List S71) (w : World)
    (h0 : k23.C w A0 l0.length l0) (hc0 : l0.length ≤ c0) (h1 : k63.C w A1 l1.length l1) (hc1 : l1.length ≤ c1) (h2 : k29.C w A2 l2.length l2) (hc2 : l2.length ≤ c2)
    (h3 : k71.C w A3 l3.length l3) (hc3 : l3.length ≤ c3) (h4 : k71.C w A4 l4.length l4) (hc4 : l4.length ≤ c4) :
    Calls Try.prog 14 #[.slice A0 l0.length c0, .slice A1 l1.length c1, .slice A2 l2.length c2, .slice A3 l3.length c3, .slice A4 l4.length c4] w
      fun e w' => ∃ v, e = .returned (.tuple #[v, .int .i64 (accountF l0 l1 l2 l3 l4).2]) ∧ Kd.R (Kd.int .i64) 3 w' w.heap.size (fun _ => True) v (accountF l0 l1 l2 l3 l4).1 ∧ Below w.heap.size w w' := by
  have H0 := Aside0.mk h0
  have H1 := Aside0.mk h1
  have H2 := Aside0.mk h2
  have H3 := Aside0.mk h3
  have H4 := Aside0.mk h4
  clear h0 h1 h2 h3 h4
  go_enter Try.func14, Try.ntmps14
  go_wp2
  go_loopg [10, 31] 4 (fun kq v10 v31 wr => ∃ i : Nat, v10 = .slice none 0 0 ∧ v31 = .int .i64 i ∧ i ≤ 4 ∧ Aside0 (i + kq = 4) ∧ Aside0 ((0 < i → productsCheck l0 = 0) ∧ (1 < i → positionsCheck l1 = 0) ∧ (2 < i → marksCheck l3 = 0) ∧ (3 < i → marksCheck l4 = 0)) ∧ Aside0 (Boxes w wr A0 A1 A3 A4 l0.length c0 l1.length c1 l3.length c3 l4.length c4))
  case atStart => exact ⟨0, rfl, rfl, by omega, ⟨by omega⟩, ⟨⟨fun h => absurd h (by omega), fun h => absurd h (by omega), fun h => absurd h (by omega), fun h => absurd h (by omega)⟩⟩, ⟨Boxes.start w A0 A1 A3 A4 _ c0 _ c1 _ c3 _ c4⟩⟩
  case round =>
    obtain ⟨i, rfl, rfl, hi, HK, HP, HX⟩ := hrel
    obtain ⟨⟨f0, f1, f2, f3⟩, _⟩ := box4 HX.out.b4
    rcases (show i = 0 ∨ i = 1 ∨ i = 2 ∨ i = 3 ∨ i = 4 by omega) with rfl | rfl | rfl | rfl | rfl
    · go_wp2_with fail
      refine (vary_Account_1_tells _ A0 c0 l0 _ HX.out.b0 (Kd.C_below H0.out HX.out.below) hc0).mono ?_
      rintro e w1 ⟨rfl, hb⟩
      have HX1 := Aside0.mk (HX.out.up hb)
      clear hb f0 f1 f2 f3
      by_cases hE : productsCheck l0 = 0
      · have HE := Aside0.mk (show (0 < 1 → productsCheck l0 = 0) ∧ (1 < 1 → positionsCheck l1 = 0) ∧ (2 < 1 → marksCheck l3 = 0) ∧ (3 < 1 → marksCheck l4 = 0) from ⟨fun _ => hE, fun h => absurd h (by omega), fun h => absurd h (by omega), fun h => absurd h (by omega)⟩)
        have hE' : (productsCheck l0 != 0) = false := by simp [hE]
        clear hE
        go_wp2
        go_roundg (4 - 1)
        case measure => have := HK.out; omega
        case rel => exact ⟨1, rfl, by go_num, by omega, ⟨by omega⟩, HE, HX1⟩
      · have HF := Aside0.mk (show accountF l0 l1 l2 l3 l4 = ([], productsCheck l0) by unfold accountF; rw [if_pos hE])
        have hE' : (productsCheck l0 != 0) = true := by simp [hE]
        clear hE
        go_wp2
        go_ret2
        exact ⟨_, by rw [HF.out]; rfl, by rw [HF.out]; exact Kd.R_nil _ _ _ _ _, HX1.out.below⟩
    · go_wp2_with fail
      refine (vary_Account_2_tells _ A1 c1 l1 _ HX.out.b1 (Kd.C_below H1.out HX.out.below) hc1).mono ?_
      rintro e w1 ⟨rfl, hb⟩
      have HX1 := Aside0.mk (HX.out.up hb)
      clear hb f0 f1 f2 f3
      by_cases hE : positionsCheck l1 = 0
      · have HE := Aside0.mk (show (0 < 2 → productsCheck l0 = 0) ∧ (1 < 2 → positionsCheck l1 = 0) ∧ (2 < 2 → marksCheck l3 = 0) ∧ (3 < 2 → marksCheck l4 = 0) from ⟨fun _ => HP.out.1 (by omega), fun _ => hE, fun h => absurd h (by omega), fun h => absurd h (by omega)⟩)
        have hE' : (positionsCheck l1 != 0) = false := by simp [hE]
        clear hE
        go_wp2
        go_roundg (4 - 2)
        case measure => have := HK.out; omega
        case rel => exact ⟨2, rfl, by go_num, by omega, ⟨by omega⟩, HE, HX1⟩
      · have HF := Aside0.mk (show accountF l0 l1 l2 l3 l4 = ([], positionsCheck l1) by unfold accountF; rw [if_neg (by simp [HP.out.1 (by omega)])]; rw [if_pos hE])
        have hE' : (positionsCheck l1 != 0) = true := by simp [hE]
        clear hE
        go_wp2
        go_ret2
        exact ⟨_, by rw [HF.out]; rfl, by rw [HF.out]; exact Kd.R_nil _ _ _ _ _, HX1.out.below⟩
    · go_wp2_with fail
      refine (vary_Account_3_tells _ A3 c3 l3 _ HX.out.b2 (Kd.C_below H3.out HX.out.below) hc3).mono ?_
      rintro e w1 ⟨rfl, hb⟩
      have HX1 := Aside0.mk (HX.out.up hb)
      clear hb f0 f1 f2 f3
      by_cases hE : marksCheck l3 = 0
      · have HE := Aside0.mk (show (0 < 3 → productsCheck l0 = 0) ∧ (1 < 3 → positionsCheck l1 = 0) ∧ (2 < 3 → marksCheck l3 = 0) ∧ (3 < 3 → marksCheck l4 = 0) from ⟨fun _ => HP.out.1 (by omega), fun _ => HP.out.2.1 (by omega), fun _ => hE, fun h => absurd h (by omega)⟩)
        have hE' : (marksCheck l3 != 0) = false := by simp [hE]
        clear hE
        go_wp2
        go_roundg (4 - 3)
        case measure => have := HK.out; omega
        case rel => exact ⟨3, rfl, by go_num, by omega, ⟨by omega⟩, HE, HX1⟩
      · have HF := Aside0.mk (show accountF l0 l1 l2 l3 l4 = ([], marksCheck l3) by unfold accountF; rw [if_neg (by simp [HP.out.1 (by omega)])]; rw [if_neg (by simp [HP.out.2.1 (by omega)])]; rw [if_pos hE])
        have hE' : (marksCheck l3 != 0) = true := by simp [hE]
        clear hE
        go_wp2
        go_ret2
        exact ⟨_, by rw [HF.out]; rfl, by rw [HF.out]; exact Kd.R_nil _ _ _ _ _, HX1.out.below⟩
    · go_wp2_with fail
      refine (vary_Account_4_tells _ A4 c4 l4 _ HX.out.b3 (Kd.C_below H4.out HX.out.below) hc4).mono ?_
      rintro e w1 ⟨rfl, hb⟩
      have HX1 := Aside0.mk (HX.out.up hb)
      clear hb f0 f1 f2 f3
      by_cases hE : marksCheck l4 = 0
      · have HE := Aside0.mk (show (0 < 4 → productsCheck l0 = 0) ∧ (1 < 4 → positionsCheck l1 = 0) ∧ (2 < 4 → marksCheck l3 = 0) ∧ (3 < 4 → marksCheck l4 = 0) from ⟨fun _ => HP.out.1 (by omega), fun _ => HP.out.2.1 (by omega), fun _ => HP.out.2.2.1 (by omega), fun _ => hE⟩)
        have hE' : (marksCheck l4 != 0) = false := by simp [hE]
        clear hE
        go_wp2
        go_roundg (4 - 4)
        case measure => have := HK.out; omega
        case rel => exact ⟨4, rfl, by go_num, by omega, ⟨by omega⟩, HE, HX1⟩
      · have HF := Aside0.mk (show accountF l0 l1 l2 l3 l4 = ([], marksCheck l4) by unfold accountF; rw [if_neg (by simp [HP.out.1 (by omega)])]; rw [if_neg (by simp [HP.out.2.1 (by omega)])]; rw [if_neg (by simp [HP.out.2.2.1 (by omega)])]; rw [if_pos hE])
        have hE' : (marksCheck l4 != 0) = true := by simp [hE]
        clear hE
        go_wp2
        go_ret2
        exact ⟨_, by rw [HF.out]; rfl, by rw [HF.out]; exact Kd.R_nil _ _ _ _ _, HX1.out.below⟩
    · clear f0 f1 f2 f3
      by_cases hL : 2048 < l2.length
      · have HF := Aside0.mk (show accountF l0 l1 l2 l3 l4 = ([], 8) by unfold accountF; rw [if_neg (by simp [HP.out.1 (by omega)]), if_neg (by simp [HP.out.2.1 (by omega)]), if_neg (by simp [HP.out.2.2.1 (by omega)]), if_neg (by simp [HP.out.2.2.2 (by omega)]), if_pos hL])
        go_wp2
        go_ret2
        exact ⟨_, by rw [HF.out]; rfl, by rw [HF.out]; exact Kd.R_nil _ _ _ _ _, HX.out.below⟩
      · have HF := Aside0.mk (show accountF l0 l1 l2 l3 l4 = if (runHeld l0 l3 l4 l1 fun _ => []).1 ≠ 0 then ([], (runHeld l0 l3 l4 l1 fun _ => []).1)
            else if (runLegs l0 l4 l2 (runHeld l0 l3 l4 l1 fun _ => []).2).1 ≠ 0 then ([], (runLegs l0 l4 l2 (runHeld l0 l3 l4 l1 fun _ => []).2).1)
            else sumsFrom (runLegs l0 l4 l2 (runHeld l0 l3 l4 l1 fun _ => []).2).2 0 8 [] by unfold accountF; rw [if_neg (by simp [HP.out.1 (by omega)]), if_neg (by simp [HP.out.2.1 (by omega)]), if_neg (by simp [HP.out.2.2.1 (by omega)]), if_neg (by simp [HP.out.2.2.2 (by omega)]), if_neg hL])
        have hL' : ((2048 : Int) < (l2.length : Int)) = False := by simp; omega
        go_wp2
        have q3 := blk_cell HX.out.b2 0
        have q4 := blk_cell HX.out.b3 0
        simp only [List.getElem?_toArray, List.getElem?_cons_zero] at q3 q4
        have z3 := blk_lt HX.out.b2
        have z4 := blk_lt HX.out.b3
        go_cut [14, 15] (fun v14 v15 wc => ∃ g1 g2 p1 p2 : Nat, v14 = .pointer (some ⟨p1, 0, none⟩) ∧ v15 = .pointer (some ⟨p2, 0, none⟩) ∧ Aside0 (Boxes w wc A0 A1 A3 A4 l0.length c0 l1.length c1 l3.length c3 l4.length c4) ∧ Aside0 (Looks2 wc A3 A4 l3.length c3 l4.length c4 p1 p2 g1 g2))
        case first =>
          go_region_held3 (fun w' => w'.cell? ⟨w.heap.size + 1 + 1, 0, none⟩ = some (.slice A3 l3.length c3) ∧ w'.cell? ⟨w.heap.size + 1 + 1 + 1, 0, none⟩ = some (.slice A4 l4.length c4))
            ((go_split_ands; exact ⟨cell_up (w := wr) (by repeat (first | exact Below.refl _ _ | apply below_alloc | apply below_drew1 | refine below_set ?_ (by simp; omega))) q3, cell_up (w := wr) (by repeat (first | exact Below.refl _ _ | apply below_alloc | apply below_drew1 | refine below_set ?_ (by simp; omega))) q4⟩))
            ((go_at_call 32; refine (vary_looked_tells _ _ _ _).mono ?_; rintro e w' ⟨rfl, rfl⟩))
          all_goals
            go_wp2
            go_meet
            case rel =>
              exact ⟨_, _, _, _, rfl, rfl, ⟨HX.out.up (by repeat (first | exact Below.refl _ _ | apply below_alloc | apply below_drew1))⟩,
                ⟨⟨by repeat (first | (refine blk_at ?_; simp only [size_al, size_dr]; done) | refine blk_drew ?_ | refine blk_alloc ?_ _),
                  by repeat (first | (refine blk_at ?_; simp only [size_al, size_dr]; done) | refine blk_drew ?_ | refine blk_alloc ?_ _),
                  by repeat (first | (refine blk_at ?_; simp only [size_al, size_dr]; done) | refine blk_drew ?_ | refine blk_alloc ?_ _),
                  by repeat (first | (refine blk_at ?_; simp only [size_al, size_dr]; done) | refine blk_drew ?_ | refine blk_alloc ?_ _)⟩⟩⟩
        case rest =>
          clear HX q3 q4 z3 z4
          obtain ⟨g1, g2, p1, p2, rfl, rfl, HX, HY⟩ := hcut
          have hmm := @run_makeMap Try.prog
          have zB : w.heap.size + 1 + 1 + 1 + 1 < wc.heap.size ∧ p1 < wc.heap.size ∧ p2 < wc.heap.size ∧ g1 < wc.heap.size ∧ g2 < wc.heap.size := ⟨blk_lt HX.out.b4, blk_lt HY.out.p1, blk_lt HY.out.p2, blk_lt HY.out.g1, blk_lt HY.out.g2⟩
          have ZB := Aside0.mk zB
          clear zB
          have HM : Aside0 (Room w ((wc.alloc (.map #[] 0)).alloc (.cells #[.map (some wc.heap.size)] 79)) A0 A1 A3 A4 l0.length c0 l1.length c1 l3.length c3 l4.length c4 p1 p2 g1 g2 wc.heap.size) := by
            have hb : Below wc.heap.size wc ((wc.alloc (.map #[] 0)).alloc (.cells #[.map (some wc.heap.size)] 79)) := below_alloc (below_alloc (Below.refl _ _) _) _
            exact ⟨⟨HX.out.up hb, ⟨blk_up hb HY.out.p1, blk_up hb HY.out.p2, blk_up hb HY.out.g1, blk_up hb HY.out.g2⟩, blk_at (by rw [size_al])⟩⟩
          have HS : Aside0 (SumsAt ((wc.alloc (.map #[] 0)).alloc (.cells #[.map (some wc.heap.size)] 79)) (wc.heap.size + 2) wc.heap.size 0 (fun _ => [])) :=
            ⟨SumsAt.made _ _ _ (blk_alloc (heap_alloc_new _ _) _) (by omega) (by rw [size_al, size_al]; omega)⟩
          clear HX HY
          have q1 := blk_cell HM.out.X.b1 0
          simp only [List.getElem?_toArray, List.getElem?_cons_zero] at q1
          have hl1 : l1.length ≤ 128 := by
            have := HP.out.2.1 (by omega)
            unfold positionsCheck at this
            by_cases h : 128 < l1.length
            · rw [if_pos h] at this; omega
            · omega
          have hl0 : l0.length ≤ 32 := by
            have := HP.out.1 (by omega)
            unfold productsCheck at this
            by_cases h : 32 < l0.length
            · rw [if_pos h] at this; omega
            · omega
          have hl3 : l3.length ≤ 128 := by
            have := HP.out.2.2.1 (by omega)
            unfold marksCheck at this
            by_cases h : 128 < l3.length
            · rw [if_pos h] at this; omega
            · omega
          have hl4 : l4.length ≤ 128 := by
            have := HP.out.2.2.2 (by omega)
            unfold marksCheck at this
            by_cases h : 128 < l4.length
            · rw [if_pos h] at this; omega
            · omega
          go_wp2
          clear q1
          go_loopg [10, 52] l1.length (fun kq v10 v52 wr => ∃ (i : Nat) (G : Int → List Int), v10 = .slice none 0 0 ∧ v52 = .int .i64 i ∧ i ≤ l1.length ∧ Aside0 (i + kq = l1.length) ∧ Aside0 (Room w wr A0 A1 A3 A4 l0.length c0 l1.length c1 l3.length c3 l4.length c4 p1 p2 g1 g2 wc.heap.size) ∧ Aside0 (SumsAt wr (wc.heap.size + 2) wc.heap.size i G) ∧ Aside0 (runHeld l0 l3 l4 l1 (fun _ => []) = runHeld l0 l3 l4 (l1.drop i) G))
          case atStart => exact ⟨0, _, rfl, rfl, by omega, ⟨by omega⟩, HM, HS, ⟨by simp⟩⟩
          case round =>
            clear HM HS
            obtain ⟨i, G, rfl, rfl, hi, HK, HM, HS, HR⟩ := hrel
            by_cases hlt2 : i < l1.length
            · have hCr := Kd.C_below H1.out HM.out.X.below
              obtain ⟨ad, rfl, d0, d1, d2, d3, d4, d5⟩ := at_T63 hCr (i : Int) (by omega) (by omega)
              simp only [Int.toNat_natCast] at d0 d1 d2 d3 d4 d5
              generalize hp : rd_T63 l1 i = x at d0 d1 d2 d3 d4 d5
              have hp' : l1.getD i z63 = x := by rw [← hp]; simp [rd_T63]
              have HR2 := HR.out
              rw [drop_cons z63 hlt2, hp', runHeld] at HR2
              have HR3 := Aside0.mk HR2
              clear hp hp' HR2 HR hCr
              have HBa := below_alloc (Below.refl wr.heap.size wr) (Obj.cells #[.string x.f0.f0, .int .i64 x.f0.f1, .int .i64 x.f0.f2, .int .i64 x.f0.f3, .int .i64 x.f1, .int .i64 x.f2] 63)
              have HMa := Aside0.mk (HM.out.up HBa)
              have HSa := Aside0.mk (HS.out.below HBa)
              clear HBa
              go_wp2_with fail
              refine (vary_Account_5_tells x.f0 _ _ _ (reckonHeld l3 l4 x) w.heap.size (wc.heap.size + 1) wc.heap.size (wc.heap.size + 2) i G A0 c0 l0 _ HMa.out.X.b0 HMa.out.m (Kd.C_below H0.out HMa.out.X.below) hc0 (by omega) HSa.out (by omega)
                (fun p W hW => vary_Account_6_tells p x p1 wr.heap.size p2 g1 g2 A3 A4 c3 c4 l3 l4 W (blk_up hW HMa.out.Y.p1) (blk_up hW HMa.out.Y.p2) (blk_up hW (heap_alloc_new _ _)) (blk_up hW HMa.out.Y.g1) (blk_up hW HMa.out.Y.g2)
                  (Kd.C_below H3.out (below_up HMa.out.X.below hW)) hc3 (by omega) (Kd.C_below H4.out (below_up HMa.out.X.below hW)) hc4 (by omega)) (fun p => reckonHeld_in p)).mono ?_
              rintro e w1 ⟨rfl, hS1, hT⟩
              have HM1 := Aside0.mk (HMa.out.turn hT ZB.out)
              have HS1 := Aside0.mk hS1
              clear hS1 hT HMa HSa d0 d1 d2 d3 d4 d5
              by_cases hE : (gain l0 x.f0 (reckonHeld l3 l4 x)).1 = 0
              · have HR4 := HR3.out
                rw [if_neg (by simp [hE])] at HR4
                have HR5 := Aside0.mk HR4
                have hE' : ((gain l0 x.f0 (reckonHeld l3 l4 x)).1 != 0) = false := by simp [hE]
                clear hE HR4
                go_wp2
                go_roundg (l1.length - (i + 1))
                case measure => have := HK.out; omega
                case rel => exact ⟨i + 1, _, rfl, by go_num, by omega, ⟨by omega⟩, HM1, HS1, HR5⟩
              · have HR4 := HR3.out
                rw [if_pos hE] at HR4
                have HF2 := Aside0.mk (show accountF l0 l1 l2 l3 l4 = ([], (gain l0 x.f0 (reckonHeld l3 l4 x)).1) by rw [HF.out, HR4, if_pos hE])
                have hE' : ((gain l0 x.f0 (reckonHeld l3 l4 x)).1 != 0) = true := by simp [hE]
                clear hE HR4
                go_wp2
                go_ret2
                exact ⟨_, by rw [HF2.out]; rfl, by rw [HF2.out]; exact Kd.R_nil _ _ _ _ _, HM1.out.X.below⟩
            · have HR2 := HR.out
              rw [List.drop_of_length_le (by omega), runHeld] at HR2
              have HF2 := HF.out
              rw [HR2, if_neg (by simp)] at HF2
              have hil : i = l1.length := by omega
              subst hil
              have HF3 := Aside0.mk HF2
              clear HF HF2 HR HR2 HK hlt2 hi
              have HM0 := HM
              have HS0 := HS
              clear HM HS
              go_wp2
              go_loopg [10, 67] l2.length (fun kq v10 v67 wr => ∃ (i : Nat) (G' : Int → List Int), v10 = .slice none 0 0 ∧ v67 = .int .i64 i ∧ i ≤ l2.length ∧ Aside0 (i + kq = l2.length) ∧ Aside0 (Room w wr A0 A1 A3 A4 l0.length c0 l1.length c1 l3.length c3 l4.length c4 p1 p2 g1 g2 wc.heap.size) ∧ Aside0 (SumsAt wr (wc.heap.size + 2) wc.heap.size (l1.length + i) G') ∧ Aside0 (runLegs l0 l4 l2 G = runLegs l0 l4 (l2.drop i) G'))
              case atStart => exact ⟨0, _, rfl, rfl, by omega, ⟨by omega⟩, HM0, HS0, ⟨by simp⟩⟩
              case round =>
                clear HM0 HS0
                obtain ⟨i, G', rfl, rfl, hi, HK, HM, HS, HR⟩ := hrel
                by_cases hlt2 : i < l2.length
                · have hCr := Kd.C_below H2.out HM.out.X.below
                  obtain ⟨ad, rfl, d0, d1, d2, d3, d4, d5, d6, d7, d8⟩ := at_T29 hCr (i : Int) (by omega) (by omega)
                  simp only [Int.toNat_natCast] at d0 d1 d2 d3 d4 d5 d6 d7 d8
                  generalize hp : rd_T29 l2 i = x at d0 d1 d2 d3 d4 d5 d6 d7 d8
                  have hp' : l2.getD i z29 = x := by rw [← hp]; simp [rd_T29]
                  have HR2 := HR.out
                  rw [drop_cons z29 hlt2, hp', runLegs] at HR2
                  have HR3 := Aside0.mk HR2
                  clear hp hp' HR2 HR hCr
                  have HBa := below_alloc (Below.refl wr.heap.size wr) (Obj.cells #[.string x.f0.f0, .string x.f0.f1, .string x.f1.f0, .int .i64 x.f1.f1, .int .i64 x.f1.f2, .int .i64 x.f1.f3, .int .i64 x.f2, .int .i64 x.f3, .int .i64 x.f4] 29)
                  have HMa := Aside0.mk (HM.out.up HBa)
                  have HSa := Aside0.mk (HS.out.below HBa)
                  clear HBa
                  go_wp2_with fail
                  refine (vary_Account_5_tells_leg x.f1 _ _ (reckonLeg l4 x) w.heap.size (wc.heap.size + 1) wc.heap.size (wc.heap.size + 2) (l1.length + i) G' A0 c0 l0 _ HMa.out.X.b0 HMa.out.m (Kd.C_below H0.out HMa.out.X.below) hc0 (by omega) HSa.out (by omega)
                    (fun p W hW => vary_Account_7_tells p x p2 wr.heap.size g2 A4 c4 l4 W (blk_up hW HMa.out.Y.p2) (blk_up hW (heap_alloc_new _ _)) (blk_up hW HMa.out.Y.g2)
                      (Kd.C_below H4.out (below_up HMa.out.X.below hW)) hc4 (by omega)) (fun p => reckonLeg_in p)).mono ?_
                  rintro e w1 ⟨rfl, hS1, hT⟩
                  have HM1 := Aside0.mk (HMa.out.turn hT ZB.out)
                  have HS1 := Aside0.mk hS1
                  clear hS1 hT HMa HSa d0 d1 d2 d3 d4 d5 d6 d7 d8
                  by_cases hE : (gain l0 x.f1 (reckonLeg l4 x)).1 = 0
                  · have HR4 := HR3.out
                    rw [if_neg (by simp [hE])] at HR4
                    have HR5 := Aside0.mk HR4
                    have hE' : ((gain l0 x.f1 (reckonLeg l4 x)).1 != 0) = false := by simp [hE]
                    clear hE HR4
                    go_wp2
                    go_roundg (l2.length - (i + 1))
                    case measure => have := HK.out; omega
                    case rel => exact ⟨i + 1, _, rfl, by go_num, by omega, ⟨by omega⟩, HM1, HS1, HR5⟩
                  · have HR4 := HR3.out
                    rw [if_pos hE] at HR4
                    have HF2 := Aside0.mk (show accountF l0 l1 l2 l3 l4 = ([], (gain l0 x.f1 (reckonLeg l4 x)).1) by rw [HF3.out, HR4, if_pos hE])
                    have hE' : ((gain l0 x.f1 (reckonLeg l4 x)).1 != 0) = true := by simp [hE]
                    clear hE HR4
                    go_wp2
                    go_ret2
                    exact ⟨_, by rw [HF2.out]; rfl, by rw [HF2.out]; exact Kd.R_nil _ _ _ _ _, HM1.out.X.below⟩
                · have HR2 := HR.out
                  rw [List.drop_of_length_le (by omega), runLegs] at HR2
                  have HF2 := HF3.out
                  rw [HR2, if_neg (by simp)] at HF2
                  have hil : i = l2.length := by omega
                  subst hil
                  have HF4 := Aside0.mk HF2
                  clear HF3 HF2 HR HR2 HK hlt2 hi
                  have HM0 := HM
                  have HS0 := HS
                  clear HM HS
                  generalize hn2 : l1.length + l2.length = nn at HS0
                  have hnn : nn ≤ 4096 := by omega
                  clear hn2
                  obtain ⟨w4, e4⟩ : ∃ w4 : World, w4 = wr := ⟨_, rfl⟩
                  subst e4
                  go_wp2
                  go_loopg [10, 80] 8 (fun kq v10 v80 wq => ∃ (i : Nat) (acc : List Int), v80 = .int .i64 i ∧ i ≤ 8 ∧ Aside0 (i + kq = 8) ∧ Aside0 (acc.length ≤ i) ∧ Aside0 (Below w4.heap.size w4 wq) ∧ Aside0 (Kd.R (Kd.int .i64) 3 wq w4.heap.size (fun _ => True) v10 acc) ∧ Aside0 (sumsFrom G' 0 8 [] = sumsFrom G' i (8 - i) acc))
                  case atStart => exact ⟨0, [], rfl, by omega, ⟨by omega⟩, ⟨by simp⟩, ⟨Below.refl _ _⟩, ⟨Kd.R_nil _ _ _ _ _⟩, ⟨rfl⟩⟩
                  case round =>
                    obtain ⟨i, acc, rfl, hi, HK, HA, HB, HO, HN⟩ := hrel
                    by_cases hlt2 : i < 8
                    · obtain ⟨v, hlook, hoi, hlen, _⟩ := (HS0.out.below HB.out).at (by unfold maxLen; omega) (i : Int) (WalkArith.wf_i64 (by omega))
                      obtain ⟨A, c, rfl, hc, hC⟩ := Kd.R_reads (R_ints hoi)
                      have hl := hlook wr rfl
                      have cm := blk_cell (blk_up HB.out HM0.out.m) 0
                      simp only [List.getElem?_toArray, List.getElem?_cons_zero] at cm
                      have HN2 := HN.out.trans (sumsFrom_step G' i acc hlt2)
                      have HN3 := Aside0.mk HN2
                      clear HN HN2 hlook hoi
                      go_wp2_with fail
                      refine (cents_Sum_tells A c (G' i) _ (by omega) hC hc).mono ?_
                      rintro e w1 ⟨rfl, hd⟩
                      have HB1 := Aside0.mk (below_up HB.out hd.below)
                      have HO1 := Aside0.mk (Kd.R_below HO.out hd.below)
                      clear hC hc hl cm hd HB HO
                      by_cases hE : (centsSum (G' i)).2 = 0
                      · have HN4 := HN3.out
                        rw [if_neg (by simp [hE])] at HN4
                        have HN5 := Aside0.mk HN4
                        have hE' : ((centsSum (G' i)).2 != 0) = false := by simp [hE]
                        clear hE HN4 HN3
                        go_wp2_with ((with_reducible refine gate_builtin (b := .append) (xs := #[.tmp 92, .tmp 94]) rfl ?_); at_builtin; refine Kd.R_append (Kd.int .i64) (w0 := w4) w4.heap.size rfl (.tmp 92) (.tmp 94) 50 3 (.int .i64 0) 8 rfl Try.underlying50 info_int rfl (by decide) (by omega) u10 acc (centsSum (G' i)).1 [.int .i64 (centsSum (G' i)).1] (fun _ => True) (fun _ => False) rfl rfl rfl (fun _ hk => hk.elim) (fun _ _ => trivial) (Kd.R_below HO1.out (Below.refl _ _)) HB1.out (below_size HB1.out) (by have := HA.out; omega) ?_; intro v5 w5 ho hb hg hat; have HB5 := Aside0.mk hb; have HO5 := Aside0.mk ho; clear ho hb hg hat)
                        go_roundg (8 - (i + 1))
                        case measure => have := HK.out; omega
                        case rel => exact ⟨i + 1, _, by go_num, by omega, ⟨by omega⟩, ⟨by have := HA.out; simp; omega⟩, HB5, HO5, HN5⟩
                      · have HN4 := HN3.out
                        rw [if_pos hE] at HN4
                        have HF5 := Aside0.mk (HF4.out.trans HN4)
                        have hE' : ((centsSum (G' i)).2 != 0) = true := by simp [hE]
                        clear hE HN4 HN3
                        go_wp2
                        go_ret2
                        exact ⟨_, by rw [HF5.out]; rfl, by rw [HF5.out]; exact Kd.R_nil _ _ _ _ _, below_then HM0.out.X.below (below_size HM0.out.X.below) HB1.out⟩
                    · have hil : i = 8 := by omega
                      subst hil
                      have HF5 := Aside0.mk (HF4.out.trans HN.out)
                      go_wp2
                      go_ret2
                      exact ⟨_, by rw [HF5.out]; rfl, by rw [HF5.out]; exact Kd.R_lower HO.out (below_size HM0.out.X.below), below_then HM0.out.X.below (below_size HM0.out.X.below) HB.out⟩
end Go.Proofs.Yteipjpkdlhojeaa.Q

/- goes of law20: it answers true. -/
namespace Go.Proofs.Yteipjpkdlhojeaa.Q
open Go.RowKit Go.Proofs.YteipjpkdlhojeaaW.PrintWords Go.Proofs.YteipjpkdlhojeaaW.PrintLast Go.Proofs.YteipjpkdlhojeaaW.PrintMore
set_option linter.unusedVariables false
set_option linter.unusedSimpArgs false
def pOil : S23 := ⟨⟨#[111, 105, 108]⟩, 0, 100, 1, 0, 1000, false⟩
def sOil : S27 := ⟨⟨#[111, 105, 108]⟩, 1, 9, 0⟩
def hOil : S63 := ⟨sOil, 3, 0⟩
def lOil : S29 := ⟨⟨⟨#[]⟩, ⟨#[]⟩⟩, sOil, 2, 45, 0⟩
def m50 : S71 := ⟨sOil, 50⟩
def m47 : S71 := ⟨sOil, 47⟩
theorem oil_carried : carried pOil 3 50 47 = (-900, 0) := by decide +kernel
theorem oil_fresh : carried pOil (-2) 45 47 = (-400, 0) := by decide +kernel
theorem oil_account : accountF [pOil] [hOil] [lOil] [m50] [m47] = ([-500, 0, 0, 0, 0, 0, 0, 0], 0) := by decide +kernel
theorem C_one {α : Type} {d : Kd α} {w : World} {g t : Nat} {p : α} {cs : List Value} (hb : w.heap[g]? = some (.cells cs.toArray t (0, 0))) (h : d.K w p cs) : d.C w (some ⟨g, 0, none⟩) 1 [p] := by
  refine ⟨rfl, by omega, fun _ => ⟨_, rfl, fun j q hq => ?_⟩⟩
  cases j with
  | zero =>
    simp at hq
    subst hq
    refine ⟨cs, d.K_len h, h, fun i u hu => ?_⟩
    have := blk_cell hb i
    simp [Addr.add] at this hu ⊢
    split
    · rename_i h0
      subst h0
      rw [this, hu]
    · rw [this, hu]
  | succ j => simp at hq

set_option maxHeartbeats 2000000 in
set_option maxRecDepth 100000 in
theorem goes_tells (w : World) : Calls Try.prog 12 #[] w fun e w' => e = .returned (.bool true) ∧ Below w.heap.size w w' := by
  have hu1 := Try.underlying23
  have hu2 := Try.underlying27
  have hu3 := Try.underlying63
  have hu4 := Try.underlying29
  have hu5 := Try.underlying71
  have HB0 := below_alloc (Below.refl w.heap.size w) (Obj.cells #[.string pOil.f0, .int .i64 pOil.f1, .int .i64 pOil.f2, .int .i64 pOil.f3, .int .i64 pOil.f4, .int .i64 pOil.f5, .bool pOil.f6] 23)
  go_enter Try.func12, Try.ntmps12
  go_wp2_with fail
  refine (vary_Carried_tells pOil 3 50 47 _).mono ?_
  rintro e w1 ⟨rfl, hb1⟩
  have HB1 := below_up HB0 hb1
  have hp1 := blk_up hb1 (heap_alloc_new _ _)
  obtain ⟨⟨m0, m1, m2, m3, m4, m5, m6⟩, _⟩ := box7 hp1
  rw [oil_carried]
  clear hb1 HB0
  go_wp2_with fail
  refine (vary_Fresh_tells pOil ⟨⟨⟨#[]⟩, ⟨#[]⟩⟩, ⟨⟨#[]⟩, 0, 0, 0⟩, -2, 45, 0⟩ 47 _).mono ?_
  rintro e w2 ⟨rfl, hb2⟩
  have HB2 := below_up HB1 hb2
  have hp2 := blk_up hb2 hp1
  clear m0 m1 m2 m3 m4 m5 m6
  obtain ⟨⟨m0, m1, m2, m3, m4, m5, m6⟩, _⟩ := box7 hp2
  rw [oil_fresh]
  have z2 := blk_lt hp2
  clear hb2 HB1 hp1
  go_wp2_with fail
  refine (vary_Account_tells _ _ _ _ _ 1 1 1 1 1 [pOil] [hOil] [lOil] [m50] [m47] _ (C_one (t := 23) (by repeat (first | (refine blk_at ?_; simp only [size_al, size_dr]; done) | refine blk_drew ?_ | refine blk_alloc ?_ _)) (k23_mk _ pOil)) (Nat.le_refl _) (C_one (t := 63) (by repeat (first | (refine blk_at ?_; simp only [size_al, size_dr]; done) | refine blk_drew ?_ | refine blk_alloc ?_ _)) (k63_mk _ hOil)) (Nat.le_refl _) (C_one (t := 29) (by repeat (first | (refine blk_at ?_; simp only [size_al, size_dr]; done) | refine blk_drew ?_ | refine blk_alloc ?_ _)) (k29_mk _ lOil)) (Nat.le_refl _) (C_one (t := 71) (by repeat (first | (refine blk_at ?_; simp only [size_al, size_dr]; done) | refine blk_drew ?_ | refine blk_alloc ?_ _)) (k71_mk _ m50)) (Nat.le_refl _) (C_one (t := 71) (by repeat (first | (refine blk_at ?_; simp only [size_al, size_dr]; done) | refine blk_drew ?_ | refine blk_alloc ?_ _)) (k71_mk _ m47)) (Nat.le_refl _)).mono ?_
  rintro e w3 ⟨v, rfl, hR, hb3⟩
  have HB3 := below_then (below_alloc (below_alloc (below_alloc (below_alloc (below_alloc (below_alloc HB2 _) _) _) _) _) _) (by simp only [size_al]; have := HB2.size; omega) hb3
  rw [oil_account] at hR ⊢
  obtain ⟨A, c, rfl, hc, hC⟩ := Kd.R_reads hR
  obtain ⟨ad, rfl, x0⟩ := Kd.at_int hC 0 (by omega) (by simp)
  have x1 : w3.cell? ad = some (.int .i64 (-500)) := by
    have e : ad.add (Int.toNat 0) = ad := by simp [Addr.add]
    rw [e] at x0
    exact x0
  clear hR hC hb3 HB2 m0 m1 m2 m3 m4 m5 m6 x0
  go_wp2_with fail
  go_ret
  exact ⟨rfl, HB3⟩
end Go.Proofs.Yteipjpkdlhojeaa.Q

/- The law VaryCarries: its walk. -/
namespace Go.Proofs.Yteipjpkdlhojeaa.Q
open Go.RowKit Go.Proofs.YteipjpkdlhojeaaW.PrintWords Go.Proofs.YteipjpkdlhojeaaW.PrintLast Go.Proofs.YteipjpkdlhojeaaW.PrintMore
set_option linter.unusedVariables false
set_option linter.unusedSimpArgs false
theorem box3 {w : World} {g : Nat} {t : TypeId} {x0 x1 x2 : Value} (h : w.heap[g]? = some (.cells #[x0, x1, x2] t (0, 0))) :
    (w.cell? ⟨g, 0, none⟩ = some x0 ∧ w.cell? ⟨g, 1, none⟩ = some x1 ∧ w.cell? ⟨g, 2, none⟩ = some x2) :=
  ⟨blk_cell h 0, blk_cell h 1, blk_cell h 2⟩
theorem carried_add {p : S23} {q a b c : Int} (h1 : (carried p q a b).2 = 0) (h2 : (carried p q b c).2 = 0) :
    (carried p q a c).2 = 0 ∧ (carried p q a b).1 + (carried p q b c).1 = (carried p q a c).1 := by
  unfold carried at h1 h2 ⊢
  by_cases h : productCheck p = 0
  · rw [if_neg (show ¬ productCheck p ≠ 0 by simp [h])] at h1 h2 ⊢
    rw [if_neg (show ¬ productCheck p ≠ 0 by simp [h]), if_neg (show ¬ productCheck p ≠ 0 by simp [h])]
    by_cases h3 : (a < -16777216 ∨ 16777216 < a) ∨ (b < -16777216 ∨ 16777216 < b)
    · rw [if_pos h3] at h1; simp at h1
    · rw [if_neg h3] at h1 ⊢
      by_cases h4 : (b < -16777216 ∨ 16777216 < b) ∨ (c < -16777216 ∨ 16777216 < c)
      · rw [if_pos h4] at h2; simp at h2
      · rw [if_neg h4] at h2 ⊢
        rw [if_neg (show ¬ ((a < -16777216 ∨ 16777216 < a) ∨ (c < -16777216 ∨ 16777216 < c)) by omega)]
        unfold productValue at h1 h2 ⊢
        rw [if_neg (show ¬ productCheck p ≠ 0 by simp [h])] at h1 h2
        rw [if_neg (show ¬ productCheck p ≠ 0 by simp [h]), if_neg (show ¬ productCheck p ≠ 0 by simp [h]), if_neg (show ¬ productCheck p ≠ 0 by simp [h])]
        rw [if_neg (show ¬ (b - a < -33554432 ∨ 33554432 < b - a) by omega)] at h1 ⊢
        rw [if_neg (show ¬ (c - b < -33554432 ∨ 33554432 < c - b) by omega)] at h2 ⊢
        rw [if_neg (show ¬ (c - a < -33554432 ∨ 33554432 < c - a) by omega)]
        by_cases h5 : q < -1048576 ∨ 1048576 < q
        · rw [if_pos h5] at h1; simp at h1
        · rw [if_neg h5, if_neg h5, if_neg h5]
          refine ⟨rfl, ?_⟩
          show (b - a) * p.f2 * q + (c - b) * p.f2 * q = (c - a) * p.f2 * q
          rw [← Int.add_mul, ← Int.add_mul]
          congr 2
          omega
  · rw [if_pos h] at h1; exact absurd h1 h

set_option maxHeartbeats 2000000 in
set_option maxRecDepth 100000 in
theorem VaryCarries_walk (p : S23) (x : S29) (m0 m1 m2 : Int) (hs : p.f0.size ≤ 9223372036854775807) (w : World) :
    Calls Try.prog 3 #[.agg #[.string p.f0, .int .i64 p.f1, .int .i64 p.f2, .int .i64 p.f3, .int .i64 p.f4, .int .i64 p.f5, .bool p.f6],
      .agg #[.string x.f0.f0, .string x.f0.f1, .string x.f1.f0, .int .i64 x.f1.f1, .int .i64 x.f1.f2, .int .i64 x.f1.f3, .int .i64 x.f2, .int .i64 x.f3, .int .i64 x.f4],
      .agg #[.int .i64 m0, .int .i64 m1, .int .i64 m2]] w fun e w' => e = .returned (.bool true) ∧ Below w.heap.size w w' := by
  have hu1 := Try.underlying23
  have hu2 := Try.underlying29
  go_enter Try.func3, Try.ntmps3
  have HB0 : Below w.heap.size w (((w.alloc (Obj.cells #[.string p.f0, .int .i64 p.f1, .int .i64 p.f2, .int .i64 p.f3, .int .i64 p.f4, .int .i64 p.f5, .bool p.f6] 23)).alloc (Obj.cells #[.string x.f0.f0, .string x.f0.f1, .string x.f1.f0, .int .i64 x.f1.f1, .int .i64 x.f1.f2, .int .i64 x.f1.f3, .int .i64 x.f2, .int .i64 x.f3, .int .i64 x.f4] 29)).alloc (Obj.cells #[.int .i64 m0, .int .i64 m1, .int .i64 m2] 30)) := below_alloc (below_alloc (below_alloc (Below.refl _ _) _) _) _
  have P0 : (((w.alloc (Obj.cells #[.string p.f0, .int .i64 p.f1, .int .i64 p.f2, .int .i64 p.f3, .int .i64 p.f4, .int .i64 p.f5, .bool p.f6] 23)).alloc (Obj.cells #[.string x.f0.f0, .string x.f0.f1, .string x.f1.f0, .int .i64 x.f1.f1, .int .i64 x.f1.f2, .int .i64 x.f1.f3, .int .i64 x.f2, .int .i64 x.f3, .int .i64 x.f4] 29)).alloc (Obj.cells #[.int .i64 m0, .int .i64 m1, .int .i64 m2] 30)).heap[w.heap.size]? = some (Obj.cells #[.string p.f0, .int .i64 p.f1, .int .i64 p.f2, .int .i64 p.f3, .int .i64 p.f4, .int .i64 p.f5, .bool p.f6] 23) := by repeat (first | (refine blk_at ?_; simp only [size_al, size_dr]; done) | refine blk_drew ?_ | refine blk_alloc ?_ _)
  have X0 : (((w.alloc (Obj.cells #[.string p.f0, .int .i64 p.f1, .int .i64 p.f2, .int .i64 p.f3, .int .i64 p.f4, .int .i64 p.f5, .bool p.f6] 23)).alloc (Obj.cells #[.string x.f0.f0, .string x.f0.f1, .string x.f1.f0, .int .i64 x.f1.f1, .int .i64 x.f1.f2, .int .i64 x.f1.f3, .int .i64 x.f2, .int .i64 x.f3, .int .i64 x.f4] 29)).alloc (Obj.cells #[.int .i64 m0, .int .i64 m1, .int .i64 m2] 30)).heap[w.heap.size + 1]? = some (Obj.cells #[.string x.f0.f0, .string x.f0.f1, .string x.f1.f0, .int .i64 x.f1.f1, .int .i64 x.f1.f2, .int .i64 x.f1.f3, .int .i64 x.f2, .int .i64 x.f3, .int .i64 x.f4] 29) := by repeat (first | (refine blk_at ?_; simp only [size_al, size_dr]; done) | refine blk_drew ?_ | refine blk_alloc ?_ _)
  have M0 : (((w.alloc (Obj.cells #[.string p.f0, .int .i64 p.f1, .int .i64 p.f2, .int .i64 p.f3, .int .i64 p.f4, .int .i64 p.f5, .bool p.f6] 23)).alloc (Obj.cells #[.string x.f0.f0, .string x.f0.f1, .string x.f1.f0, .int .i64 x.f1.f1, .int .i64 x.f1.f2, .int .i64 x.f1.f3, .int .i64 x.f2, .int .i64 x.f3, .int .i64 x.f4] 29)).alloc (Obj.cells #[.int .i64 m0, .int .i64 m1, .int .i64 m2] 30)).heap[w.heap.size + 1 + 1]? = some (Obj.cells #[.int .i64 m0, .int .i64 m1, .int .i64 m2] 30) := by repeat (first | (refine blk_at ?_; simp only [size_al, size_dr]; done) | refine blk_drew ?_ | refine blk_alloc ?_ _)
  go_wp2_with fail
  refine (vary_Carried_tells p x.f2 m0 m1 _).mono ?_
  rintro e w1 ⟨rfl, hb⟩
  have HB1 := below_up HB0 hb
  have P1 := blk_up hb P0
  have X1 := blk_up hb X0
  have M1 := blk_up hb M0
  obtain ⟨⟨a10, a11, a12, a13, a14, a15, a16⟩, _⟩ := box7 P1
  obtain ⟨⟨b10, b11, b12, b13, b14, b15, b16, b17, b18⟩, _⟩ := box9 X1
  obtain ⟨c10, c11, c12⟩ := box3 M1
  clear hb HB0 P0 X0 M0
  go_wp2_with fail
  refine (ref_Carried_tells p hs x.f2 m0 m1 _).mono ?_
  rintro e w2 ⟨rfl, hb⟩
  have HB2 := below_up HB1 hb
  have P2 := blk_up hb P1
  have X2 := blk_up hb X1
  have M2 := blk_up hb M1
  obtain ⟨⟨a20, a21, a22, a23, a24, a25, a26⟩, _⟩ := box7 P2
  obtain ⟨⟨b20, b21, b22, b23, b24, b25, b26, b27, b28⟩, _⟩ := box9 X2
  obtain ⟨c20, c21, c22⟩ := box3 M2
  clear hb HB1 P1 X1 M1 a10 a11 a12 a13 a14 a15 a16 b10 b11 b12 b13 b14 b15 b16 b17 b18 c10 c11 c12
  go_wp2_with fail
  refine (vary_Fresh_tells p x m0 _).mono ?_
  rintro e w3 ⟨rfl, hb⟩
  have HB3 := below_up HB2 hb
  have P3 := blk_up hb P2
  have X3 := blk_up hb X2
  have M3 := blk_up hb M2
  obtain ⟨⟨a30, a31, a32, a33, a34, a35, a36⟩, _⟩ := box7 P3
  obtain ⟨⟨b30, b31, b32, b33, b34, b35, b36, b37, b38⟩, _⟩ := box9 X3
  obtain ⟨c30, c31, c32⟩ := box3 M3
  clear hb HB2 P2 X2 M2 a20 a21 a22 a23 a24 a25 a26 b20 b21 b22 b23 b24 b25 b26 b27 b28 c20 c21 c22
  go_wp2_with fail
  refine (ref_Fresh_tells p hs x m0 _).mono ?_
  rintro e w4 ⟨rfl, hb⟩
  have HB4 := below_up HB3 hb
  have P4 := blk_up hb P3
  have X4 := blk_up hb X3
  have M4 := blk_up hb M3
  obtain ⟨⟨a40, a41, a42, a43, a44, a45, a46⟩, _⟩ := box7 P4
  obtain ⟨⟨b40, b41, b42, b43, b44, b45, b46, b47, b48⟩, _⟩ := box9 X4
  obtain ⟨c40, c41, c42⟩ := box3 M4
  clear hb HB3 P3 X3 M3 a30 a31 a32 a33 a34 a35 a36 b30 b31 b32 b33 b34 b35 b36 b37 b38 c30 c31 c32
  go_wp2_with fail
  refine (vary_Carried_tells p x.f2 m1 m2 _).mono ?_
  rintro e w5 ⟨rfl, hb⟩
  have HB5 := below_up HB4 hb
  have P5 := blk_up hb P4
  have X5 := blk_up hb X4
  have M5 := blk_up hb M4
  obtain ⟨⟨a50, a51, a52, a53, a54, a55, a56⟩, _⟩ := box7 P5
  obtain ⟨⟨b50, b51, b52, b53, b54, b55, b56, b57, b58⟩, _⟩ := box9 X5
  obtain ⟨c50, c51, c52⟩ := box3 M5
  clear hb HB4 P4 X4 M4 a40 a41 a42 a43 a44 a45 a46 b40 b41 b42 b43 b44 b45 b46 b47 b48 c40 c41 c42
  go_wp2_with fail
  refine (vary_Carried_tells p x.f2 m0 m2 _).mono ?_
  rintro e w6 ⟨rfl, hb⟩
  have HB6 := below_up HB5 hb
  have P6 := blk_up hb P5
  have X6 := blk_up hb X5
  have M6 := blk_up hb M5
  obtain ⟨⟨a60, a61, a62, a63, a64, a65, a66⟩, _⟩ := box7 P6
  obtain ⟨⟨b60, b61, b62, b63, b64, b65, b66, b67, b68⟩, _⟩ := box9 X6
  obtain ⟨c60, c61, c62⟩ := box3 M6
  clear hb HB5 P5 X5 M5 a50 a51 a52 a53 a54 a55 a56 b50 b51 b52 b53 b54 b55 b56 b57 b58 c50 c51 c52
  clear P6 X6 M6
  have hadd : (carried p x.f2 m0 m1).2 = 0 → (carried p x.f2 m1 m2).2 = 0 → (carried p x.f2 m0 m2).2 = 0 ∧ wrap64 ((carried p x.f2 m0 m1).1 + (carried p x.f2 m1 m2).1) = (carried p x.f2 m0 m2).1 := by
    intro h1 h2
    obtain ⟨h3, h4⟩ := carried_add h1 h2
    obtain ⟨_, h5, h6⟩ := carried_in h3
    exact ⟨h3, by rw [h4]; exact wrap_small (by omega) (by omega)⟩
  generalize carried p x.f2 m0 m1 = r1 at hadd ⊢
  generalize carried p x.f2 m1 m2 = r2 at hadd ⊢
  generalize carried p x.f2 m0 m2 = r3 at hadd ⊢
  by_cases h1 : r1.2 = 0
  · by_cases h2 : r2.2 = 0
    · obtain ⟨h3, h4⟩ := hadd h1 h2
      clear hadd
      go_wp2_with (go_at_call 12; refine (goes_tells _).mono ?_; rintro e w7 ⟨rfl, hb7⟩)
      go_ret
      exact ⟨rfl, below_up HB6 hb7⟩
    · clear hadd
      go_wp2_with (go_at_call 12; refine (goes_tells _).mono ?_; rintro e w7 ⟨rfl, hb7⟩)
      go_ret
      exact ⟨rfl, below_up HB6 hb7⟩
  · clear hadd
    go_wp2_with (go_at_call 12; refine (goes_tells _).mono ?_; rintro e w7 ⟨rfl, hb7⟩)
    go_ret
    exact ⟨rfl, below_up HB6 hb7⟩
end Go.Proofs.Yteipjpkdlhojeaa.Q

/- From what an argument reads as, to the cells that a walk asks for: for each type, by its kind. -/
namespace Go.Proofs.Yteipjpkdlhojeaa.Q
open Go.RowKit Go.Proofs.YteipjpkdlhojeaaW.PrintWords Go.Proofs.YteipjpkdlhojeaaW.PrintLast Go.Proofs.YteipjpkdlhojeaaW.PrintMore
set_option linter.unusedVariables false
set_option linter.unusedSimpArgs false
/-- Whatever reads as data of type t lies as an element of kind k says, and holds Q. -/
def Opens {α : Type} (P : Program) (t : TypeId) (k : Kd α) (Q : α → Prop) : Prop :=
  ∀ {H : Type} (enc : TypeId × Value → H) (w : World) (fuel : Nat) (cs : List Value) (x : DataW H × List MemPlace), DataW.trod enc P w 0 (fun _ => true) true fuel t cs = some x → ∃ y : α, k.K w y cs ∧ Q y
section
variable {P : Program} {t : TypeId} {α β : Type}
theorem opens_int {k : IntKind} (ht : P.underlying t = some (.int k)) : Opens P t (Kd.int k) (fun n => (Lit.int k n).wf = true) := by
  intro H enc w fuel cs x h
  obtain ⟨n, rfl, _, hw⟩ := DataW.trod_int ht h
  exact ⟨n, rfl, hw⟩
theorem opens_string (ht : P.underlying t = some .string) : Opens P t Kd.string (fun s => s.size ≤ 9223372036854775807) := by
  intro H enc w fuel cs x h
  obtain ⟨n, rfl, _, hw⟩ := DataW.trod_string ht h
  exact ⟨n, rfl, by unfold maxLen at hw; omega⟩
theorem opens_bool (ht : P.underlying t = some .bool) : Opens P t Kd.bool (fun _ => True) := by
  intro H enc w fuel cs x h
  obtain ⟨n, rfl, _⟩ := DataW.trod_bool ht h
  exact ⟨n, rfl, trivial⟩
theorem opens_iso {d : Kd α} {Q : α → Prop} (f : β → α) (g : α → β) (hfg : ∀ y, f (g y) = y) (ho : Opens P t d Q) : Opens P t (Kd.iso d f) (fun y => Q (f y)) := by
  intro H enc w fuel cs x h
  obtain ⟨y, hk, hq⟩ := ho enc w fuel cs x h
  refine ⟨g y, ?_, by simpa only [hfg] using hq⟩
  show d.K w (f (g y)) cs
  rw [hfg]
  exact hk
theorem addr_add (a : Addr) (i j : Nat) : (a.add i).add j = a.add (i + j) := by
  simp [Addr.add]
  (repeat' split) <;> simp_all <;> omega
theorem list_of {n : Nat} {S : Nat → α → Prop} (h : ∀ i, i < n → ∃ y, S i y) : ∃ ys : List α, ys.length = n ∧ ∀ i y, ys[i]? = some y → S i y := by
  induction n with
  | zero => exact ⟨[], rfl, fun i y hy => by simp at hy⟩
  | succ n ih =>
    obtain ⟨ys, hl, hs⟩ := ih (fun i hi => h i (by omega))
    obtain ⟨y, hy⟩ := h n (by omega)
    refine ⟨ys ++ [y], by simp [hl], fun i z hz => ?_⟩
    by_cases hi : i < n
    · rw [List.getElem?_append_left (by omega)] at hz
      exact hs i z hz
    · rw [List.getElem?_append_right (by omega)] at hz
      have : i = n := by
        have := (List.getElem?_eq_some_iff.1 hz).1
        simp at this
        omega
      subst this
      simp [hl] at hz
      subst hz
      exact hy
theorem opens_slice {e : TypeId} {k : Kd α} {Q : α → Prop} (ht : P.underlying t = some (.slice e)) (hs : P.cellsOf e = k.sz) (ho : Opens P e k Q) : Opens P t (Kd.slice e k) (fun l => ∀ y ∈ l, Q y) := by
  intro H enc w fuel cs x h
  rcases DataW.trod_slice ht h with ⟨rfl, _⟩ | ⟨a, len, cap, elems, rest, n, _, rfl, _, _, hlc, hcm, hel, hrd, _, _⟩
  · exact ⟨[], ⟨none, 0, rfl, Nat.le_refl _, Kd.C_nil _ _⟩, fun y hy => by simp at hy⟩
  · obtain ⟨ys, hl, hy⟩ := list_of (S := fun i y => (∃ c, c.length = k.sz ∧ k.K w y c ∧ ∀ j u, c[j]? = some u → w.cell? (a.add (i * k.sz + j)) = some u) ∧ Q y) (n := len) (fun i hi => by
      have hr := hrd i hi
      rw [List.getElem?_eq_getElem (by omega), hs] at hr
      obtain ⟨c, hc, htr⟩ := Option.bind_eq_some_iff.1 hr
      obtain ⟨y, hk, hq⟩ := ho enc w n c _ htr
      obtain ⟨_, hcl, hcc⟩ := World.cells?_some hc
      refine ⟨y, ⟨c, k.K_len hk, hk, fun j u hu => ?_⟩, hq⟩
      have hj := (List.getElem?_eq_some_iff.1 hu).1
      have := hcc j (by omega)
      rw [addr_add, hu] at this
      exact this)
    refine ⟨ys, ⟨some a, cap, by rw [hl], by omega, hl ▸ rfl, by unfold maxLen at hcm; omega, fun _ => ⟨a, rfl, fun j p hp => (hy j p hp).1⟩⟩, fun y hm => ?_⟩
    obtain ⟨j, hj⟩ := List.getElem?_of_mem hm
    exact (hy j y hj).2
/-- The cells before the i-th of these types. -/
def offT (P : Program) : List TypeId → Nat → Nat
  | [], _ => 0
  | _, 0 => 0
  | t :: ts, i + 1 => P.cellsOf t + offT P ts i
def OpensL (P : Program) (ts : List TypeId) (k : Kd α) (Q : α → Prop) : Prop :=
  ∀ {H : Type} (enc : TypeId × Value → H) (w : World) (m : Nat) (cs : List Value), cs.length = k.sz →
    (∀ i t, ts[i]? = some t → ∃ x, DataW.trod enc P w 0 (fun _ => true) true m t ((cs.drop (offT P ts i)).take (P.cellsOf t)) = some x) → ∃ y : α, k.K w y cs ∧ Q y
theorem opensL_one {k : Kd α} {Q : α → Prop} (ho : Opens P t k Q) (hs : P.cellsOf t = k.sz) : OpensL P [t] k Q := by
  intro H enc w m cs hl h
  obtain ⟨x, hx⟩ := h 0 t rfl
  have e : (cs.drop (offT P [t] 0)).take (P.cellsOf t) = cs := by
    simp only [offT, List.drop_zero]
    exact List.take_of_length_le (by omega)
  rw [e] at hx
  exact ho enc w m cs x hx
theorem opensL_cons {ts : List TypeId} {a : Kd α} {b : Kd β} {Qa : α → Prop} {Qb : β → Prop} (ho : Opens P t a Qa) (hs : P.cellsOf t = a.sz) (hr : OpensL P ts b Qb) :
    OpensL P (t :: ts) (Kd.pair a b) (fun y => Qa y.1 ∧ Qb y.2) := by
  intro H enc w m cs hl h
  have hl' : cs.length = a.sz + b.sz := hl
  obtain ⟨x, hx⟩ := h 0 t rfl
  simp only [offT, List.drop_zero] at hx
  obtain ⟨y, hk, hq⟩ := ho enc w m _ x hx
  obtain ⟨z, hk2, hq2⟩ := hr enc w m (cs.drop (P.cellsOf t)) (by simp; omega) (fun i u hu => by
    obtain ⟨x2, hx2⟩ := h (i + 1) u hu
    refine ⟨x2, ?_⟩
    rw [List.drop_drop]
    exact hx2)
  refine ⟨(y, z), ⟨cs.take (P.cellsOf t), cs.drop (P.cellsOf t), (List.take_append_drop _ _).symm, hk, hk2⟩, hq, hq2⟩
theorem opens_struct {fs : Array Field} {ts : List TypeId} {k : Kd α} {Q : α → Prop} (ht : P.underlying t = some (.struct fs)) (hts : fs.toList.map (·.type) = ts)
    (hof : fs.toList.map (·.offset) = (List.range ts.length).map (offT P ts)) (hs : P.cellsOf t = k.sz) (ho : OpensL P ts k Q) : Opens P t k Q := by
  intro H enc w fuel cs x h
  obtain ⟨xs, m, _, _, hl, hlen, hf⟩ := DataW.trod_struct ht h
  refine ho enc w m cs (hl.trans hs) (fun i u hu => ?_)
  subst hts
  obtain ⟨f, hfi, rfl⟩ : ∃ f, fs[i]? = some f ∧ f.type = u := by
    rw [List.getElem?_map, Array.getElem?_toList] at hu
    cases hfi : fs[i]? with
    | none => rw [hfi] at hu; simp at hu
    | some f => rw [hfi] at hu; exact ⟨f, rfl, by simpa using hu⟩
  have hi : i < fs.size := (Array.getElem?_eq_some_iff.1 hfi).1
  have hoi : f.offset = offT P (fs.toList.map (·.type)) i := by
    have := congrArg (fun l => l[i]?) hof
    simp only [List.getElem?_map, Array.getElem?_toList, hfi, Option.map_some, List.length_map, Array.length_toList, List.getElem?_range hi] at this
    exact Option.some.inj this
  have := hf i f hfi
  rw [hoi, List.getElem?_eq_getElem (by omega)] at this
  exact ⟨_, this⟩
end
end Go.Proofs.Yteipjpkdlhojeaa.Q

/- What the parameters of law20 read as, opened by their types. -/
namespace Go.Proofs.Yteipjpkdlhojeaa.Q
open Go.RowKit Go.Proofs.YteipjpkdlhojeaaW.PrintWords Go.Proofs.YteipjpkdlhojeaaW.PrintLast Go.Proofs.YteipjpkdlhojeaaW.PrintMore
set_option linter.unusedVariables false
set_option linter.unusedSimpArgs false
theorem Opens.mono {P : Program} {t : TypeId} {α : Type} {k : Kd α} {Q Q' : α → Prop} (h : Opens P t k Q) (hQ : ∀ y, Q y → Q' y) : Opens P t k Q' := by
  intro H enc w fuel cs x hx
  obtain ⟨y, hk, hq⟩ := h enc w fuel cs x hx
  exact ⟨y, hk, hQ y hq⟩
theorem oInt : Opens Try.prog 3 (Kd.int .i64) (fun n => (Lit.int .i64 n).wf = true) := opens_int Try.underlying3
theorem oStr : Opens Try.prog 9 Kd.string (fun s => s.size ≤ 9223372036854775807) := opens_string Try.underlying9
theorem oBool : Opens Try.prog 4 Kd.bool (fun _ => True) := opens_bool Try.underlying4
theorem cInt : Try.prog.cellsOf 3 = 1 := by kernel_rfl
theorem cStr : Try.prog.cellsOf 9 = 1 := by kernel_rfl
theorem cBool : Try.prog.cellsOf 4 = 1 := by kernel_rfl
theorem cAcc : Try.prog.cellsOf 25 = 2 := by kernel_rfl
theorem cSeries : Try.prog.cellsOf 27 = 4 := by kernel_rfl
theorem cProduct : Try.prog.cellsOf 23 = 7 := by kernel_rfl
theorem cLeg : Try.prog.cellsOf 29 = 9 := by kernel_rfl
theorem cPosition : Try.prog.cellsOf 63 = 6 := by kernel_rfl
theorem cMark : Try.prog.cellsOf 71 = 5 := by kernel_rfl
theorem oProduct : Opens Try.prog 23 k23 (fun p => p.f0.size ≤ 9223372036854775807) :=
  Opens.mono (opens_iso (fun x : S23 => (x.f0, x.f1, x.f2, x.f3, x.f4, x.f5, x.f6)) (fun y => ⟨y.1, y.2.1, y.2.2.1, y.2.2.2.1, y.2.2.2.2.1, y.2.2.2.2.2.1, y.2.2.2.2.2.2⟩) (fun _ => rfl)
    (opens_struct (ts := [9, 3, 3, 3, 3, 3, 4]) Try.underlying23 rfl (by kernel_rfl) cProduct
      (opensL_cons oStr cStr (opensL_cons oInt cInt (opensL_cons oInt cInt (opensL_cons oInt cInt (opensL_cons oInt cInt (opensL_cons oInt cInt (opensL_one oBool cBool))))))))) (fun _ h => h.1)
theorem oAcc : Opens Try.prog 25 k25 (fun _ => True) :=
  Opens.mono (opens_iso (fun x : S25 => (x.f0, x.f1)) (fun y => ⟨y.1, y.2⟩) (fun _ => rfl)
    (opens_struct (ts := [9, 9]) Try.underlying25 rfl (by kernel_rfl) cAcc
      (opensL_cons oStr cStr (opensL_one oStr cStr)))) (fun _ _ => trivial)
theorem oSeries : Opens Try.prog 27 k27 (fun _ => True) :=
  Opens.mono (opens_iso (fun x : S27 => (x.f0, x.f1, x.f2, x.f3)) (fun y => ⟨y.1, y.2.1, y.2.2.1, y.2.2.2⟩) (fun _ => rfl)
    (opens_struct (ts := [9, 3, 3, 3]) Try.underlying27 rfl (by kernel_rfl) cSeries
      (opensL_cons oStr cStr (opensL_cons oInt cInt (opensL_cons oInt cInt (opensL_one oInt cInt)))))) (fun _ _ => trivial)
theorem oLeg : Opens Try.prog 29 k29 (fun _ => True) :=
  Opens.mono (opens_iso (fun x : S29 => (x.f0, x.f1, x.f2, x.f3, x.f4)) (fun y => ⟨y.1, y.2.1, y.2.2.1, y.2.2.2.1, y.2.2.2.2⟩) (fun _ => rfl)
    (opens_struct (ts := [25, 27, 3, 3, 3]) Try.underlying29 rfl (by kernel_rfl) cLeg
      (opensL_cons oAcc cAcc (opensL_cons oSeries cSeries (opensL_cons oInt cInt (opensL_cons oInt cInt (opensL_one oInt cInt))))))) (fun _ _ => trivial)
theorem oPosition : Opens Try.prog 63 k63 (fun _ => True) :=
  Opens.mono (opens_iso (fun x : S63 => (x.f0, x.f1, x.f2)) (fun y => ⟨y.1, y.2.1, y.2.2⟩) (fun _ => rfl)
    (opens_struct (ts := [27, 3, 3]) Try.underlying63 rfl (by kernel_rfl) cPosition
      (opensL_cons oSeries cSeries (opensL_cons oInt cInt (opensL_one oInt cInt))))) (fun _ _ => trivial)
theorem oMark : Opens Try.prog 71 k71 (fun _ => True) :=
  Opens.mono (opens_iso (fun x : S71 => (x.f0, x.f1)) (fun y => ⟨y.1, y.2⟩) (fun _ => rfl)
    (opens_struct (ts := [27, 3]) Try.underlying71 rfl (by kernel_rfl) cMark
      (opensL_cons oSeries cSeries (opensL_one oInt cInt)))) (fun _ _ => trivial)

theorem agg_open {P : Program} {t : TypeId} {α : Type} {k : Kd α} {Q : α → Prop} (ho : Opens P t k Q) {H : Type} {enc : TypeId × Value → H} {w : World} {cs : Array Value} {d : DataW H} {p : List MemPlace}
    (h : DataW.Trod enc P w 0 (fun _ => true) true t (.agg cs) d p) : ∃ y : α, k.K w y cs.toList ∧ Q y := by
  obtain ⟨fuel, hf⟩ := h
  exact ho enc w fuel cs.toList _ hf
theorem oArr3 {H : Type} {enc : TypeId × Value → H} {w : World} {cs : Array Value} {d : DataW H} {p : List MemPlace} (h : DataW.Trod enc Try.prog w 0 (fun _ => true) true 30 (.agg cs) d p) :
    ∃ m0 m1 m2 : Int, cs = #[.int .i64 m0, .int .i64 m1, .int .i64 m2] := by
  obtain ⟨fuel, hf⟩ := h
  obtain ⟨xs, m, _, _, hl, hx, hi⟩ := DataW.trod_array Try.underlying30 hf
  have hl3 : cs.toList.length = 3 := hl.trans (by kernel_rfl)
  simp only [Value.cells] at hl hi
  have key : ∀ i, i < 3 → ∃ n, ((cs.toList.drop i).take 1) = [Value.int .i64 n] := fun i h3 => by
    have := hi i h3
    rw [cInt, Nat.mul_one, List.getElem?_eq_getElem (by omega)] at this
    obtain ⟨n, hn, _⟩ := DataW.trod_int Try.underlying3 this
    exact ⟨n, hn⟩
  obtain ⟨a, b, c, e⟩ : ∃ a b c, cs.toList = [a, b, c] := by
    match hh : cs.toList, hl3 with
    | [a, b, c], _ => exact ⟨a, b, c, rfl⟩
  obtain ⟨n0, h0⟩ := key 0 (by omega)
  obtain ⟨n1, h1⟩ := key 1 (by omega)
  obtain ⟨n2, h2⟩ := key 2 (by omega)
  rw [e] at h0 h1 h2
  simp at h0 h1 h2
  refine ⟨n0, n1, n2, ?_⟩
  rw [← h0, ← h1, ← h2]
  exact Array.toList_inj.1 e
end Go.Proofs.Yteipjpkdlhojeaa.Q
