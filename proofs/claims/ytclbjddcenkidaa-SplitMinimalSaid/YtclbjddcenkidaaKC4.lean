-- Texts of this claim, merged by the prover's program (wip/tools/trim.py); theorems that no proof uses are left out.
import Derived.Test.YtclbjddcenkidaaKC3
import Derived.Test.YtclbjddcenkidaaKC2
import Derived.Maps.StringElems
import Derived.Maps.OwnIn
import Derived.Lib.SlKeysI
import Derived.Sort.OwnSortedInts
set_option linter.unusedVariables false
set_option linter.unusedSimpArgs false
namespace Go.Proofs.Ytclbjddcenkidaa.PS
open Go.RowKit Go.Proofs.YtclbjddcenkidaaW.PrintWords Go.Proofs.YtclbjddcenkidaaW.PrintLast Go.Proofs.YtclbjddcenkidaaW.PrintMore
attribute [local go_sem] max2_int min2_int max_two min_two max_three min_three max_four min_four   -- for this text's walks alone

def qrversion_Smallest.l0 : Nat → List Int → Int → Int → Int → List (S54) → Int → Int → Option (Int × (List (S54)) × Int)
 | 0, _, _, _, _, _, _, _ => none
 | k + 1, x0, x1, x2, x10, x11, x12, x13 => if x13 ≤ 40 then ((modes_Class.f k x13).bind fun bt159 => (if bt159.1 = x10 then ((qrversion_capacity.f x13 x1).bind fun t161 => (if x12 ≤ (wrap64 (8 * t161)) then (if x2 ≤ (wrap64 ((wrap64 (8 * t161)) - x12)) then (some (x13, x11, 0)) else (qrversion_Smallest.l0 k x0 x1 x2 x10 x11 x12 (wrap64 (x13 + 1)))) else (qrversion_Smallest.l0 k x0 x1 x2 x10 x11 x12 (wrap64 (x13 + 1))))) else ((modes_Best.f k x0 bt159.1).bind fun bt162 => (if bt162.2.2 = 0 then ((qrversion_capacity.f x13 x1).bind fun t167 => (if bt162.2.1 ≤ (wrap64 (8 * t167)) then (if x2 ≤ (wrap64 ((wrap64 (8 * t167)) - bt162.2.1)) then (some (x13, bt162.1, 0)) else (qrversion_Smallest.l0 k x0 x1 x2 bt159.1 bt162.1 bt162.2.1 (wrap64 (x13 + 1)))) else (qrversion_Smallest.l0 k x0 x1 x2 bt159.1 bt162.1 bt162.2.1 (wrap64 (x13 + 1))))) else (some (0, ([] : List (S54)), bt162.2.2)))))) else (some (0, ([] : List (S54)), 16))
def qrversion_Smallest.f (k : Nat) (l0 : List Int) (a1 : Int) (a2 : Int) : Option (Int × (List (S54)) × Int) := (qrversion_level.f 1 a1).bind fun t158 => (if t158 = 0 then (if a2 < 0 then (some (0, ([] : List (S54)), 3)) else (qrversion_Smallest.l0 k l0 a1 a2 (-1) ([] : List (S54)) 0 1)) else (some (0, ([] : List (S54)), t158)))
theorem qrversion_Smallest.mono_l : ∀ k, (∀ y0 y1 y2 y3 y4 y5 y6, LeO (qrversion_Smallest.l0 k y0 y1 y2 y3 y4 y5 y6) (qrversion_Smallest.l0 (k + 1) y0 y1 y2 y3 y4 y5 y6))
 | 0 => fun _ _ _ _ _ _ _ r h => by simp [qrversion_Smallest.l0] at h
 | k + 1 => by
  have ih0 := qrversion_Smallest.mono_l k
  ·intro y0 y1 y2 y3 y4 y5 y6
   unfold qrversion_Smallest.l0
   repeat' first
   | (with_reducible exact ih0 _ _ _ _ _ _ _)
   | (with_reducible exact modes_Best.mono _ _ _)
   | (with_reducible exact modes_Class.mono _ _)
   | (with_reducible exact LeO.refl _)
   | (with_reducible exact LeO.none _)
   | (with_reducible refine LeO.ite ?_ ?_)
   | (with_reducible refine LeO.bind ?_ (fun _ => ?_))
   | exact ih0 _ _ _ _ _ _ _
   | exact modes_Best.mono _ _ _
   | exact modes_Class.mono _ _
   | exact LeO.none _
   | refine LeO.ite ?_ ?_
   | refine LeO.bind ?_ (fun _ => ?_)
theorem qrversion_Smallest.mono : ∀ a0 a1 a2 k, LeO (qrversion_Smallest.f k a0 a1 a2) (qrversion_Smallest.f (k + 1) a0 a1 a2) := by
 intro a0 a1 a2 k
 have ih0 := qrversion_Smallest.mono_l k
 unfold qrversion_Smallest.f
 repeat' first
   | (with_reducible exact ih0 _ _ _ _ _ _ _)
   | (with_reducible exact modes_Best.mono _ _ _)
   | (with_reducible exact modes_Class.mono _ _)
   | (with_reducible exact LeO.refl _)
   | (with_reducible exact LeO.none _)
   | (with_reducible refine LeO.ite ?_ ?_)
   | (with_reducible refine LeO.bind ?_ (fun _ => ?_))
   | exact ih0 _ _ _ _ _ _ _
   | exact modes_Best.mono _ _ _
   | exact modes_Class.mono _ _
   | exact LeO.none _
   | refine LeO.ite ?_ ?_
   | refine LeO.bind ?_ (fun _ => ?_)
set_option maxHeartbeats 8000000 in
set_option maxRecDepth 100000 in
theorem qrversion_Smallest.calls (k : Nat) (A0 : Option Addr) (c0 : Nat) (l0 : List Int) (a1 : Int) (a2 : Int) (r1 : Int) (r2 : List (S54)) (r3 : Int) (w : World) (hr0 : Kd.C (Kd.int .u8) w A0 l0.length l0) (hc0 : l0.length ≤ c0) (h : qrversion_Smallest.f k l0 a1 a2 = some (r1, r2, r3)) :
  Calls Try.prog 34 #[.slice A0 l0.length c0, .int .i64 a1, .int .i64 a2] w fun e w' => ∃ v1_ : Value, e = .returned (.tuple #[.int .i64 r1, v1_, .int .i64 r3]) ∧ Kd.N k54 54 w' w.heap.size (fun k_ => (w.heap.size ≤ k_)) v1_ r2 ∧ Below w.heap.size w w' := by
 have HR0 := Aside0.mk hr0
 have HC0 := Aside0.mk hc0
 clear hr0 hc0
 have HB := Aside0.mk (Below.refl w.heap.size w)
 have H : ((qrversion_level.f 1 a1).bind fun t158 => (if t158 = 0 then (if a2 < 0 then (some (0, ([] : List (S54)), 3)) else (qrversion_Smallest.l0 k l0 a1 a2 (-1) ([] : List (S54)) 0 1)) else (some (0, ([] : List (S54)), t158)))) = some (r1, r2, r3) := h
 clear h
 replace H := Option.bind_eq_some_iff.mp H
 obtain ⟨t158, A40, H⟩ := H
 replace H : (if t158 = 0 then (if a2 < 0 then (some (0, ([] : List (S54)), 3)) else (qrversion_Smallest.l0 k l0 a1 a2 (-1) ([] : List (S54)) 0 1)) else (some (0, ([] : List (S54)), t158))) = some (r1, r2, r3) := H
 have A4 := Aside0.mk A40
 clear A40
 by_cases c5 : t158 = 0
 ·rw [if_pos c5] at H
  have c5b0 : (t158 == 0) = true := beq_iff_eq.mpr c5
  have c5b1 : (t158 != 0) = false := bne_eq_false_iff_eq.mpr c5
  clear c5
  by_cases c6 : a2 < 0
  ·rw [if_pos c6] at H
   have c6b0 : decide (a2 < 0) = true := decide_eq_true c6
   clear c6
   simp only [Option.some.injEq, Prod.mk.injEq] at H
   obtain ⟨rfl, rfl, rfl⟩ := H
   go_enter Try.func34, Try.ntmps34
   go_wp2_with (first | ((with_reducible refine gate_callee (f := 32) rfl ?_); refine goesL_ (some 21) rfl rfl Try.func32 (by kernel_rfl) rfl #[.int .i64 1, .int .i64 a1] rfl (by (try simp only [List.map_toArray, List.map_cons, List.map_nil]); first | done | rfl | (simp only [List.length_drop, List.length_take]; rfl)) ?_; (with_reducible refine (qrversion_level.calls 1 a1 t158 _ A4.out).mono ?_); rintro e w' ⟨rfl, ⟨nd, rfl⟩⟩; refine ⟨_, rfl, ?_⟩))
   go_ret3
   exact ⟨_, by first | rfl | (simp [errW_none, errW_some] <;> rfl) | (simp [*, errW_none, errW_some] <;> rfl), by first | exact Kd.S_nil _ _ _ _ _ | exact Kd.N_nil _ _ _ _ _ | exact Kd.V_nil _ _ _ _ _ | exact Kd.Q_nil _ _ _ _ _ | exact Kd.R_nil _ _ _ _ _, by repeat (first | (with_reducible first | exact HB.out | apply below_alloc | apply pw_below_drewN | apply below_drew1) | exact HB.out)⟩
  ·rw [if_neg c6] at H
   have c6b0 : decide (a2 < 0) = false := decide_eq_false c6
   clear c6
   have H' := Aside0.mk H
   clear H
   go_enter Try.func34, Try.ntmps34
   go_wp2_with (first | ((with_reducible refine gate_callee (f := 32) rfl ?_); refine goesL_ (some 21) rfl rfl Try.func32 (by kernel_rfl) rfl #[.int .i64 1, .int .i64 a1] rfl (by (try simp only [List.map_toArray, List.map_cons, List.map_nil]); first | done | rfl | (simp only [List.length_drop, List.length_take]; rfl)) ?_; (with_reducible refine (qrversion_level.calls 1 a1 t158 _ A4.out).mono ?_); rintro e w' ⟨rfl, ⟨nd, rfl⟩⟩; refine ⟨_, rfl, ?_⟩))
   go_loopg [10, 11, 12, 13] k (fun kq v10 v11 v12 v13 w' => ∃ (x10_1 : Int) (x11_1 : List (S54)) (x12_1 : Int) (x13_1 : Int), v10 = .int .i64 x10_1 ∧ v12 = .int .i64 x12_1 ∧ v13 = .int .i64 x13_1 ∧ Aside0 (qrversion_Smallest.l0 kq l0 a1 a2 x10_1 x11_1 x12_1 x13_1 = some (r1, r2, r3)) ∧ Aside0 (kq ≤ k) ∧ Aside0 (Kd.N k54 54 w' w.heap.size (fun k_ => (w.heap.size ≤ k_)) v11 x11_1) ∧ Aside0 (Below w.heap.size w w'))
   case atStart => exact ⟨((-1)), (([] : List (S54))), (0), (1), (by first | rfl | (simp; done) | (simp [*]; done)), (by first | rfl | (simp; done) | (simp [*]; done)), (by first | rfl | (simp; done) | (simp [*]; done)), H', ⟨Nat.le_refl _⟩, ⟨by first | exact Kd.S_nil _ _ _ _ _ | exact Kd.N_nil _ _ _ _ _ | exact Kd.V_nil _ _ _ _ _ | exact Kd.Q_nil _ _ _ _ _ | exact Kd.R_nil _ _ _ _ _⟩, ⟨by repeat (first | (with_reducible first | exact HB.out | apply below_alloc | apply pw_below_drewN | apply below_drew1) | exact HB.out)⟩⟩
   case round =>
    clear H'
    try clear p2
    try clear c3
    try clear c5
    try clear c5b0
    try clear c5b1
    try clear c6
    try clear c6b0
    obtain ⟨x10_1, x11_1, x12_1, x13_1, rfl, rfl, rfl, HA, HK1, HO_11, HB⟩ := hrel
    cases gk with
    | zero => exact absurd HA.out (by simp [qrversion_Smallest.l0])
    | succ k1 =>
     have H := HA.out
     clear HA
     simp only [qrversion_Smallest.l0] at H
     by_cases c7 : x13_1 ≤ 40
     ·rw [if_pos c7] at H
      have c7b0 : decide (x13_1 ≤ 40) = true := decide_eq_true c7
      clear c7
      replace H := Option.bind_eq_some_iff.mp H
      obtain ⟨⟨t159, t160⟩, A80, H⟩ := H
      replace H : (if t159 = x10_1 then ((qrversion_capacity.f x13_1 a1).bind fun t161 => (if x12_1 ≤ (wrap64 (8 * t161)) then (if a2 ≤ (wrap64 ((wrap64 (8 * t161)) - x12_1)) then (some (x13_1, x11_1, 0)) else (qrversion_Smallest.l0 k1 l0 a1 a2 x10_1 x11_1 x12_1 (wrap64 (x13_1 + 1)))) else (qrversion_Smallest.l0 k1 l0 a1 a2 x10_1 x11_1 x12_1 (wrap64 (x13_1 + 1))))) else ((modes_Best.f k1 l0 t159).bind fun bt162 => (if bt162.2.2 = 0 then ((qrversion_capacity.f x13_1 a1).bind fun t167 => (if bt162.2.1 ≤ (wrap64 (8 * t167)) then (if a2 ≤ (wrap64 ((wrap64 (8 * t167)) - bt162.2.1)) then (some (x13_1, bt162.1, 0)) else (qrversion_Smallest.l0 k1 l0 a1 a2 t159 bt162.1 bt162.2.1 (wrap64 (x13_1 + 1)))) else (qrversion_Smallest.l0 k1 l0 a1 a2 t159 bt162.1 bt162.2.1 (wrap64 (x13_1 + 1))))) else (some (0, ([] : List (S54)), bt162.2.2))))) = some (r1, r2, r3) := H
      have A8 := Aside0.mk A80
      clear A80
      by_cases c9 : t159 = x10_1
      ·rw [if_pos c9] at H
       have c9b0 : (t159 == x10_1) = true := beq_iff_eq.mpr c9
       have c9b1 : (t159 != x10_1) = false := bne_eq_false_iff_eq.mpr c9
       clear c9
       replace H := Option.bind_eq_some_iff.mp H
       obtain ⟨t161, A100, H⟩ := H
       replace H : (if x12_1 ≤ (wrap64 (8 * t161)) then (if a2 ≤ (wrap64 ((wrap64 (8 * t161)) - x12_1)) then (some (x13_1, x11_1, 0)) else (qrversion_Smallest.l0 k1 l0 a1 a2 x10_1 x11_1 x12_1 (wrap64 (x13_1 + 1)))) else (qrversion_Smallest.l0 k1 l0 a1 a2 x10_1 x11_1 x12_1 (wrap64 (x13_1 + 1)))) = some (r1, r2, r3) := H
       have A10 := Aside0.mk A100
       clear A100
       by_cases c11 : x12_1 ≤ (wrap64 (8 * t161))
       ·rw [if_pos c11] at H
        have c11b0 : decide (x12_1 ≤ (wrap64 (8 * t161))) = true := decide_eq_true c11
        clear c11
        by_cases c12 : a2 ≤ (wrap64 ((wrap64 (8 * t161)) - x12_1))
        ·rw [if_pos c12] at H
         have c12b0 : decide (a2 ≤ (wrap64 ((wrap64 (8 * t161)) - x12_1))) = true := decide_eq_true c12
         clear c12
         simp only [Option.some.injEq, Prod.mk.injEq] at H
         obtain ⟨rfl, rfl, rfl⟩ := H
         go_wp2_with (first | ((with_reducible refine gate_callee (f := 47) rfl ?_); refine goesL_ (some 33) rfl rfl Try.func47 (by kernel_rfl) rfl #[.int .i64 x13_1] rfl (by (try simp only [List.map_toArray, List.map_cons, List.map_nil]); first | done | rfl | (simp only [List.length_drop, List.length_take]; rfl)) ?_; (with_reducible refine (modes_Class.calls k1 x13_1 t159 t160 _ A8.out).mono ?_); rintro e w' ⟨rfl, ⟨nd, rfl⟩⟩; refine ⟨_, rfl, ?_⟩) | ((with_reducible refine gate_callee (f := 33) rfl ?_); refine goesL_ (some 54) rfl rfl Try.func33 (by kernel_rfl) rfl #[.int .i64 x13_1, .int .i64 a1] rfl (by (try simp only [List.map_toArray, List.map_cons, List.map_nil]); first | done | rfl | (simp only [List.length_drop, List.length_take]; rfl)) ?_; (with_reducible refine (qrversion_capacity.calls x13_1 a1 t161 _ A10.out).mono ?_); rintro e w13 ⟨rfl, hb⟩; refine ⟨_, rfl, ?_⟩; have n0_ := Aside0.mk (Kd.N_below (by (with_reducible repeat (first | apply Kd.N_alloc | apply Kd.N_drewN | apply Kd.N_drew)); exact HO_11.out) hb); have n1_ := Aside0.mk (below_step (by repeat (first | (with_reducible first | exact HB.out | apply below_alloc | apply pw_below_drewN | apply below_drew1) | exact HB.out)) hb); clear HO_11; clear HB; have HO_11 := n0_; have HB := n1_; clear n0_ n1_; (try clear hb); (try clear hb2); (try clear hk); (try clear hi)))
         go_ret3
         exact ⟨_, by first | rfl | (simp [errW_none, errW_some] <;> rfl) | (simp [*, errW_none, errW_some] <;> rfl), by (with_reducible repeat (first | apply Kd.N_alloc | apply Kd.N_drewN | apply Kd.N_drew)); exact HO_11.out, by repeat (first | (with_reducible first | exact HB.out | apply below_alloc | apply pw_below_drewN | apply below_drew1) | exact HB.out)⟩
        ·rw [if_neg c12] at H
         have c12b0 : decide (a2 ≤ (wrap64 ((wrap64 (8 * t161)) - x12_1))) = false := decide_eq_false c12
         clear c12
         have H' := Aside0.mk H
         clear H
         go_wp2_with (first | ((with_reducible refine gate_callee (f := 47) rfl ?_); refine goesL_ (some 33) rfl rfl Try.func47 (by kernel_rfl) rfl #[.int .i64 x13_1] rfl (by (try simp only [List.map_toArray, List.map_cons, List.map_nil]); first | done | rfl | (simp only [List.length_drop, List.length_take]; rfl)) ?_; (with_reducible refine (modes_Class.calls k1 x13_1 t159 t160 _ A8.out).mono ?_); rintro e w' ⟨rfl, ⟨nd, rfl⟩⟩; refine ⟨_, rfl, ?_⟩) | ((with_reducible refine gate_callee (f := 33) rfl ?_); refine goesL_ (some 54) rfl rfl Try.func33 (by kernel_rfl) rfl #[.int .i64 x13_1, .int .i64 a1] rfl (by (try simp only [List.map_toArray, List.map_cons, List.map_nil]); first | done | rfl | (simp only [List.length_drop, List.length_take]; rfl)) ?_; (with_reducible refine (qrversion_capacity.calls x13_1 a1 t161 _ A10.out).mono ?_); rintro e w14 ⟨rfl, hb⟩; refine ⟨_, rfl, ?_⟩; have n0_ := Aside0.mk (Kd.N_below (by (with_reducible repeat (first | apply Kd.N_alloc | apply Kd.N_drewN | apply Kd.N_drew)); exact HO_11.out) hb); have n1_ := Aside0.mk (below_step (by repeat (first | (with_reducible first | exact HB.out | apply below_alloc | apply pw_below_drewN | apply below_drew1) | exact HB.out)) hb); clear HO_11; clear HB; have HO_11 := n0_; have HB := n1_; clear n0_ n1_; (try clear hb); (try clear hb2); (try clear hk); (try clear hi)))
         go_roundg k1
         case measure => have := HK1.out; omega
         case rel => exact ⟨(x10_1), (x11_1), (x12_1), (wrap64 (x13_1 + 1)), (by first | rfl | (simp; done) | (simp [*]; done)), (by first | rfl | (simp; done) | (simp [*]; done)), (by first | rfl | (simp; done) | (simp [*]; done)), H', ⟨by have := HK1.out; omega⟩, ⟨by (with_reducible repeat (first | apply Kd.N_alloc | apply Kd.N_drewN | apply Kd.N_drew)); exact HO_11.out⟩, ⟨by repeat (first | (with_reducible first | exact HB.out | apply below_alloc | apply pw_below_drewN | apply below_drew1) | exact HB.out)⟩⟩
       ·rw [if_neg c11] at H
        have c11b0 : decide (x12_1 ≤ (wrap64 (8 * t161))) = false := decide_eq_false c11
        clear c11
        have H' := Aside0.mk H
        clear H
        go_wp2_with (first | ((with_reducible refine gate_callee (f := 47) rfl ?_); refine goesL_ (some 33) rfl rfl Try.func47 (by kernel_rfl) rfl #[.int .i64 x13_1] rfl (by (try simp only [List.map_toArray, List.map_cons, List.map_nil]); first | done | rfl | (simp only [List.length_drop, List.length_take]; rfl)) ?_; (with_reducible refine (modes_Class.calls k1 x13_1 t159 t160 _ A8.out).mono ?_); rintro e w' ⟨rfl, ⟨nd, rfl⟩⟩; refine ⟨_, rfl, ?_⟩) | ((with_reducible refine gate_callee (f := 33) rfl ?_); refine goesL_ (some 54) rfl rfl Try.func33 (by kernel_rfl) rfl #[.int .i64 x13_1, .int .i64 a1] rfl (by (try simp only [List.map_toArray, List.map_cons, List.map_nil]); first | done | rfl | (simp only [List.length_drop, List.length_take]; rfl)) ?_; (with_reducible refine (qrversion_capacity.calls x13_1 a1 t161 _ A10.out).mono ?_); rintro e w15 ⟨rfl, hb⟩; refine ⟨_, rfl, ?_⟩; have n0_ := Aside0.mk (Kd.N_below (by (with_reducible repeat (first | apply Kd.N_alloc | apply Kd.N_drewN | apply Kd.N_drew)); exact HO_11.out) hb); have n1_ := Aside0.mk (below_step (by repeat (first | (with_reducible first | exact HB.out | apply below_alloc | apply pw_below_drewN | apply below_drew1) | exact HB.out)) hb); clear HO_11; clear HB; have HO_11 := n0_; have HB := n1_; clear n0_ n1_; (try clear hb); (try clear hb2); (try clear hk); (try clear hi)))
        go_roundg k1
        case measure => have := HK1.out; omega
        case rel => exact ⟨(x10_1), (x11_1), (x12_1), (wrap64 (x13_1 + 1)), (by first | rfl | (simp; done) | (simp [*]; done)), (by first | rfl | (simp; done) | (simp [*]; done)), (by first | rfl | (simp; done) | (simp [*]; done)), H', ⟨by have := HK1.out; omega⟩, ⟨by (with_reducible repeat (first | apply Kd.N_alloc | apply Kd.N_drewN | apply Kd.N_drew)); exact HO_11.out⟩, ⟨by repeat (first | (with_reducible first | exact HB.out | apply below_alloc | apply pw_below_drewN | apply below_drew1) | exact HB.out)⟩⟩
      ·rw [if_neg c9] at H
       have c9b0 : (t159 == x10_1) = false := beq_eq_false_iff_ne.mpr c9
       have c9b1 : (t159 != x10_1) = true := bne_iff_ne.mpr c9
       replace H := Option.bind_eq_some_iff.mp H
       obtain ⟨⟨t162, t165, t166⟩, A160, H⟩ := H
       replace H : (if t166 = 0 then ((qrversion_capacity.f x13_1 a1).bind fun t167 => (if t165 ≤ (wrap64 (8 * t167)) then (if a2 ≤ (wrap64 ((wrap64 (8 * t167)) - t165)) then (some (x13_1, t162, 0)) else (qrversion_Smallest.l0 k1 l0 a1 a2 t159 t162 t165 (wrap64 (x13_1 + 1)))) else (qrversion_Smallest.l0 k1 l0 a1 a2 t159 t162 t165 (wrap64 (x13_1 + 1))))) else (some (0, ([] : List (S54)), t166))) = some (r1, r2, r3) := H
       have A16 := Aside0.mk A160
       clear A160
       by_cases c17 : t166 = 0
       ·rw [if_pos c17] at H
        have c17b0 : (t166 == 0) = true := beq_iff_eq.mpr c17
        have c17b1 : (t166 != 0) = false := bne_eq_false_iff_eq.mpr c17
        clear c17
        replace H := Option.bind_eq_some_iff.mp H
        obtain ⟨t167, A180, H⟩ := H
        replace H : (if t165 ≤ (wrap64 (8 * t167)) then (if a2 ≤ (wrap64 ((wrap64 (8 * t167)) - t165)) then (some (x13_1, t162, 0)) else (qrversion_Smallest.l0 k1 l0 a1 a2 t159 t162 t165 (wrap64 (x13_1 + 1)))) else (qrversion_Smallest.l0 k1 l0 a1 a2 t159 t162 t165 (wrap64 (x13_1 + 1)))) = some (r1, r2, r3) := H
        have A18 := Aside0.mk A180
        clear A180
        by_cases c19 : t165 ≤ (wrap64 (8 * t167))
        ·rw [if_pos c19] at H
         have c19b0 : decide (t165 ≤ (wrap64 (8 * t167))) = true := decide_eq_true c19
         clear c19
         by_cases c20 : a2 ≤ (wrap64 ((wrap64 (8 * t167)) - t165))
         ·rw [if_pos c20] at H
          have c20b0 : decide (a2 ≤ (wrap64 ((wrap64 (8 * t167)) - t165))) = true := decide_eq_true c20
          clear c20
          simp only [Option.some.injEq, Prod.mk.injEq] at H
          obtain ⟨rfl, rfl, rfl⟩ := H
          go_wp2_with (first | ((with_reducible refine gate_callee (f := 47) rfl ?_); refine goesL_ (some 33) rfl rfl Try.func47 (by kernel_rfl) rfl #[.int .i64 x13_1] rfl (by (try simp only [List.map_toArray, List.map_cons, List.map_nil]); first | done | rfl | (simp only [List.length_drop, List.length_take]; rfl)) ?_; (with_reducible refine (modes_Class.calls k1 x13_1 t159 t160 _ A8.out).mono ?_); rintro e w' ⟨rfl, ⟨nd, rfl⟩⟩; refine ⟨_, rfl, ?_⟩) | ((with_reducible refine gate_callee (f := 48) rfl ?_); refine goesL_ (some 43) rfl rfl Try.func48 (by kernel_rfl) rfl #[.slice A0 l0.length c0, .int .i64 t159] rfl (by (try simp only [List.map_toArray, List.map_cons, List.map_nil]); first | done | rfl | (simp only [List.length_drop, List.length_take]; rfl)) ?_; (with_reducible refine (modes_Best.calls k1 _ _ l0 t159 t162 t165 t166 _ ?side1 ?side2 A16.out).mono ?_); (case side1 => repeat (first | exact (Kd.C_below HR0.out (by repeat (first | (with_reducible first | exact HB.out | apply below_alloc | apply pw_below_drewN | apply below_drew1) | exact HB.out))) | (with_reducible refine Kd.C_alloc ?_ _) | (with_reducible refine Kd.C_drewN ?_ _) | (with_reducible refine Kd.C_drew ?_))); (case side2 => exact HC0.out); rintro e w21 ⟨v163, rfl, ho0, hb⟩; refine ⟨_, rfl, ?_⟩; have n0_ := Aside0.mk (Kd.N_elder' (by (with_reducible repeat (first | apply Kd.N_alloc | apply Kd.N_drewN | apply Kd.N_drew)); exact HO_11.out) (Kd.N_base ho0) hb); have n1_ := Aside0.mk (Kd.N_lower (Kd.N_mono (ok' := fun k_ => (w.heap.size ≤ k_) ∧ some k_ ≠ (u11 : Value).ownBlock) ho0 (fun k_ hk_ => ⟨(Nat.le_trans (below_size (by repeat (first | (with_reducible first | exact HB.out | apply below_alloc | apply pw_below_drewN | apply below_drew1) | exact HB.out))) hk_), (Kd.fresh' (Kd.N_lt (by (with_reducible repeat (first | apply Kd.N_alloc | apply Kd.N_drewN | apply Kd.N_drew)); exact HO_11.out)) k_ hk_)⟩)) (below_size (by repeat (first | (with_reducible first | exact HB.out | apply below_alloc | apply pw_below_drewN | apply below_drew1) | exact HB.out)))); have n2_ := Aside0.mk (below_step (by repeat (first | (with_reducible first | exact HB.out | apply below_alloc | apply pw_below_drewN | apply below_drew1) | exact HB.out)) hb); clear HO_11; clear HB; have HO_11 := n0_; have HO164 := n1_; have HB := n2_; clear n0_ n1_ n2_; (try clear hb); (try clear hb2); (try clear hk); (try clear hi); (try clear ho0)) | ((with_reducible refine gate_callee (f := 33) rfl ?_); refine goesL_ (some 54) rfl rfl Try.func33 (by kernel_rfl) rfl #[.int .i64 x13_1, .int .i64 a1] rfl (by (try simp only [List.map_toArray, List.map_cons, List.map_nil]); first | done | rfl | (simp only [List.length_drop, List.length_take]; rfl)) ?_; (with_reducible refine (qrversion_capacity.calls x13_1 a1 t167 _ A18.out).mono ?_); rintro e w22 ⟨rfl, hb⟩; refine ⟨_, rfl, ?_⟩; have n0_ := Aside0.mk (Kd.N_below (by (with_reducible repeat (first | apply Kd.N_alloc | apply Kd.N_drewN | apply Kd.N_drew)); exact HO_11.out) hb); have n1_ := Aside0.mk (Kd.N_below (by (with_reducible repeat (first | apply Kd.N_alloc | apply Kd.N_drewN | apply Kd.N_drew)); exact HO164.out) hb); have n2_ := Aside0.mk (below_step (by repeat (first | (with_reducible first | exact HB.out | apply below_alloc | apply pw_below_drewN | apply below_drew1) | exact HB.out)) hb); clear HO_11; clear HO164; clear HB; have HO_11 := n0_; have HO164 := n1_; have HB := n2_; clear n0_ n1_ n2_; (try clear hb); (try clear hb2); (try clear hk); (try clear hi)))
          go_ret3
          exact ⟨_, by first | rfl | (simp [errW_none, errW_some] <;> rfl) | (simp [*, errW_none, errW_some] <;> rfl), by (with_reducible repeat (first | apply Kd.N_alloc | apply Kd.N_drewN | apply Kd.N_drew)); exact Kd.N_mono HO164.out (fun _ hk => hk.1), by repeat (first | (with_reducible first | exact HB.out | apply below_alloc | apply pw_below_drewN | apply below_drew1) | exact HB.out)⟩
         ·rw [if_neg c20] at H
          have c20b0 : decide (a2 ≤ (wrap64 ((wrap64 (8 * t167)) - t165))) = false := decide_eq_false c20
          clear c20
          have H' := Aside0.mk H
          clear H
          go_wp2_with (first | ((with_reducible refine gate_callee (f := 47) rfl ?_); refine goesL_ (some 33) rfl rfl Try.func47 (by kernel_rfl) rfl #[.int .i64 x13_1] rfl (by (try simp only [List.map_toArray, List.map_cons, List.map_nil]); first | done | rfl | (simp only [List.length_drop, List.length_take]; rfl)) ?_; (with_reducible refine (modes_Class.calls k1 x13_1 t159 t160 _ A8.out).mono ?_); rintro e w' ⟨rfl, ⟨nd, rfl⟩⟩; refine ⟨_, rfl, ?_⟩) | ((with_reducible refine gate_callee (f := 48) rfl ?_); refine goesL_ (some 43) rfl rfl Try.func48 (by kernel_rfl) rfl #[.slice A0 l0.length c0, .int .i64 t159] rfl (by (try simp only [List.map_toArray, List.map_cons, List.map_nil]); first | done | rfl | (simp only [List.length_drop, List.length_take]; rfl)) ?_; (with_reducible refine (modes_Best.calls k1 _ _ l0 t159 t162 t165 t166 _ ?side1 ?side2 A16.out).mono ?_); (case side1 => repeat (first | exact (Kd.C_below HR0.out (by repeat (first | (with_reducible first | exact HB.out | apply below_alloc | apply pw_below_drewN | apply below_drew1) | exact HB.out))) | (with_reducible refine Kd.C_alloc ?_ _) | (with_reducible refine Kd.C_drewN ?_ _) | (with_reducible refine Kd.C_drew ?_))); (case side2 => exact HC0.out); rintro e w23 ⟨v163, rfl, ho0, hb⟩; refine ⟨_, rfl, ?_⟩; have n0_ := Aside0.mk (Kd.N_elder' (by (with_reducible repeat (first | apply Kd.N_alloc | apply Kd.N_drewN | apply Kd.N_drew)); exact HO_11.out) (Kd.N_base ho0) hb); have n1_ := Aside0.mk (Kd.N_lower (Kd.N_mono (ok' := fun k_ => (w.heap.size ≤ k_) ∧ some k_ ≠ (u11 : Value).ownBlock) ho0 (fun k_ hk_ => ⟨(Nat.le_trans (below_size (by repeat (first | (with_reducible first | exact HB.out | apply below_alloc | apply pw_below_drewN | apply below_drew1) | exact HB.out))) hk_), (Kd.fresh' (Kd.N_lt (by (with_reducible repeat (first | apply Kd.N_alloc | apply Kd.N_drewN | apply Kd.N_drew)); exact HO_11.out)) k_ hk_)⟩)) (below_size (by repeat (first | (with_reducible first | exact HB.out | apply below_alloc | apply pw_below_drewN | apply below_drew1) | exact HB.out)))); have n2_ := Aside0.mk (below_step (by repeat (first | (with_reducible first | exact HB.out | apply below_alloc | apply pw_below_drewN | apply below_drew1) | exact HB.out)) hb); clear HO_11; clear HB; have HO_11 := n0_; have HO164 := n1_; have HB := n2_; clear n0_ n1_ n2_; (try clear hb); (try clear hb2); (try clear hk); (try clear hi); (try clear ho0)) | ((with_reducible refine gate_callee (f := 33) rfl ?_); refine goesL_ (some 54) rfl rfl Try.func33 (by kernel_rfl) rfl #[.int .i64 x13_1, .int .i64 a1] rfl (by (try simp only [List.map_toArray, List.map_cons, List.map_nil]); first | done | rfl | (simp only [List.length_drop, List.length_take]; rfl)) ?_; (with_reducible refine (qrversion_capacity.calls x13_1 a1 t167 _ A18.out).mono ?_); rintro e w24 ⟨rfl, hb⟩; refine ⟨_, rfl, ?_⟩; have n0_ := Aside0.mk (Kd.N_below (by (with_reducible repeat (first | apply Kd.N_alloc | apply Kd.N_drewN | apply Kd.N_drew)); exact HO_11.out) hb); have n1_ := Aside0.mk (Kd.N_below (by (with_reducible repeat (first | apply Kd.N_alloc | apply Kd.N_drewN | apply Kd.N_drew)); exact HO164.out) hb); have n2_ := Aside0.mk (below_step (by repeat (first | (with_reducible first | exact HB.out | apply below_alloc | apply pw_below_drewN | apply below_drew1) | exact HB.out)) hb); clear HO_11; clear HO164; clear HB; have HO_11 := n0_; have HO164 := n1_; have HB := n2_; clear n0_ n1_ n2_; (try clear hb); (try clear hb2); (try clear hk); (try clear hi)))
          go_roundg k1
          case measure => have := HK1.out; omega
          case rel => exact ⟨(t159), (t162), (t165), (wrap64 (x13_1 + 1)), (by first | rfl | (simp; done) | (simp [*]; done)), (by first | rfl | (simp; done) | (simp [*]; done)), (by first | rfl | (simp; done) | (simp [*]; done)), H', ⟨by have := HK1.out; omega⟩, ⟨by (with_reducible repeat (first | apply Kd.N_alloc | apply Kd.N_drewN | apply Kd.N_drew)); exact Kd.N_mono HO164.out (fun _ hk => hk.1)⟩, ⟨by repeat (first | (with_reducible first | exact HB.out | apply below_alloc | apply pw_below_drewN | apply below_drew1) | exact HB.out)⟩⟩
        ·rw [if_neg c19] at H
         have c19b0 : decide (t165 ≤ (wrap64 (8 * t167))) = false := decide_eq_false c19
         clear c19
         have H' := Aside0.mk H
         clear H
         go_wp2_with (first | ((with_reducible refine gate_callee (f := 47) rfl ?_); refine goesL_ (some 33) rfl rfl Try.func47 (by kernel_rfl) rfl #[.int .i64 x13_1] rfl (by (try simp only [List.map_toArray, List.map_cons, List.map_nil]); first | done | rfl | (simp only [List.length_drop, List.length_take]; rfl)) ?_; (with_reducible refine (modes_Class.calls k1 x13_1 t159 t160 _ A8.out).mono ?_); rintro e w' ⟨rfl, ⟨nd, rfl⟩⟩; refine ⟨_, rfl, ?_⟩) | ((with_reducible refine gate_callee (f := 48) rfl ?_); refine goesL_ (some 43) rfl rfl Try.func48 (by kernel_rfl) rfl #[.slice A0 l0.length c0, .int .i64 t159] rfl (by (try simp only [List.map_toArray, List.map_cons, List.map_nil]); first | done | rfl | (simp only [List.length_drop, List.length_take]; rfl)) ?_; (with_reducible refine (modes_Best.calls k1 _ _ l0 t159 t162 t165 t166 _ ?side1 ?side2 A16.out).mono ?_); (case side1 => repeat (first | exact (Kd.C_below HR0.out (by repeat (first | (with_reducible first | exact HB.out | apply below_alloc | apply pw_below_drewN | apply below_drew1) | exact HB.out))) | (with_reducible refine Kd.C_alloc ?_ _) | (with_reducible refine Kd.C_drewN ?_ _) | (with_reducible refine Kd.C_drew ?_))); (case side2 => exact HC0.out); rintro e w25 ⟨v163, rfl, ho0, hb⟩; refine ⟨_, rfl, ?_⟩; have n0_ := Aside0.mk (Kd.N_elder' (by (with_reducible repeat (first | apply Kd.N_alloc | apply Kd.N_drewN | apply Kd.N_drew)); exact HO_11.out) (Kd.N_base ho0) hb); have n1_ := Aside0.mk (Kd.N_lower (Kd.N_mono (ok' := fun k_ => (w.heap.size ≤ k_) ∧ some k_ ≠ (u11 : Value).ownBlock) ho0 (fun k_ hk_ => ⟨(Nat.le_trans (below_size (by repeat (first | (with_reducible first | exact HB.out | apply below_alloc | apply pw_below_drewN | apply below_drew1) | exact HB.out))) hk_), (Kd.fresh' (Kd.N_lt (by (with_reducible repeat (first | apply Kd.N_alloc | apply Kd.N_drewN | apply Kd.N_drew)); exact HO_11.out)) k_ hk_)⟩)) (below_size (by repeat (first | (with_reducible first | exact HB.out | apply below_alloc | apply pw_below_drewN | apply below_drew1) | exact HB.out)))); have n2_ := Aside0.mk (below_step (by repeat (first | (with_reducible first | exact HB.out | apply below_alloc | apply pw_below_drewN | apply below_drew1) | exact HB.out)) hb); clear HO_11; clear HB; have HO_11 := n0_; have HO164 := n1_; have HB := n2_; clear n0_ n1_ n2_; (try clear hb); (try clear hb2); (try clear hk); (try clear hi); (try clear ho0)) | ((with_reducible refine gate_callee (f := 33) rfl ?_); refine goesL_ (some 54) rfl rfl Try.func33 (by kernel_rfl) rfl #[.int .i64 x13_1, .int .i64 a1] rfl (by (try simp only [List.map_toArray, List.map_cons, List.map_nil]); first | done | rfl | (simp only [List.length_drop, List.length_take]; rfl)) ?_; (with_reducible refine (qrversion_capacity.calls x13_1 a1 t167 _ A18.out).mono ?_); rintro e w26 ⟨rfl, hb⟩; refine ⟨_, rfl, ?_⟩; have n0_ := Aside0.mk (Kd.N_below (by (with_reducible repeat (first | apply Kd.N_alloc | apply Kd.N_drewN | apply Kd.N_drew)); exact HO_11.out) hb); have n1_ := Aside0.mk (Kd.N_below (by (with_reducible repeat (first | apply Kd.N_alloc | apply Kd.N_drewN | apply Kd.N_drew)); exact HO164.out) hb); have n2_ := Aside0.mk (below_step (by repeat (first | (with_reducible first | exact HB.out | apply below_alloc | apply pw_below_drewN | apply below_drew1) | exact HB.out)) hb); clear HO_11; clear HO164; clear HB; have HO_11 := n0_; have HO164 := n1_; have HB := n2_; clear n0_ n1_ n2_; (try clear hb); (try clear hb2); (try clear hk); (try clear hi)))
         go_roundg k1
         case measure => have := HK1.out; omega
         case rel => exact ⟨(t159), (t162), (t165), (wrap64 (x13_1 + 1)), (by first | rfl | (simp; done) | (simp [*]; done)), (by first | rfl | (simp; done) | (simp [*]; done)), (by first | rfl | (simp; done) | (simp [*]; done)), H', ⟨by have := HK1.out; omega⟩, ⟨by (with_reducible repeat (first | apply Kd.N_alloc | apply Kd.N_drewN | apply Kd.N_drew)); exact Kd.N_mono HO164.out (fun _ hk => hk.1)⟩, ⟨by repeat (first | (with_reducible first | exact HB.out | apply below_alloc | apply pw_below_drewN | apply below_drew1) | exact HB.out)⟩⟩
       ·rw [if_neg c17] at H
        have c17b0 : (t166 == 0) = false := beq_eq_false_iff_ne.mpr c17
        have c17b1 : (t166 != 0) = true := bne_iff_ne.mpr c17
        simp only [Option.some.injEq, Prod.mk.injEq] at H
        obtain ⟨rfl, rfl, rfl⟩ := H
        go_wp2_with (first | ((with_reducible refine gate_callee (f := 47) rfl ?_); refine goesL_ (some 33) rfl rfl Try.func47 (by kernel_rfl) rfl #[.int .i64 x13_1] rfl (by (try simp only [List.map_toArray, List.map_cons, List.map_nil]); first | done | rfl | (simp only [List.length_drop, List.length_take]; rfl)) ?_; (with_reducible refine (modes_Class.calls k1 x13_1 t159 t160 _ A8.out).mono ?_); rintro e w' ⟨rfl, ⟨nd, rfl⟩⟩; refine ⟨_, rfl, ?_⟩) | ((with_reducible refine gate_callee (f := 48) rfl ?_); refine goesL_ (some 43) rfl rfl Try.func48 (by kernel_rfl) rfl #[.slice A0 l0.length c0, .int .i64 t159] rfl (by (try simp only [List.map_toArray, List.map_cons, List.map_nil]); first | done | rfl | (simp only [List.length_drop, List.length_take]; rfl)) ?_; (with_reducible refine (modes_Best.calls k1 _ _ l0 t159 t162 t165 t166 _ ?side1 ?side2 A16.out).mono ?_); (case side1 => repeat (first | exact (Kd.C_below HR0.out (by repeat (first | (with_reducible first | exact HB.out | apply below_alloc | apply pw_below_drewN | apply below_drew1) | exact HB.out))) | (with_reducible refine Kd.C_alloc ?_ _) | (with_reducible refine Kd.C_drewN ?_ _) | (with_reducible refine Kd.C_drew ?_))); (case side2 => exact HC0.out); rintro e w27 ⟨v163, rfl, ho0, hb⟩; refine ⟨_, rfl, ?_⟩; have n0_ := Aside0.mk (Kd.N_elder' (by (with_reducible repeat (first | apply Kd.N_alloc | apply Kd.N_drewN | apply Kd.N_drew)); exact HO_11.out) (Kd.N_base ho0) hb); have n1_ := Aside0.mk (Kd.N_lower (Kd.N_mono (ok' := fun k_ => (w.heap.size ≤ k_) ∧ some k_ ≠ (u11 : Value).ownBlock) ho0 (fun k_ hk_ => ⟨(Nat.le_trans (below_size (by repeat (first | (with_reducible first | exact HB.out | apply below_alloc | apply pw_below_drewN | apply below_drew1) | exact HB.out))) hk_), (Kd.fresh' (Kd.N_lt (by (with_reducible repeat (first | apply Kd.N_alloc | apply Kd.N_drewN | apply Kd.N_drew)); exact HO_11.out)) k_ hk_)⟩)) (below_size (by repeat (first | (with_reducible first | exact HB.out | apply below_alloc | apply pw_below_drewN | apply below_drew1) | exact HB.out)))); have n2_ := Aside0.mk (below_step (by repeat (first | (with_reducible first | exact HB.out | apply below_alloc | apply pw_below_drewN | apply below_drew1) | exact HB.out)) hb); clear HO_11; clear HB; have HO_11 := n0_; have HO164 := n1_; have HB := n2_; clear n0_ n1_ n2_; (try clear hb); (try clear hb2); (try clear hk); (try clear hi); (try clear ho0)))
        go_ret3
        exact ⟨_, by first | rfl | (simp [errW_none, errW_some] <;> rfl) | (simp [*, errW_none, errW_some] <;> rfl), by first | exact Kd.S_nil _ _ _ _ _ | exact Kd.N_nil _ _ _ _ _ | exact Kd.V_nil _ _ _ _ _ | exact Kd.Q_nil _ _ _ _ _ | exact Kd.R_nil _ _ _ _ _, by repeat (first | (with_reducible first | exact HB.out | apply below_alloc | apply pw_below_drewN | apply below_drew1) | exact HB.out)⟩
     ·rw [if_neg c7] at H
      have c7b0 : decide (x13_1 ≤ 40) = false := decide_eq_false c7
      clear c7
      simp only [Option.some.injEq, Prod.mk.injEq] at H
      obtain ⟨rfl, rfl, rfl⟩ := H
      go_wp2
      go_ret3
      exact ⟨_, by first | rfl | (simp [errW_none, errW_some] <;> rfl) | (simp [*, errW_none, errW_some] <;> rfl), by first | exact Kd.S_nil _ _ _ _ _ | exact Kd.N_nil _ _ _ _ _ | exact Kd.V_nil _ _ _ _ _ | exact Kd.Q_nil _ _ _ _ _ | exact Kd.R_nil _ _ _ _ _, by repeat (first | (with_reducible first | exact HB.out | apply below_alloc | apply pw_below_drewN | apply below_drew1) | exact HB.out)⟩
 ·rw [if_neg c5] at H
  have c5b0 : (t158 == 0) = false := beq_eq_false_iff_ne.mpr c5
  have c5b1 : (t158 != 0) = true := bne_iff_ne.mpr c5
  simp only [Option.some.injEq, Prod.mk.injEq] at H
  obtain ⟨rfl, rfl, rfl⟩ := H
  go_enter Try.func34, Try.ntmps34
  go_wp2_with (first | ((with_reducible refine gate_callee (f := 32) rfl ?_); refine goesL_ (some 21) rfl rfl Try.func32 (by kernel_rfl) rfl #[.int .i64 1, .int .i64 a1] rfl (by (try simp only [List.map_toArray, List.map_cons, List.map_nil]); first | done | rfl | (simp only [List.length_drop, List.length_take]; rfl)) ?_; (with_reducible refine (qrversion_level.calls 1 a1 t158 _ A4.out).mono ?_); rintro e w' ⟨rfl, ⟨nd, rfl⟩⟩; refine ⟨_, rfl, ?_⟩))
  go_ret3
  exact ⟨_, by first | rfl | (simp [errW_none, errW_some] <;> rfl) | (simp [*, errW_none, errW_some] <;> rfl), by first | exact Kd.S_nil _ _ _ _ _ | exact Kd.N_nil _ _ _ _ _ | exact Kd.V_nil _ _ _ _ _ | exact Kd.Q_nil _ _ _ _ _ | exact Kd.R_nil _ _ _ _ _, by repeat (first | (with_reducible first | exact HB.out | apply below_alloc | apply pw_below_drewN | apply below_drew1) | exact HB.out)⟩

end Go.Proofs.Ytclbjddcenkidaa.PS
namespace Go.Proofs.Ytclbjddcenkidaa.PS
open Go.RowKit Go.Proofs.YtclbjddcenkidaaW.PrintWords Go.Proofs.YtclbjddcenkidaaW.PrintLast Go.Proofs.YtclbjddcenkidaaW.PrintMore
attribute [local go_sem] max2_int min2_int max_two min_two max_three min_three max_four min_four   -- for this text's walks alone

def split_fits.f (k : Nat) (l0 : List Int) (a1 : Int) (a2 : Int) (a3 : Int) : Option (Bool) := (qrversion_Smallest.f k l0 a2 a3).bind fun bt168 => (if bt168.2.2 = 0 then (some (decide (bt168.1 ≤ a1))) else (some false))
theorem split_fits.mono : ∀ a0 a1 a2 a3 k, LeO (split_fits.f k a0 a1 a2 a3) (split_fits.f (k + 1) a0 a1 a2 a3) := by
 intro a0 a1 a2 a3 k
 unfold split_fits.f
 repeat' first
   | (with_reducible exact qrversion_Smallest.mono _ _ _ _)
   | (with_reducible exact LeO.refl _)
   | (with_reducible exact LeO.none _)
   | (with_reducible refine LeO.ite ?_ ?_)
   | (with_reducible refine LeO.bind ?_ (fun _ => ?_))
   | exact qrversion_Smallest.mono _ _ _ _
   | exact LeO.none _
   | refine LeO.ite ?_ ?_
   | refine LeO.bind ?_ (fun _ => ?_)
set_option maxHeartbeats 8000000 in
set_option maxRecDepth 100000 in
theorem split_fits.calls (k : Nat) (A0 : Option Addr) (c0 : Nat) (l0 : List Int) (a1 : Int) (a2 : Int) (a3 : Int) (r : Bool) (w : World) (hr0 : Kd.C (Kd.int .u8) w A0 l0.length l0) (hc0 : l0.length ≤ c0) (h : split_fits.f k l0 a1 a2 a3 = some r) :
  Calls Try.prog 22 #[.slice A0 l0.length c0, .int .i64 a1, .int .i64 a2, .int .i64 a3] w fun e w' => e = .returned (.bool r) ∧ Below w.heap.size w w' := by
 have HR0 := Aside0.mk hr0
 have HC0 := Aside0.mk hc0
 clear hr0 hc0
 have HB := Aside0.mk (Below.refl w.heap.size w)
 have H : ((qrversion_Smallest.f k l0 a2 a3).bind fun bt168 => (if bt168.2.2 = 0 then (some (decide (bt168.1 ≤ a1))) else (some false))) = some r := h
 clear h
 replace H := Option.bind_eq_some_iff.mp H
 obtain ⟨⟨t168, t169, t172⟩, A50, H⟩ := H
 replace H : (if t172 = 0 then (some (decide (t168 ≤ a1))) else (some false)) = some r := H
 have A5 := Aside0.mk A50
 clear A50
 by_cases c6 : t172 = 0
 ·rw [if_pos c6] at H
  have c6b0 : (t172 == 0) = true := beq_iff_eq.mpr c6
  have c6b1 : (t172 != 0) = false := bne_eq_false_iff_eq.mpr c6
  clear c6
  obtain rfl := Option.some.inj H
  go_enter Try.func22, Try.ntmps22
  go_wp2_with (first | ((with_reducible refine gate_callee (f := 34) rfl ?_); refine goesL_ (some 16) rfl rfl Try.func34 (by kernel_rfl) rfl #[.slice A0 l0.length c0, .int .i64 a2, .int .i64 a3] rfl (by (try simp only [List.map_toArray, List.map_cons, List.map_nil]); first | done | rfl | (simp only [List.length_drop, List.length_take]; rfl)) ?_; (with_reducible refine (qrversion_Smallest.calls k _ _ l0 a2 a3 t168 t169 t172 _ ?side1 ?side2 A5.out).mono ?_); (case side1 => repeat (first | exact HR0.out | (with_reducible refine Kd.C_alloc ?_ _) | (with_reducible refine Kd.C_drewN ?_ _) | (with_reducible refine Kd.C_drew ?_))); (case side2 => exact HC0.out); rintro e w7 ⟨v170, rfl, ho0, hb⟩; refine ⟨_, rfl, ?_⟩; have n0_ := Aside0.mk (Kd.N_lower (Kd.N_mono (ok' := fun k_ => True) ho0 (fun k_ hk_ => trivial)) (below_size (by repeat (first | (with_reducible first | exact HB.out | apply below_alloc | apply pw_below_drewN | apply below_drew1) | exact HB.out)))); have n1_ := Aside0.mk (below_step (by repeat (first | (with_reducible first | exact HB.out | apply below_alloc | apply pw_below_drewN | apply below_drew1) | exact HB.out)) hb); clear HB; have HO171 := n0_; have HB := n1_; clear n0_ n1_; (try clear hb); (try clear hb2); (try clear hk); (try clear hi); (try clear ho0)))
  go_ret
  exact ⟨by first | rfl | (simp [errW_none, errW_some] <;> rfl) | (simp [*, errW_none, errW_some] <;> rfl), by repeat (first | (with_reducible first | exact HB.out | apply below_alloc | apply pw_below_drewN | apply below_drew1) | exact HB.out)⟩
 ·rw [if_neg c6] at H
  have c6b0 : (t172 == 0) = false := beq_eq_false_iff_ne.mpr c6
  have c6b1 : (t172 != 0) = true := bne_iff_ne.mpr c6
  obtain rfl := Option.some.inj H
  go_enter Try.func22, Try.ntmps22
  go_wp2_with (first | ((with_reducible refine gate_callee (f := 34) rfl ?_); refine goesL_ (some 16) rfl rfl Try.func34 (by kernel_rfl) rfl #[.slice A0 l0.length c0, .int .i64 a2, .int .i64 a3] rfl (by (try simp only [List.map_toArray, List.map_cons, List.map_nil]); first | done | rfl | (simp only [List.length_drop, List.length_take]; rfl)) ?_; (with_reducible refine (qrversion_Smallest.calls k _ _ l0 a2 a3 t168 t169 t172 _ ?side1 ?side2 A5.out).mono ?_); (case side1 => repeat (first | exact HR0.out | (with_reducible refine Kd.C_alloc ?_ _) | (with_reducible refine Kd.C_drewN ?_ _) | (with_reducible refine Kd.C_drew ?_))); (case side2 => exact HC0.out); rintro e w8 ⟨v170, rfl, ho0, hb⟩; refine ⟨_, rfl, ?_⟩; have n0_ := Aside0.mk (Kd.N_lower (Kd.N_mono (ok' := fun k_ => True) ho0 (fun k_ hk_ => trivial)) (below_size (by repeat (first | (with_reducible first | exact HB.out | apply below_alloc | apply pw_below_drewN | apply below_drew1) | exact HB.out)))); have n1_ := Aside0.mk (below_step (by repeat (first | (with_reducible first | exact HB.out | apply below_alloc | apply pw_below_drewN | apply below_drew1) | exact HB.out)) hb); clear HB; have HO171 := n0_; have HB := n1_; clear n0_ n1_; (try clear hb); (try clear hb2); (try clear hk); (try clear hi); (try clear ho0)))
  go_ret
  exact ⟨by first | rfl | (simp [errW_none, errW_some] <;> rfl) | (simp [*, errW_none, errW_some] <;> rfl), by repeat (first | (with_reducible first | exact HB.out | apply below_alloc | apply pw_below_drewN | apply below_drew1) | exact HB.out)⟩

end Go.Proofs.Ytclbjddcenkidaa.PS
namespace Go.Proofs.Ytclbjddcenkidaa.PS
open Go.RowKit Go.Proofs.YtclbjddcenkidaaW.PrintWords Go.Proofs.YtclbjddcenkidaaW.PrintLast Go.Proofs.YtclbjddcenkidaaW.PrintMore
attribute [local go_sem] max2_int min2_int max_two min_two max_three min_three max_four min_four   -- for this text's walks alone

def qrversion_Capacity.f (a0 : Int) (a1 : Int) : Option (Int × Int) := (qrversion_level.f a0 a1).bind fun t104 => (if t104 = 0 then ((qrversion_capacity.f a0 a1).bind fun t105 => (some (t105, 0))) else (some (0, t104)))
set_option maxHeartbeats 8000000 in
set_option maxRecDepth 100000 in
theorem qrversion_Capacity.calls (a0 : Int) (a1 : Int) (r1 : Int) (r2 : Int) (w : World) (h : qrversion_Capacity.f a0 a1 = some (r1, r2)) :
  Calls Try.prog 21 #[.int .i64 a0, .int .i64 a1] w fun e w' => e = .returned (.tuple #[.int .i64 r1, .int .i64 r2]) ∧ Below w.heap.size w w' := by
 have HB := Aside0.mk (Below.refl w.heap.size w)
 have H : ((qrversion_level.f a0 a1).bind fun t104 => (if t104 = 0 then ((qrversion_capacity.f a0 a1).bind fun t105 => (some (t105, 0))) else (some (0, t104)))) = some (r1, r2) := h
 clear h
 replace H := Option.bind_eq_some_iff.mp H
 obtain ⟨t104, A30, H⟩ := H
 replace H : (if t104 = 0 then ((qrversion_capacity.f a0 a1).bind fun t105 => (some (t105, 0))) else (some (0, t104))) = some (r1, r2) := H
 have A3 := Aside0.mk A30
 clear A30
 by_cases c4 : t104 = 0
 ·rw [if_pos c4] at H
  have c4b0 : (t104 == 0) = true := beq_iff_eq.mpr c4
  have c4b1 : (t104 != 0) = false := bne_eq_false_iff_eq.mpr c4
  clear c4
  replace H := Option.bind_eq_some_iff.mp H
  obtain ⟨t105, A50, H⟩ := H
  replace H : (some (t105, 0)) = some (r1, r2) := H
  have A5 := Aside0.mk A50
  clear A50
  simp only [Option.some.injEq, Prod.mk.injEq] at H
  obtain ⟨rfl, rfl⟩ := H
  go_enter Try.func21, Try.ntmps21
  go_wp2_with (first | ((with_reducible refine gate_callee (f := 32) rfl ?_); refine goesL_ (some 9) rfl rfl Try.func32 (by kernel_rfl) rfl #[.int .i64 a0, .int .i64 a1] rfl (by (try simp only [List.map_toArray, List.map_cons, List.map_nil]); first | done | rfl | (simp only [List.length_drop, List.length_take]; rfl)) ?_; (with_reducible refine (qrversion_level.calls a0 a1 t104 _ A3.out).mono ?_); rintro e w' ⟨rfl, ⟨nd, rfl⟩⟩; refine ⟨_, rfl, ?_⟩) | ((with_reducible refine gate_callee (f := 33) rfl ?_); refine goesL_ (some 15) rfl rfl Try.func33 (by kernel_rfl) rfl #[.int .i64 a0, .int .i64 a1] rfl (by (try simp only [List.map_toArray, List.map_cons, List.map_nil]); first | done | rfl | (simp only [List.length_drop, List.length_take]; rfl)) ?_; (with_reducible refine (qrversion_capacity.calls a0 a1 t105 _ A5.out).mono ?_); rintro e w6 ⟨rfl, hb⟩; refine ⟨_, rfl, ?_⟩; have n0_ := Aside0.mk (below_step (by repeat (first | (with_reducible first | exact HB.out | apply below_alloc | apply pw_below_drewN | apply below_drew1) | exact HB.out)) hb); clear HB; have HB := n0_; clear n0_; (try clear hb); (try clear hb2); (try clear hk); (try clear hi)))
  go_ret2
  exact ⟨by first | rfl | (simp [errW_none, errW_some] <;> rfl) | (simp [*, errW_none, errW_some] <;> rfl), by repeat (first | (with_reducible first | exact HB.out | apply below_alloc | apply pw_below_drewN | apply below_drew1) | exact HB.out)⟩
 ·rw [if_neg c4] at H
  have c4b0 : (t104 == 0) = false := beq_eq_false_iff_ne.mpr c4
  have c4b1 : (t104 != 0) = true := bne_iff_ne.mpr c4
  simp only [Option.some.injEq, Prod.mk.injEq] at H
  obtain ⟨rfl, rfl⟩ := H
  go_enter Try.func21, Try.ntmps21
  go_wp2_with (first | ((with_reducible refine gate_callee (f := 32) rfl ?_); refine goesL_ (some 9) rfl rfl Try.func32 (by kernel_rfl) rfl #[.int .i64 a0, .int .i64 a1] rfl (by (try simp only [List.map_toArray, List.map_cons, List.map_nil]); first | done | rfl | (simp only [List.length_drop, List.length_take]; rfl)) ?_; (with_reducible refine (qrversion_level.calls a0 a1 t104 _ A3.out).mono ?_); rintro e w' ⟨rfl, ⟨nd, rfl⟩⟩; refine ⟨_, rfl, ?_⟩))
  go_ret2
  exact ⟨by first | rfl | (simp [errW_none, errW_some] <;> rfl) | (simp [*, errW_none, errW_some] <;> rfl), by repeat (first | (with_reducible first | exact HB.out | apply below_alloc | apply pw_below_drewN | apply below_drew1) | exact HB.out)⟩

end Go.Proofs.Ytclbjddcenkidaa.PS
namespace Go.Proofs.Ytclbjddcenkidaa.PS
open Go.RowKit Go.Proofs.YtclbjddcenkidaaW.PrintWords Go.Proofs.YtclbjddcenkidaaW.PrintLast Go.Proofs.YtclbjddcenkidaaW.PrintMore
attribute [local go_sem] max2_int min2_int max_two min_two max_three min_three max_four min_four
def alnumL : List Int := [48, 49, 50, 51, 52, 53, 54, 55, 56, 57, 65, 66, 67, 68, 69, 70, 71, 72, 73, 74, 75, 76, 77, 78, 79, 80, 81, 82, 83, 84, 85, 86, 87, 88, 89, 90, 32, 36, 37, 42, 43, 45, 46, 47, 58]
def cbN (m cls : Int) : Nat := if m = 1 then (10 + 2 * cls).toNat else if m = 2 then (9 + 2 * cls).toNat else if cls = 0 then 8 else 16
def dbN (m : Int) (k : Nat) : Nat := if m = 1 then k / 3 * 10 + (if k % 3 = 0 then 0 else if k % 3 = 1 then 4 else 7) else if m = 2 then k / 2 * 11 + (if k % 2 = 0 then 0 else 6) else 8 * k
def fitS (m c : Int) : Bool := if m = 1 then decide (48 ≤ c) && decide (c ≤ 57) else if m = 2 then alnumL.contains c else true
def betS (a b : S106) : Bool := if a.f0 = b.f0 then (if a.f1 = b.f1 then (if a.f2 = b.f2 then decide (a.f3 < b.f3) else decide (a.f2 > b.f2)) else decide (a.f1 < b.f1)) else decide (a.f0 < b.f0)
def candS (m cls : Int) (k : Nat) (p : S106) : S106 := ⟨4 + cbN m cls + dbN m k + p.f0, 1 + p.f1, k, m⟩
def mostN (m cls : Int) : Nat := 2 ^ cbN m cls - 1
def innerS (cls m : Int) : List Int → List S106 → Nat → S106 → S106
  | c :: s, p :: rest, k, cur => if k ≤ mostN m cls ∧ fitS m c = true then innerS cls m s rest (k + 1) (if betS (candS m cls k p) cur = true then candS m cls k p else cur) else cur
  | [], _, _, cur => cur
  | _ :: _, [], _, cur => cur
def initS : S106 := ⟨1099511627776, 0, 0, 0⟩
def bestS (cls : Int) (s : List Int) (rest : List S106) : S106 := innerS cls 4 s rest 1 (innerS cls 2 s rest 1 (innerS cls 1 s rest 1 initS))
def planS (cls : Int) : List Int → List S106
  | [] => [z106]
  | c :: cs => bestS cls (c :: cs) (planS cls cs) :: planS cls cs
def bitsS (cls : Int) (l : List Int) : Int := ((planS cls l).headD z106).f0

structure Okp (n : Nat) (p : S106) : Prop where
  b0 : 0 ≤ p.f0
  b1 : p.f0 ≤ 28 * n
  s0 : 0 ≤ p.f1
  s1 : p.f1 ≤ n
  l0 : 1 ≤ n → 1 ≤ p.f2
  l1 : p.f2 ≤ n
theorem cbN_le (m cls : Int) (h0 : 0 ≤ cls) (h2 : cls ≤ 2) : 8 ≤ cbN m cls ∧ cbN m cls ≤ 16 := by
  unfold cbN
  split
  · omega
  · split
    · omega
    · split <;> omega
theorem dbN_le (m : Int) (k : Nat) : dbN m k ≤ 8 * k := by
  unfold dbN
  split
  · split
    · omega
    · split <;> omega
  · split
    · split <;> omega
    · omega
theorem cand_ok {m cls : Int} {k n : Nat} {p : S106} (h0 : 0 ≤ cls) (h2 : cls ≤ 2) (hk : 1 ≤ k) (hkn : k ≤ n) (hp : Okp (n - k) p) : Okp n (candS m cls k p) := by
  have h1 := cbN_le m cls h0 h2
  have h3 := dbN_le m k
  obtain ⟨a, b, c, d, e, f⟩ := hp
  refine ⟨?_, ?_, ?_, ?_, ?_, ?_⟩ <;> simp only [candS] <;> omega
def RestOk (n : Nat) (rest : List S106) : Prop := ∀ i p, rest[i]? = some p → i ≤ n ∧ Okp (n - i) p
theorem RestOk.tail {n : Nat} {p : S106} {rest : List S106} (h : RestOk (n + 1) (p :: rest)) : RestOk n rest := fun i q hq => by
  obtain ⟨h1, h2⟩ := h (i + 1) q (by simpa using hq)
  exact ⟨by omega, by rwa [show n + 1 - (i + 1) = n - i by omega] at h2⟩
theorem betS_init {n : Nat} {p : S106} (h : Okp n p) (hn : n ≤ 4096) : betS p initS = true := by
  unfold betS initS
  have := h.b1
  rw [if_neg (by simp only; omega)]
  simp only [decide_eq_true_eq]
  omega
theorem innerS_ok {cls m : Int} (h0 : 0 ≤ cls) (h2 : cls ≤ 2) {n : Nat} (hn : n ≤ 4096) : ∀ (s : List Int) (rest : List S106) (k : Nat) (cur : S106), 1 ≤ k → s.length + k = n + 1 → RestOk (n - k) rest → (Okp n cur ∨ cur = initS) →
    (Okp n (innerS cls m s rest k cur) ∨ innerS cls m s rest k cur = initS)
  | [], _, _, cur, _, _, _, hc => by unfold innerS; exact hc
  | _ :: _, [], _, cur, _, _, _, hc => by unfold innerS; exact hc
  | c :: s, p :: rest, k, cur, hk, hs, hr, hc => by
    unfold innerS
    split
    · have hp := (hr 0 p rfl).2
      have hcand : Okp n (candS m cls k p) := cand_ok h0 h2 hk (by simp at hs; omega) (by simpa using hp)
      have hr' : RestOk (n - (k + 1)) rest := by
        by_cases e : n = k
        · intro i q hq
          have := (hr (i + 1) q (by simpa using hq)).1
          omega
        · have : n - k = n - (k + 1) + 1 := by simp at hs; omega
          rw [this] at hr
          exact hr.tail
      refine innerS_ok h0 h2 hn s rest (k + 1) _ (by omega) (by simp at hs; omega) hr' ?_
      split
      · exact .inl hcand
      · exact hc
    · exact hc
/-- The byte mode takes the first byte: what comes out is a plan. -/
theorem innerS_byte {cls : Int} (h0 : 0 ≤ cls) (h2 : cls ≤ 2) {n : Nat} (hn : n ≤ 4096) (c : Int) (s : List Int) (p : S106) (rest : List S106) (cur : S106) (hs : s.length + 1 = n) (hr : RestOk (n - 1) (p :: rest)) (hc : Okp n cur ∨ cur = initS) :
    Okp n (innerS cls 4 (c :: s) (p :: rest) 1 cur) := by
  have hm : 1 ≤ mostN 4 cls := by
    have := (cbN_le 4 cls h0 h2).1
    unfold mostN
    have : 2 ^ 8 ≤ 2 ^ cbN 4 cls := Nat.pow_le_pow_right (by omega) this
    omega
  have hf : fitS 4 c = true := by simp [fitS]
  have hcand : Okp n (candS 4 cls 1 p) := cand_ok h0 h2 (by omega) (by omega) (by simpa using (hr 0 p rfl).2)
  have h1 : Okp n (if betS (candS 4 cls 1 p) cur = true then candS 4 cls 1 p else cur) := by
    split
    · exact hcand
    · rename_i hb
      rcases hc with hc | rfl
      · exact hc
      · exact absurd (betS_init hcand hn) hb
  have hr' : RestOk (n - 2) rest := by
    by_cases e : n = 1
    · intro i q hq
      have := (hr (i + 1) q (by simpa using hq)).1
      omega
    · have : n - 1 = n - 2 + 1 := by omega
      rw [this] at hr
      exact hr.tail
  have key : ∀ (s : List Int) (rest : List S106) (k : Nat) (cur : S106), 1 ≤ k → s.length + k = n + 1 → RestOk (n - k) rest → Okp n cur → Okp n (innerS cls 4 s rest k cur) := by
    intro s
    induction s with
    | nil => intro rest k cur _ _ _ hc; unfold innerS; exact hc
    | cons c s ih =>
      intro rest k cur hk hs hr hc
      cases rest with
      | nil => unfold innerS; exact hc
      | cons p rest =>
        unfold innerS
        split
        · have hp := (hr 0 p rfl).2
          have hcand : Okp n (candS 4 cls k p) := cand_ok h0 h2 hk (by simp at hs; omega) (by simpa using hp)
          have hr' : RestOk (n - (k + 1)) rest := by
            by_cases e : n = k
            · intro i q hq
              have := (hr (i + 1) q (by simpa using hq)).1
              omega
            · have : n - k = n - (k + 1) + 1 := by simp at hs; omega
              rw [this] at hr
              exact hr.tail
          refine ih rest (k + 1) _ (by omega) (by simp at hs; omega) hr' ?_
          split
          · exact hcand
          · exact hc
        · exact hc
  unfold innerS
  rw [if_pos ⟨hm, hf⟩]
  exact key s rest 2 _ (by omega) (by omega) hr' h1
theorem planS_len (cls : Int) : ∀ l, (planS cls l).length = l.length + 1
  | [] => rfl
  | c :: cs => by simp [planS, planS_len cls cs]
theorem planS_ok {cls : Int} (h0 : 0 ≤ cls) (h2 : cls ≤ 2) : ∀ l : List Int, l.length ≤ 4096 → RestOk l.length (planS cls l)
  | [], _ => fun i p hp => by
    simp only [planS] at hp
    cases i with
    | zero =>
      simp at hp
      subst hp
      exact ⟨by simp, ⟨by simp [z106], by simp [z106], by simp [z106], by simp [z106], by simp, by simp [z106]⟩⟩
    | succ i => simp at hp
  | c :: cs, hl => by
    have ih := planS_ok h0 h2 cs (by simp at hl; omega)
    have hb : Okp (cs.length + 1) (bestS cls (c :: cs) (planS cls cs)) := by
      unfold bestS
      have e1 : RestOk (cs.length + 1 - 1) (planS cls cs) := by simpa using ih
      have h3 := innerS_ok h0 h2 (m := 1) (n := cs.length + 1) (by simpa using hl) (c :: cs) (planS cls cs) 1 initS (by omega) (by simp) e1 (.inr rfl)
      have h4 := innerS_ok h0 h2 (m := 2) (n := cs.length + 1) (by simpa using hl) (c :: cs) (planS cls cs) 1 _ (by omega) (by simp) e1 h3
      have hlen := planS_len cls cs
      cases hp : planS cls cs with
      | nil => simp [hp] at hlen
      | cons p rest =>
        rw [hp] at e1 h4
        exact innerS_byte h0 h2 (by simpa using hl) c cs p rest _ (by simp) e1 h4
    intro i p hp
    simp only [planS] at hp
    cases i with
    | zero =>
      simp at hp
      subst hp
      exact ⟨by simp, by simpa using hb⟩
    | succ i =>
      have := ih i p (by simpa using hp)
      exact ⟨by simp; omega, by simpa using this.2⟩
theorem planS_drop (cls : Int) : ∀ (l : List Int) (i : Nat), i ≤ l.length → (planS cls l).drop i = planS cls (l.drop i)
  | l, 0, _ => by simp
  | [], i + 1, h => by simp at h
  | c :: cs, i + 1, h => by
    simp only [planS, List.drop_succ_cons]
    exact planS_drop cls cs i (by simpa using h)
def segS (cls : Int) : Nat → List Int → List S54
  | 0, _ => []
  | f + 1, l => if l = [] then [] else ⟨((planS cls l).headD z106).f3, l.take ((planS cls l).headD z106).f2.toNat⟩ :: segS cls f (l.drop ((planS cls l).headD z106).f2.toNat)

end Go.Proofs.Ytclbjddcenkidaa.PS
namespace Go.Proofs.Ytclbjddcenkidaa.PS
open Go.RowKit Go.Proofs.YtclbjddcenkidaaW.PrintWords Go.Proofs.YtclbjddcenkidaaW.PrintLast Go.Proofs.YtclbjddcenkidaaW.PrintMore
attribute [local go_sem] max2_int min2_int max_two min_two max_three min_three max_four min_four
theorem Ev.ifp {α : Type} {c : Prop} [Decidable c] {g f : Nat → Option α} {r : α} (hc : c) (h : Ev g r) : Ev (fun n => if c then g n else f n) r := Ev.congr (fun _ => if_pos hc) h
theorem Ev.ifn {α : Type} {c : Prop} [Decidable c] {g f : Nat → Option α} {r : α} (hc : ¬ c) (h : Ev f r) : Ev (fun n => if c then g n else f n) r := Ev.congr (fun _ => if_neg hc) h
theorem w64 {x : Int} (h0 : -9223372036854775808 ≤ x) (h1 : x ≤ 9223372036854775807) : wrap64 x = x := by unfold wrap64; omega
theorem fits_tab : ∀ c : Nat, c < 256 → modes_Fits.f 1 c = some (fitS 1 c) ∧ modes_Fits.f 2 c = some (fitS 2 c) ∧ modes_Fits.f 4 c = some (fitS 4 c) := by decide +kernel
theorem fits_eq (m c : Int) (hm : m = 1 ∨ m = 2 ∨ m = 4) (h0 : 0 ≤ c) (h1 : c < 256) : modes_Fits.f m c = some (fitS m c) := by
  obtain ⟨n, rfl⟩ := Int.eq_ofNat_of_zero_le h0
  have := fits_tab n (by omega)
  rcases hm with rfl | rfl | rfl
  · exact this.1
  · exact this.2.1
  · exact this.2.2
theorem dataBits_eq (m : Int) (k : Nat) (hm : m = 1 ∨ m = 2 ∨ m = 4) (hk : k ≤ 4096) : modes_dataBits.f m k = some (dbN m k : Int) := by
  rcases hm with rfl | rfl | rfl
  · have e1 : Int.tdiv (k : Int) 3 = ((k / 3 : Nat) : Int) := by rw [Int.tdiv_eq_ediv_of_nonneg (by omega)]; omega
    have e2 : Int.tmod (k : Int) 3 = ((k % 3 : Nat) : Int) := by rw [Int.tmod_eq_emod_of_nonneg (by omega)]; omega
    have e3 : wrap64 ((k / 3 : Nat) : Int) = ((k / 3 : Nat) : Int) := w64 (by omega) (by omega)
    have e4 : wrap64 (((k / 3 : Nat) : Int) * 10) = ((k / 3 : Nat) : Int) * 10 := w64 (by omega) (by omega)
    have h3 : rd [0, 4, 7, 10] 3 = 10 := rfl
    unfold modes_dataBits.f modes_group.f
    rw [if_pos rfl]
    simp only [Option.bind_some, e1, e2, e3, h3, e4]
    rw [if_neg (by omega), if_pos (by omega), if_pos (by simp), if_pos (by omega), if_pos (by simp; omega)]
    unfold dbN
    rw [if_pos rfl]
    rcases (by omega : k % 3 = 0 ∨ k % 3 = 1 ∨ k % 3 = 2) with h | h | h <;> rw [h] <;> simp [rd] <;> rw [w64 (by omega) (by omega)]
  · have e1 : Int.tdiv (k : Int) 2 = ((k / 2 : Nat) : Int) := by rw [Int.tdiv_eq_ediv_of_nonneg (by omega)]; omega
    have e2 : Int.tmod (k : Int) 2 = ((k % 2 : Nat) : Int) := by rw [Int.tmod_eq_emod_of_nonneg (by omega)]; omega
    have e3 : wrap64 ((k / 2 : Nat) : Int) = ((k / 2 : Nat) : Int) := w64 (by omega) (by omega)
    have e4 : wrap64 (((k / 2 : Nat) : Int) * 11) = ((k / 2 : Nat) : Int) * 11 := w64 (by omega) (by omega)
    have h3 : rd [0, 6, 11] 2 = 11 := rfl
    unfold modes_dataBits.f modes_group.f
    rw [if_neg (by decide), if_pos rfl]
    simp only [Option.bind_some, e1, e2, e3, h3, e4]
    rw [if_neg (by omega), if_pos (by omega), if_pos (by simp), if_pos (by omega), if_pos (by simp; omega)]
    unfold dbN
    rw [if_neg (by decide), if_pos rfl]
    rcases (by omega : k % 2 = 0 ∨ k % 2 = 1) with h | h <;> rw [h] <;> simp [rd] <;> rw [w64 (by omega) (by omega)]
  · have e1 : Int.tdiv (k : Int) 1 = (k : Int) := by simp
    have e2 : Int.tmod (k : Int) 1 = 0 := by simp
    have e3 : wrap64 (k : Int) = (k : Int) := w64 (by omega) (by omega)
    have e4 : wrap64 ((k : Int) * 8) = (k : Int) * 8 := w64 (by omega) (by omega)
    have h3 : rd [0, 8] 1 = 8 := rfl
    unfold modes_dataBits.f modes_group.f
    rw [if_neg (by decide), if_neg (by decide)]
    simp only [Option.bind_some, e1, e2, e3, h3, e4]
    simp [rd, dbN, e4]
    omega
theorem countBits_ev (m cls : Int) (hm : m = 1 ∨ m = 2 ∨ m = 4) (h0 : 0 ≤ cls) (h2 : cls ≤ 2) : Ev (fun k => modes_countBits.f k m cls) (cbN m cls : Int) := by
  refine ⟨1, fun k hk => ?_⟩
  obtain ⟨k, rfl⟩ : ∃ j, k = j + 1 := ⟨k - 1, by omega⟩
  show modes_countBits.f (k + 1) m cls = _
  unfold modes_countBits.f
  rw [if_neg (by omega)]
  simp only [modes_countBits.j0]
  rw [if_neg (by simp; omega)]
  rcases (by omega : cls = 0 ∨ cls = 1 ∨ cls = 2) with rfl | rfl | rfl <;> rcases hm with rfl | rfl | rfl <;> decide +kernel
theorem better_eq (a b : S106) : modes_plan_better.f a.f0 a.f1 a.f2 a.f3 b.f0 b.f1 b.f2 b.f3 = some (betS a b) := by
  unfold modes_plan_better.f betS
  split
  · split
    · split <;> rfl
    · rfl
  · rfl
theorem rd106 (P : List S106) (i : Nat) : rd_T106 P (i : Int) = P.getD i z106 := by unfold rd_T106; rw [Int.toNat_natCast]
theorem getD_drop {P : List S106} {i : Nat} {p : S106} {rest : List S106} (h : P.drop i = p :: rest) : P.getD i z106 = p := by
  have : (P.drop i)[0]? = some p := by rw [h]; rfl
  rw [List.getElem?_drop] at this
  simp at this
  rw [List.getD_eq_getElem?_getD, this]
  rfl
theorem rd_drop {l : List Int} {i : Nat} {c : Int} {s : List Int} (h : l.drop i = c :: s) : rd l (i : Int) = c := by
  have : (l.drop i)[0]? = some c := by rw [h]; rfl
  rw [List.getElem?_drop] at this
  simp at this
  unfold rd
  rw [Int.toNat_natCast, List.getD_eq_getElem?_getD, this]
  rfl
theorem drop_next {α : Type} {l : List α} {i : Nat} {c : α} {s : List α} (h : l.drop i = c :: s) : l.drop (i + 1) = s := by
  rw [← List.drop_drop, h]; rfl
theorem set_getD {α : Type} (P : List α) (i : Nat) (z : α) (h : i < P.length) : P.set i (P.getD i z) = P := by
  rw [List.getD_eq_getElem?_getD, List.getElem?_eq_getElem h]
  exact List.set_getElem_self h
theorem getD_set {α : Type} (P : List α) (i : Nat) (z x : α) (h : i < P.length) : (P.set i x).getD i z = x := by
  rw [List.getD_eq_getElem?_getD, List.getElem?_set_self h]
  rfl
theorem wr_add1 (k : Nat) (h : k ≤ 5000) : wrap64 ((k : Int) + 1) = ((k + 1 : Nat) : Int) := by
  rw [w64 (by omega) (by omega)]
  omega
theorem wr_cand (cb db n : Nat) (p0 p1 : Int) (h1 : cb ≤ 16) (h2 : db ≤ 40000) (h3 : n ≤ 4096) (h4 : 0 ≤ p0) (h5 : p0 ≤ 28 * n) (h6 : 0 ≤ p1) (h7 : p1 ≤ n) :
    wrap64 (4 + (cb : Int)) = 4 + cb ∧ wrap64 (4 + (cb : Int) + db) = 4 + (cb : Int) + db ∧ wrap64 (4 + (cb : Int) + db + p0) = 4 + (cb : Int) + db + p0 ∧ wrap64 (1 + p1) = 1 + p1 := by
  refine ⟨w64 ?_ ?_, w64 ?_ ?_, w64 ?_ ?_, w64 ?_ ?_⟩ <;> omega
theorem wr_at (a k : Nat) (h : a + k ≤ 10000) (hk : 1 ≤ k) : wrap64 ((a : Int) + k) = (a : Int) + k ∧ wrap64 ((a : Int) + k - 1) = (a : Int) + k - 1 := by
  refine ⟨w64 ?_ ?_, w64 ?_ ?_⟩ <;> omega
section
variable {x0 : List Int} {cls : Int} (h0 : 0 ≤ cls) (h2 : cls ≤ 2) (hn : x0.length ≤ 4096) (hx : ∀ c ∈ x0, 0 ≤ c ∧ c < 256)
include h0 h2 hn hx
set_option maxHeartbeats 1000000 in
theorem best_l2 (m : Int) (hm : m = 1 ∨ m = 2 ∨ m = 4) (at_ : Nat) (hat : at_ < x0.length) (X : List Int) (x47 x48 : Int) (r : List S54 × Int × Int) : ∀ (s : List Int) (k : Nat) (P : List S106) (rest : List S106),
    1 ≤ k → x0.drop (at_ + k - 1) = s → s.length + k = x0.length - at_ + 1 → P.length = x0.length + 1 → P.drop (at_ + k) = rest → RestOk (x0.length - at_ - k) rest →
    Ev (fun f => modes_Best.l1 f x0 cls x0.length (P.set at_ (innerS cls m s rest k (P.getD at_ z106))) at_ X x47 (wrap64 (x48 + 1))) r →
    Ev (fun f => modes_Best.l2 f x0 cls x0.length P at_ m ((min (x0.length - at_) (mostN m cls) : Nat) : Int) k X x47 x48) r := by
  intro s
  induction s with
  | nil =>
    intro k P rest hk hs hl hP hr hok hE
    unfold innerS at hE
    rw [set_getD P at_ z106 (by omega)] at hE
    refine Ev.step (fun f => modes_Best.l2.eq_2 ..) ?_
    refine Ev.ifn (by simp at hl; omega) ?_
    refine Ev.step (fun f => modes_Best.j4.eq_2 ..) ?_
    exact Ev.ifn (by simp) hE
  | cons c s ih =>
    intro k P rest hk hs hl hP hr hok hE
    have hlen : k ≤ x0.length - at_ := by simp at hl; omega
    cases rest with
    | nil =>
      have := congrArg List.length hr
      simp at this
      omega
    | cons p rest =>
      have hP1 : P.getD (at_ + k) z106 = p := getD_drop hr
      have hc : c ∈ x0 := List.mem_of_mem_drop (i := at_ + k - 1) (by rw [hs]; simp)
      have hcb := hx c hc
      have hfe := fits_eq m c hm hcb.1 hcb.2
      have hrd : rd x0 ((at_ : Int) + k - 1) = c := by
        have := rd_drop hs
        rwa [show ((at_ + k - 1 : Nat) : Int) = (at_ : Int) + k - 1 by omega] at this
      obtain ⟨hw1, hw2⟩ := wr_at at_ k (by omega) hk
      refine Ev.step (fun f => modes_Best.l2.eq_2 ..) ?_
      unfold innerS at hE
      by_cases hmo : k ≤ mostN m cls
      · refine Ev.ifp (by omega) ?_
        simp only [hw1, hw2, hrd, hfe, Option.bind_some]
        refine Ev.ifp (by omega) (Ev.ifp (by omega) ?_)
        refine Ev.step (fun f => modes_Best.j4.eq_2 ..) ?_
        cases hb : fitS m c with
        | false =>
          refine Ev.ifn (by simp) ?_
          rw [if_neg (by simp [hb])] at hE
          rw [set_getD P at_ z106 (by omega)] at hE
          exact hE
        | true =>
          refine Ev.ifp rfl ?_
          rw [if_pos ⟨hmo, hb⟩] at hE
          have hpok := (hok 0 p rfl).2
          have hcl := cbN_le m cls h0 h2
          have hdl := dbN_le m k
          have i1 : 0 ≤ (at_ : Int) + k := by omega
          have i2 : (at_ : Int) + k < (P.length : Int) := by omega
          have i3 : 0 ≤ (at_ : Int) := by omega
          have i4 : (at_ : Int) < (P.length : Int) := by omega
          have i5 : k ≤ 4096 := by omega
          have i6 : s.length + (k + 1) = x0.length - at_ + 1 := by simp at hl; omega
          have i7 : at_ < P.length := by omega
          have i8 : at_ < at_ + (k + 1) := by omega
          have hs' : x0.drop (at_ + (k + 1) - 1) = s := by
            have := drop_next hs
            rwa [show at_ + k - 1 + 1 = at_ + (k + 1) - 1 by omega] at this
          have hr' : P.drop (at_ + (k + 1)) = rest := by
            have := drop_next hr
            rwa [show at_ + k + 1 = at_ + (k + 1) by omega] at this
          have hok' : RestOk (x0.length - at_ - (k + 1)) rest := by
            by_cases e : x0.length - at_ = k
            · intro i q hq
              have := (hok (i + 1) q (by simpa using hq)).1
              omega
            · have e8 : x0.length - at_ - k = x0.length - at_ - (k + 1) + 1 := by omega
              rw [e8] at hok
              exact hok.tail
          have e6 : rd_T106 P ((at_ : Int) + k) = p := by rw [show (at_ : Int) + k = ((at_ + k : Nat) : Int) by omega, rd106, hP1]
          have e7 : rd_T106 P (at_ : Int) = P.getD at_ z106 := rd106 P at_
          obtain ⟨e1, e2, e3, e4⟩ := wr_cand (cbN m cls) (dbN m k) (x0.length - at_ - k) p.f0 p.f1 hcl.2 (by omega) (by omega) hpok.b0 hpok.b1 hpok.s0 hpok.s1
          have e5 := wr_add1 k (by omega)
          clear hpok
          simp only [hw1, e6, e7, e4, e5]
          refine Ev.ifp i1 (Ev.ifp i2 ?_)
          refine Ev.bind (g := fun f => modes_countBits.f f m cls) (countBits_ev m cls hm h0 h2) ?_
          rw [dataBits_eq m k hm i5]
          simp only [Option.bind_some, e1, e2, e3]
          refine Ev.ifp i3 (Ev.ifp i4 ?_)
          have hbe := better_eq (candS m cls k p) (P.getD at_ z106)
          simp only [candS] at hbe
          rw [hbe]
          simp only [Option.bind_some]
          have hcd : (⟨4 + (cbN m cls : Int) + dbN m k + p.f0, 1 + p.f1, k, m⟩ : S106) = candS m cls k p := rfl
          cases hbt : betS (candS m cls k p) (P.getD at_ z106) with
          | false =>
            have hbt' := hbt
            simp only [candS] at hbt'
            rw [hbt']
            refine Ev.ifn (by simp) ?_
            refine ih (k + 1) P rest (Nat.succ_pos k) hs' i6 hP hr' hok' ?_
            rw [hbt, if_neg (by simp)] at hE
            exact hE
          | true =>
            have hbt' := hbt
            simp only [candS] at hbt'
            rw [hbt']
            refine Ev.ifp rfl ?_
            rw [hcd, Int.toNat_natCast]
            refine ih (k + 1) _ rest (Nat.succ_pos k) hs' i6 (by rw [List.length_set]; exact hP) ?_ hok' ?_
            · rw [List.drop_set_of_lt i8]
              exact hr'
            · rw [hbt, if_pos rfl] at hE
              rw [List.set_set]
              have hg : (P.set at_ (candS m cls k p)).getD at_ z106 = candS m cls k p := getD_set P at_ _ _ i7
              rw [hg]
              exact hE
      · refine Ev.ifn (by omega) ?_
        rw [if_neg (by omega)] at hE
        rw [set_getD P at_ z106 (by omega)] at hE
        refine Ev.step (fun f => modes_Best.j4.eq_2 ..) ?_
        exact Ev.ifn (by simp) hE
end
theorem shl_most (m cls : Int) (hm : m = 1 ∨ m = 2 ∨ m = 4) (h0 : 0 ≤ cls) (h2 : cls ≤ 2) : wrap64 (shl .i64 1 (cbN m cls : Int) - 1) = (mostN m cls : Int) := by
  rcases (by omega : cls = 0 ∨ cls = 1 ∨ cls = 2) with rfl | rfl | rfl <;> rcases hm with rfl | rfl | rfl <;> decide +kernel
theorem mn_min (a b : Nat) : mn (a : Int) (b : Int) = ((min a b : Nat) : Int) := by unfold mn; split <;> omega
theorem wr_sub (n a : Nat) (hn : n ≤ 10000) (ha : a ≤ n) : wrap64 ((n : Int) - a) = ((n - a : Nat) : Int) := by
  rw [w64 (by omega) (by omega)]
  omega
section
variable {x0 : List Int} {cls : Int} (h0 : 0 ≤ cls) (h2 : cls ≤ 2) (hn : x0.length ≤ 4096) (hx : ∀ c ∈ x0, 0 ≤ c ∧ c < 256)
include h0 h2 hn hx
theorem best_mode (m : Int) (hm : m = 1 ∨ m = 2 ∨ m = 4) (j : Nat) (hj : j < 3) (hrd : rd [1, 2, 4] (j : Int) = m) (at_ : Nat) (hat : at_ < x0.length) (P : List S106) (rest : List S106) (hP : P.length = x0.length + 1) (hr : P.drop (at_ + 1) = rest) (hok : RestOk (x0.length - at_ - 1) rest) (r : List S54 × Int × Int)
    (hE : Ev (fun f => modes_Best.l1 f x0 cls x0.length (P.set at_ (innerS cls m (x0.drop at_) rest 1 (P.getD at_ z106))) at_ [1, 2, 4] 3 ((j + 1 : Nat) : Int)) r) :
    Ev (fun f => modes_Best.l1 f x0 cls x0.length P at_ [1, 2, 4] 3 (j : Int)) r := by
  have hs := shl_most m cls hm h0 h2
  have hw := wr_sub x0.length at_ (by omega) (by omega)
  have hl := best_l2 h0 h2 hn hx m hm at_ hat [1, 2, 4] 3 j r (x0.drop at_) 1 P rest (by omega) (by simp) (by rw [List.length_drop]) hP hr hok (by rw [wr_add1 j (by omega)]; exact hE)
  have i1 : (j : Int) < 3 := by omega
  have i2 : 0 ≤ (j : Int) := by omega
  have i3 : (j : Int) < (([1, 2, 4] : List Int).length : Int) := i1
  have i4 : 0 ≤ (cbN m cls : Int) := by omega
  refine Ev.step (fun f => modes_Best.l1.eq_2 ..) ?_
  refine Ev.ifp i1 (Ev.ifp i2 (Ev.ifp i3 ?_))
  simp only [hrd]
  refine Ev.bind (g := fun f => modes_countBits.f f m cls) (countBits_ev m cls hm h0 h2) ?_
  refine Ev.ifp i4 ?_
  rw [hs, hw, mn_min]
  exact hl
theorem best_l1 (at_ : Nat) (hat : at_ < x0.length) (P : List S106) (rest : List S106) (hP : P.length = x0.length + 1) (hr : P.drop (at_ + 1) = rest) (hok : RestOk (x0.length - at_ - 1) rest) (hini : P.getD at_ z106 = initS) (r : List S54 × Int × Int)
    (hE : Ev (fun f => modes_Best.l0 f x0 cls x0.length (P.set at_ (bestS cls (x0.drop at_) rest)) (wrap64 ((at_ : Int) - 1))) r) :
    Ev (fun f => modes_Best.l1 f x0 cls x0.length P at_ [1, 2, 4] 3 0) r := by
  have hlt : at_ < P.length := by omega
  have i8 : at_ < at_ + 1 := by omega
  refine best_mode h0 h2 hn hx 1 (.inl rfl) 0 (by omega) rfl at_ hat P rest hP hr hok r ?_
  refine best_mode h0 h2 hn hx 2 (.inr (.inl rfl)) 1 (by omega) rfl at_ hat _ rest (by rw [List.length_set]; exact hP) (by rw [List.drop_set_of_lt i8]; exact hr) hok r ?_
  refine best_mode h0 h2 hn hx 4 (.inr (.inr rfl)) 2 (by omega) rfl at_ hat _ rest (by rw [List.length_set, List.length_set]; exact hP) (by rw [List.drop_set_of_lt i8, List.drop_set_of_lt i8]; exact hr) hok r ?_
  simp only [getD_set P at_ z106 _ hlt, List.set_set, hini]
  refine Ev.step (fun f => modes_Best.l1.eq_2 ..) ?_
  exact Ev.ifn (by decide) hE
theorem best_l0 (r : List S54 × Int × Int) (hE : Ev (fun f => modes_Best.l3 f x0.length (planS cls x0) x0 [] 0) r) : ∀ (i : Nat) (P : List S106), i ≤ x0.length → P.length = x0.length + 1 → P.drop i = planS cls (x0.drop i) →
    Ev (fun f => modes_Best.l0 f x0 cls x0.length P ((i : Int) - 1)) r := by
  intro i
  induction i with
  | zero =>
    intro P _ hP hd
    refine Ev.step (fun f => modes_Best.l0.eq_2 ..) ?_
    refine Ev.ifn (by decide) ?_
    have hcl : slices_Clone_byte_byte.f x0 = some x0 := by unfold slices_Clone_byte_byte.f; rw [if_pos (by omega)]
    rw [hcl]
    simp only [List.drop_zero] at hd
    subst hd
    exact hE
  | succ i ih =>
    intro P hi hP hd
    have hw : wrap64 ((i : Int) - 1) = (i : Int) - 1 := w64 (by omega) (by omega)
    have e0 : (((i + 1 : Nat) : Int) - 1) = (i : Int) := by omega
    have i1 : (i : Int) ≥ 0 := by omega
    have i2 : (i : Int) < (P.length : Int) := by omega
    have hlt : i < x0.length := by omega
    have hlp : i < P.length := by omega
    have i8 : i < i + 1 := by omega
    have hok := planS_ok h0 h2 (x0.drop (i + 1)) (by rw [List.length_drop]; omega)
    rw [List.length_drop, show x0.length - (i + 1) = x0.length - i - 1 by omega] at hok
    rw [e0]
    refine Ev.step (fun f => modes_Best.l0.eq_2 ..) ?_
    refine Ev.ifp i1 (Ev.ifp i1 (Ev.ifp i2 ?_))
    simp only [Option.bind_some, Int.toNat_natCast]
    refine best_l1 h0 h2 hn hx i hlt _ (planS cls (x0.drop (i + 1))) (by rw [List.length_set]; exact hP) (by rw [List.drop_set_of_lt i8]; exact hd) hok (getD_set P i _ _ hlp) r ?_
    rw [List.set_set, hw]
    refine ih _ (by omega) (by rw [List.length_set]; exact hP) ?_
    rw [List.drop_eq_getElem_cons (by rw [List.length_set]; exact hlp), List.getElem_set_self, List.drop_set_of_lt i8, hd, List.drop_eq_getElem_cons hlt]
    rfl
omit hx in
theorem best_l3 : ∀ (d i : Nat) (out : List S54), x0.length - i ≤ d → i ≤ x0.length → out.length ≤ i →
    Ev (fun f => modes_Best.l3 f x0.length (planS cls x0) x0 out i) (out ++ segS cls d (x0.drop i), bitsS cls x0, 0) := by
  intro d
  induction d with
  | zero =>
    intro i out hd hi ho
    have i1 : ¬ (i : Int) < (x0.length : Int) := by omega
    have i2 : (0 : Int) < ((planS cls x0).length : Int) := by have := planS_len cls x0; omega
    refine Ev.step (fun f => modes_Best.l3.eq_2 ..) ?_
    refine Ev.ifn i1 (Ev.ifp i2 ?_)
    have e1 : (rd_T106 (planS cls x0) 0).f0 = bitsS cls x0 := by
      unfold bitsS rd_T106
      cases planS cls x0 <;> rfl
    rw [e1]
    simp only [segS, List.append_nil]
    exact Ev.now _
  | succ d ih =>
    intro i out hd hi ho
    have hPl := planS_len cls x0
    by_cases hlt : i < x0.length
    · have hok := planS_ok h0 h2 (x0.drop i) (by rw [List.length_drop]; omega)
      have hdr := planS_drop cls x0 i (by omega)
      cases hp : planS cls (x0.drop i) with
      | nil =>
        have := planS_len cls (x0.drop i)
        rw [hp] at this
        simp at this
      | cons p rest =>
        have hpk := (hok 0 p (by rw [hp]; rfl)).2
        have hp1 := hpk.l0 (by simp; omega)
        have hp2 := hpk.l1
        simp only [List.length_drop, Nat.sub_zero] at hp2
        have hg : (planS cls x0).getD i z106 = p := getD_drop (by rw [hdr, hp])
        obtain ⟨n, hn'⟩ := Int.eq_ofNat_of_zero_le (show 0 ≤ p.f2 by omega)
        have e1 : rd_T106 (planS cls x0) (i : Int) = p := by rw [rd106, hg]
        have e2 : wrap64 ((i : Int) + p.f2) = ((i + n : Nat) : Int) := by rw [hn', w64 (by omega) (by omega)]; omega
        have i1 : (i : Int) < (x0.length : Int) := by omega
        have i2 : 0 ≤ (i : Int) := by omega
        have i3 : (i : Int) < ((planS cls x0).length : Int) := by omega
        have i4 : (i : Int) ≤ ((i + n : Nat) : Int) := by omega
        have i5 : ((i + n : Nat) : Int) ≤ (x0.length : Int) := by omega
        have i6 : out.length < 4398046511104 := by omega
        have ihh := ih (i + n) (out ++ [⟨p.f3, (x0.drop i).take n⟩]) (by omega) (by omega) (by simp; omega)
        refine Ev.step (fun f => modes_Best.l3.eq_2 ..) ?_
        refine Ev.ifp i1 (Ev.ifp i2 (Ev.ifp i3 ?_))
        simp only [e1, e2]
        refine Ev.ifp i4 (Ev.ifp i5 (Ev.ifp i6 ?_))
        simp only [Int.toNat_natCast]
        have hcut : (x0.take (i + n)).drop i = (x0.drop i).take n := by rw [List.drop_take]; congr 1; omega
        rw [hcut]
        have hseg : out ++ segS cls (d + 1) (x0.drop i) = out ++ [⟨p.f3, (x0.drop i).take n⟩] ++ segS cls d (x0.drop (i + n)) := by
          rw [segS, if_neg (by intro h; have := congrArg List.length h; simp at this; omega), hp]
          simp only [List.headD_cons, hn', Int.toNat_natCast, List.append_assoc, List.cons_append, List.nil_append, List.drop_drop]
        rw [hseg]
        exact ihh
    · have i1 : ¬ (i : Int) < (x0.length : Int) := by omega
      have i2 : (0 : Int) < ((planS cls x0).length : Int) := by omega
      refine Ev.step (fun f => modes_Best.l3.eq_2 ..) ?_
      refine Ev.ifn i1 (Ev.ifp i2 ?_)
      have e1 : (rd_T106 (planS cls x0) 0).f0 = bitsS cls x0 := by
        unfold bitsS rd_T106
        cases planS cls x0 <;> rfl
      rw [e1, segS, if_pos (List.drop_eq_nil_of_le (by omega)), List.append_nil]
      exact Ev.now _
theorem best_ev : Ev (fun k => modes_Best.f k x0 cls) (segS cls x0.length x0, bitsS cls x0, 0) := by
  have hw1 : wrap64 ((x0.length : Int) + 1) = ((x0.length + 1 : Nat) : Int) := wr_add1 _ (by omega)
  have hw2 : wrap64 ((x0.length : Int) - 1) = (x0.length : Int) - 1 := w64 (by omega) (by omega)
  have i1 : ¬ cls < 0 := by omega
  have i2 : ¬ decide (cls > 2) = true := by simp; omega
  have i3 : ¬ (x0.length : Int) > 4096 := by omega
  have i4 : 0 ≤ ((x0.length + 1 : Nat) : Int) := by omega
  have i5 : (((x0.length + 1 : Nat) : Int)).toNat ≤ 8796093022208 := by rw [Int.toNat_natCast]; omega
  have h3 := best_l3 (cls := cls) h0 h2 hn x0.length 0 [] (by omega) (by omega) (by simp)
  simp only [List.nil_append, List.drop_zero] at h3
  have hz := best_l0 h0 h2 hn hx _ h3 x0.length (List.replicate (x0.length + 1) z106) (Nat.le_refl _) (by simp) (by
    rw [List.drop_replicate, List.drop_length, show x0.length + 1 - x0.length = 1 by omega]
    rfl)
  unfold modes_Best.f
  refine Ev.ifn i1 ?_
  refine Ev.step (fun f => modes_Best.j0.eq_2 ..) ?_
  refine Ev.ifn i2 (Ev.ifn i3 ?_)
  simp only [hw1, hw2]
  refine Ev.ifp i4 (Ev.ifp i5 ?_)
  simp only [Int.toNat_natCast]
  exact hz
end

end Go.Proofs.Ytclbjddcenkidaa.PS
namespace Go.Proofs.Ytclbjddcenkidaa.PS
open Go.RowKit Go.Proofs.YtclbjddcenkidaaW.PrintWords Go.Proofs.YtclbjddcenkidaaW.PrintLast Go.Proofs.YtclbjddcenkidaaW.PrintMore
attribute [local go_sem] max2_int min2_int max_two min_two max_three min_three max_four min_four
def clsOf (v : Nat) : Int := if v ≤ 9 then 0 else if v ≤ 26 then 1 else 2
/-- does the payload fit a version exactly -/
def fitV (l : List Int) (lev : Nat) (ex : Int) (v : Nat) : Bool := decide (bitsS (clsOf v) l + ex ≤ 8 * capV v lev)
def smallR (l : List Int) (lev : Nat) (ex : Int) : Nat → Nat → Option Nat
  | 0, _ => none
  | d + 1, v => if fitV l lev ex v = true then some v else smallR l lev ex d (v + 1)
def smallOut (l : List Int) : Option Nat → Int × List S54 × Int
  | some v => (v, segS (clsOf v) l.length l, 0)
  | none => (0, [], 16)
theorem capV_bd : ∀ v, v < 40 → ∀ l, l < 4 → 0 ≤ capV (v + 1) (l + 1) ∧ capV (v + 1) (l + 1) ≤ 4000 := by decide +kernel
theorem clsOf_bd (v : Nat) : 0 ≤ clsOf v ∧ clsOf v ≤ 2 := by
  unfold clsOf
  split
  · omega
  · split <;> omega
theorem class_ev (v : Nat) (h1 : 1 ≤ v) (h2 : v ≤ 40) : Ev (fun k => modes_Class.f k v) (clsOf v, 0) := by
  refine ⟨1, fun k hk => ?_⟩
  obtain ⟨k, rfl⟩ : ∃ j, k = j + 1 := ⟨k - 1, by omega⟩
  show modes_Class.f (k + 1) v = _
  unfold modes_Class.f clsOf
  rw [if_neg (by omega)]
  simp only [modes_Class.j0]
  rw [if_neg (by simp; omega)]
  by_cases a : v ≤ 9
  · rw [if_pos (by omega), if_pos a]
  · rw [if_neg (by omega), if_neg a]
    by_cases b : v ≤ 26
    · rw [if_pos (by omega), if_pos b]
    · rw [if_neg (by omega), if_neg b]
theorem bitsS_bd {cls : Int} (h0 : 0 ≤ cls) (h2 : cls ≤ 2) (l : List Int) (hl : l.length ≤ 4096) : 0 ≤ bitsS cls l ∧ bitsS cls l ≤ 28 * l.length := by
  have h := planS_ok h0 h2 l hl
  have hn := planS_len cls l
  unfold bitsS
  cases hp : planS cls l with
  | nil => rw [hp] at hn; simp at hn
  | cons p r =>
    have := (h 0 p (by rw [hp]; rfl)).2
    exact ⟨this.b0, by simpa using this.b1⟩
theorem wr_cap (c b : Int) (h0 : 0 ≤ c) (h1 : c ≤ 4000) (h2 : 0 ≤ b) (h3 : b ≤ 200000) : wrap64 (8 * c) = 8 * c ∧ wrap64 (8 * c - b) = 8 * c - b := by
  refine ⟨w64 ?_ ?_, w64 ?_ ?_⟩ <;> omega
section
variable {l : List Int} (hn : l.length ≤ 4096) (hx : ∀ c ∈ l, 0 ≤ c ∧ c < 256) {lv : Nat} (hlv : lv < 4) {ex : Int} (e0 : 0 ≤ ex) (e1 : ex ≤ 1000)
include hn hx hlv e0 e1
theorem small_l0 : ∀ (d v : Nat) (x10 : Int) (x11 : List S54) (x12 : Int), v + d = 41 → 1 ≤ v → (x10 = -1 ∨ 0 ≤ x10 ∧ x10 ≤ 2 ∧ x12 = bitsS x10 l ∧ x11 = segS x10 l.length l) →
    Ev (fun f => qrversion_Smallest.l0 f l ((lv : Int) + 1) ex x10 x11 x12 v) (smallOut l (smallR l (lv + 1) ex d v)) := by
  intro d
  induction d with
  | zero =>
    intro v x10 x11 x12 hd hv _
    have i1 : ¬ (v : Int) ≤ 40 := by omega
    refine Ev.step (fun f => qrversion_Smallest.l0.eq_2 ..) ?_
    exact Ev.ifn i1 (Ev.now _)
  | succ d ih =>
    intro v x10 x11 x12 hd hv hI
    have i1 : (v : Int) ≤ 40 := by omega
    have hc := clsOf_bd v
    have hb := bitsS_bd hc.1 hc.2 l hn
    have hcap := capV_bd (v - 1) (by omega) lv hlv
    rw [show v - 1 + 1 = v by omega] at hcap
    have hcf : qrversion_capacity.f (v : Int) ((lv : Int) + 1) = some (capV v (lv + 1)) := by
      unfold qrversion_capacity.f
      rw [if_pos (by omega), Int.toNat_natCast, show ((lv : Int) + 1).toNat = lv + 1 by omega]
    have hv5 : v ≤ 5000 := by omega
    have hv4 : v ≤ 40 := by omega
    have hb3 : bitsS (clsOf v) l ≤ 200000 := by omega
    have hne : clsOf v ≠ -1 := by omega
    have hnext := ih (v + 1) (clsOf v) (segS (clsOf v) l.length l) (bitsS (clsOf v) l) (by omega) (by omega) (.inr ⟨hc.1, hc.2, rfl, rfl⟩)
    have key : Ev (fun f => if bitsS (clsOf v) l ≤ 8 * capV v (lv + 1) then (if ex ≤ 8 * capV v (lv + 1) - bitsS (clsOf v) l then some ((v : Int), segS (clsOf v) l.length l, (0 : Int)) else qrversion_Smallest.l0 f l ((lv : Int) + 1) ex (clsOf v) (segS (clsOf v) l.length l) (bitsS (clsOf v) l) ((v + 1 : Nat) : Int)) else qrversion_Smallest.l0 f l ((lv : Int) + 1) ex (clsOf v) (segS (clsOf v) l.length l) (bitsS (clsOf v) l) ((v + 1 : Nat) : Int)) (smallOut l (smallR l (lv + 1) ex (d + 1) v)) := by
      unfold smallR fitV
      by_cases a : bitsS (clsOf v) l ≤ 8 * capV v (lv + 1)
      · refine Ev.ifp a ?_
        by_cases b : ex ≤ 8 * capV v (lv + 1) - bitsS (clsOf v) l
        · refine Ev.ifp b ?_
          rw [if_pos (by simp; omega)]
          exact Ev.now _
        · refine Ev.ifn b ?_
          rw [if_neg (by simp; omega)]
          exact hnext
      · refine Ev.ifn a ?_
        rw [if_neg (by simp; omega)]
        exact hnext
    obtain ⟨w1, w2⟩ := wr_cap (capV v (lv + 1)) (bitsS (clsOf v) l) hcap.1 hcap.2 hb.1 hb3
    have w3 := wr_add1 v hv5
    refine Ev.step (fun f => qrversion_Smallest.l0.eq_2 ..) ?_
    refine Ev.ifp i1 ?_
    refine Ev.bind (g := fun f => modes_Class.f f v) (class_ev v hv hv4) ?_
    simp only [hcf, Option.bind_some]
    by_cases hcl : clsOf v = x10
    · refine Ev.ifp hcl ?_
      rcases hI with rfl | ⟨_, _, rfl, rfl⟩
      · exact absurd hcl hne
      · subst hcl
        simp only [w1, w2, w3]
        exact key
    · refine Ev.ifn hcl ?_
      refine Ev.bind (g := fun f => modes_Best.f f l (clsOf v)) (best_ev hc.1 hc.2 hn hx) ?_
      refine Ev.ifp rfl ?_
      simp only [w1, w2, w3]
      exact key
theorem small_ev : Ev (fun k => qrversion_Smallest.f k l ((lv : Int) + 1) ex) (smallOut l (smallR l (lv + 1) ex 40 1)) := by
  have h := small_l0 hn hx hlv e0 e1 40 1 (-1) [] 0 (by omega) (by omega) (.inl rfl)
  have hlev : qrversion_level.f 1 ((lv : Int) + 1) = some 0 := by
    unfold qrversion_level.f qrversion_valid.f
    rw [if_pos (by decide)]
    simp only [Option.bind_some]
    rw [if_pos (by decide), if_neg (by omega), if_neg (by omega)]
  unfold qrversion_Smallest.f
  rw [hlev]
  simp only [Option.bind_some]
  exact Ev.ifp trivial (Ev.ifn (by omega) h)
def fitsS (l : List Int) (v : Int) (lev : Nat) (ex : Int) : Bool := match smallR l lev ex 40 1 with
  | some v' => decide ((v' : Int) ≤ v)
  | none => false
theorem fits_ev (v : Int) : Ev (fun k => split_fits.f k l v ((lv : Int) + 1) ex) (fitsS l v (lv + 1) ex) := by
  have h := small_ev hn hx hlv e0 e1
  unfold split_fits.f
  refine Ev.bind (g := fun k => qrversion_Smallest.f k l ((lv : Int) + 1) ex) h ?_
  unfold fitsS
  cases smallR l (lv + 1) ex 40 1 with
  | none => exact Ev.ifn (by simp [smallOut]) (Ev.now _)
  | some v' => exact Ev.ifp rfl (Ev.now _)
end

end Go.Proofs.Ytclbjddcenkidaa.PS
namespace Go.Proofs.Ytclbjddcenkidaa.PS
open Go.RowKit Go.Proofs.YtclbjddcenkidaaW.PrintWords Go.Proofs.YtclbjddcenkidaaW.PrintLast Go.Proofs.YtclbjddcenkidaaW.PrintMore
attribute [local go_sem] max2_int min2_int max_two min_two max_three min_three max_four min_four
/-- the binary search of sort.Search -/
def bsearch (p : Nat → Bool) : Nat → Nat → Nat → Nat
  | 0, lo, _ => lo
  | k + 1, lo, hi => if lo < hi then (if p ((lo + hi) / 2) = true then bsearch p k lo ((lo + hi) / 2) else bsearch p k ((lo + hi) / 2 + 1) hi) else lo
theorem bsearch_le (p : Nat → Bool) : ∀ k lo hi, lo ≤ hi → lo ≤ bsearch p k lo hi ∧ bsearch p k lo hi ≤ hi
  | 0, lo, hi, h => ⟨Nat.le_refl _, h⟩
  | k + 1, lo, hi, h => by
    unfold bsearch
    split
    · split
      · have := bsearch_le p k lo ((lo + hi) / 2) (by omega)
        omega
      · have := bsearch_le p k ((lo + hi) / 2 + 1) hi (by omega)
        omega
    · omega
set_option maxHeartbeats 4000000 in
set_option maxRecDepth 100000 in
theorem Search_calls (g : Nat) (cb : Array Value) (n : Nat) (p : Nat → Bool) (w : World) (eg : ∀ args w, (callFunc g args).run Try.prog w = .ok (.enter g args) w) (hsz : n < 4611686018427387904)
    (hf : ∀ (W : World) (i : Nat), Below w.heap.size w W → i < n → Calls Try.prog g (#[.int .i64 i] ++ cb) W fun e w' => e = .returned (.bool (p i)) ∧ Below w.heap.size w w') :
    Calls Try.prog 23 #[.int .i64 n, .func (.func g) #[] cb] w fun e w' => e = .returned (.int .i64 ((bsearch p n 0 n : Nat) : Int)) ∧ Below w.heap.size w w' := by
  have HF := Aside0.mk hf
  clear hf
  obtain ⟨res, hres⟩ : ∃ res, res = bsearch p n 0 n := ⟨_, rfl⟩
  rw [← hres]
  have HS := Aside0.mk hres
  clear hres
  go_enter Try.func23, Try.ntmps23
  go_wp2
  go_loopg [5, 6] n (fun kx s5 s6 wr => ∃ (lo hi : Nat), s5 = .int .i64 lo ∧ s6 = .int .i64 hi ∧ lo ≤ hi ∧ hi ≤ n ∧ hi - lo ≤ kx ∧ Aside0 (Below w.heap.size w wr) ∧ Aside0 (res = bsearch p kx lo hi))
  case atStart => exact ⟨0, n, rfl, rfl, Nat.zero_le _, Nat.le_refl _, by omega, ⟨Below.refl _ _⟩, HS⟩
  case round =>
    obtain ⟨lo, hi, rfl, rfl, hlh, hin, hg, HB, HR⟩ := hrel
    by_cases hlt : lo < hi
    · obtain ⟨kk, rfl⟩ : ∃ kk, gk = kk + 1 := ⟨gk - 1, by omega⟩
      have hc := HF.out wr ((lo + hi) / 2) HB.out (by omega)
      rw [show (((lo + hi) / 2 : Nat) : Int) = ((lo : Int) + (hi : Int)) / 2 by omega] at hc
      cases hp : p ((lo + hi) / 2) <;> rw [hp] at hc
      · have HP := Aside0.mk hp
        have HC := Aside0.mk hc
        clear hp hc
        go_wp2_with (fail)
        refine HC.out.mono ?_
        rintro e w1 ⟨rfl, hb1⟩
        have HB1 := Aside0.mk hb1
        clear hb1 HC
        go_wp2
        go_roundg kk
        case measure => omega
        case rel => exact ⟨(lo + hi) / 2 + 1, hi, by go_num, by go_num, by omega, by omega, by omega, HB1, ⟨by rw [HR.out, bsearch, if_pos hlt, if_neg (by rw [HP.out]; simp)]⟩⟩
      · have HP := Aside0.mk hp
        have HC := Aside0.mk hc
        clear hp hc
        go_wp2_with (fail)
        refine HC.out.mono ?_
        rintro e w1 ⟨rfl, hb1⟩
        have HB1 := Aside0.mk hb1
        clear hb1 HC
        go_wp2
        go_roundg kk
        case measure => omega
        case rel => exact ⟨lo, (lo + hi) / 2, by go_num, by go_num, by omega, by omega, by omega, HB1, ⟨by rw [HR.out, bsearch, if_pos hlt, if_pos HP.out]⟩⟩
    · have he : lo = hi := by omega
      go_wp2
      go_ret
      refine ⟨?_, HB.out⟩
      have : res = lo := by
        rw [HR.out]
        cases gk with
        | zero => rfl
        | succ k => rw [bsearch, if_neg hlt]
      rw [this]
      rfl

end Go.Proofs.Ytclbjddcenkidaa.PS
namespace Go.Proofs.Ytclbjddcenkidaa.PS
open Go.RowKit Go.Proofs.YtclbjddcenkidaaW.PrintWords Go.Proofs.YtclbjddcenkidaaW.PrintLast Go.Proofs.YtclbjddcenkidaaW.PrintMore
attribute [local go_sem] max2_int min2_int max_two min_two max_three min_three max_four min_four
theorem fits_take (k : Nat) (A : Option Addr) (c : Nat) (l : List Int) (n : Nat) (v lev ex : Int) (r : Bool) (W : World) (hn : n ≤ l.length) (hC : Kd.C (Kd.int .u8) W A l.length l) (hc : l.length ≤ c) (h : split_fits.f k (l.take n) v lev ex = some r) :
    Calls Try.prog 22 #[.slice A n c, .int .i64 v, .int .i64 lev, .int .i64 ex] W fun e w' => e = .returned (.bool r) ∧ Below W.heap.size W w' := by
  have hl : (l.take n).length = n := by rw [List.length_take]; omega
  have := split_fits.calls k A c (l.take n) v lev ex r W (Kd.C_take hC hn) (by omega) h
  rwa [hl] at this
set_option maxHeartbeats 4000000 in
set_option maxRecDepth 100000 in
theorem Cuts1_calls (b11 b4 b5 : Nat) (A : Option Addr) (c : Nat) (l : List Int) (v lev : Int) (i : Nat) (r : Bool) (k : Nat) (w : World)
    (h11 : w.cell? ⟨b11, 0, none⟩ = some (.slice A l.length c)) (h4 : w.cell? ⟨b4, 0, none⟩ = some (.int .i64 v)) (h5 : w.cell? ⟨b5, 0, none⟩ = some (.int .i64 lev))
    (hC : Kd.C (Kd.int .u8) w A l.length l) (hc : l.length ≤ c) (hi : i < l.length) (hlen : l.length ≤ 4096) (hf : split_fits.f k (l.take (i + 1)) v lev 20 = some r) :
    Calls Try.prog 24 #[.int .i64 i, .pointer (some ⟨b11, 0, none⟩), .pointer (some ⟨b4, 0, none⟩), .pointer (some ⟨b5, 0, none⟩)] w fun e w' => e = .returned (.bool !r) ∧ Below w.heap.size w w' := by
  have HC := Aside0.mk hC
  have HF := Aside0.mk hf
  have hw1 : IntKind.i64.wrap ((i : Int) + 1) = (i : Int) + 1 := IntWalk.i64_in _ (by omega)
  have hw2 : (0 : Int) ≤ (i : Int) + 1 := by omega
  have hw3 : (i : Int) + 1 ≤ (c : Int) := by omega
  have ht : ((i : Int) + 1).toNat = i + 1 := by omega
  clear hC hf
  go_enter Try.func24, Try.ntmps24
  go_wp2_with (fail)
  go_region_with (go_at_call 22; refine (fits_take k A c l (i + 1) v lev 20 r _ (by omega) (Kd.C_below HC.out (by repeat (first | exact Below.refl _ _ | apply below_alloc | apply pw_below_drewN | apply below_drew1))) hc HF.out).mono ?_; rintro e w1 ⟨rfl, hb1⟩)
  all_goals
    go_wp2
    go_ret
    exact ⟨rfl, below_step (by repeat (first | exact Below.refl _ _ | apply below_alloc | apply pw_below_drewN | apply below_drew1)) hb1⟩
/-- the greedy parts -/
def partS (v lev : Nat) (rest : List Int) : Nat := bsearch (fun i => !fitsS (rest.take (i + 1)) v lev 20) rest.length 0 rest.length
def cutsR (v lev : Nat) : Nat → List Int → List Int → List Int × Int
  | 0, rest, out => if rest.length = 0 then (out, 0) else ([], 16)
  | d + 1, rest, out => if rest.length = 0 then (out, 0) else if partS v lev rest = 0 then ([], 16) else cutsR v lev d (rest.drop (partS v lev rest)) (out ++ [(partS v lev rest : Int)])
def cutsS (l : List Int) (v lev : Nat) : List Int × Int := if fitsS l v lev 0 = true then ([(l.length : Int)], 0) else cutsR v lev 16 l []
def byteL (l : List Int) : Bool := l.all fun c => decide (0 ≤ c) && decide (c < 256)
def split_Cuts.f (l : List Int) (a1 a2 : Int) : Option (List Int × Int) :=
  if l.length ≤ 4096 ∧ byteL l = true then (if a1 < 1 ∨ 40 < a1 then some ([], 14) else if a2 < 1 ∨ 4 < a2 then some ([], 15) else some (cutsS l a1.toNat a2.toNat)) else none
theorem byteL_at {l : List Int} (h : byteL l = true) : ∀ c ∈ l, 0 ≤ c ∧ c < 256 := fun c hc => by
  have := List.all_eq_true.1 h c hc
  simpa using this
theorem capacity_err (a1 a2 : Int) : (a1 < 1 ∨ 40 < a1 → qrversion_Capacity.f a1 a2 = some (0, 14)) ∧ (1 ≤ a1 → a1 ≤ 40 → (a2 < 1 ∨ 4 < a2) → qrversion_Capacity.f a1 a2 = some (0, 15)) ∧
    (1 ≤ a1 → a1 ≤ 40 → 1 ≤ a2 → a2 ≤ 4 → ∃ x, qrversion_Capacity.f a1 a2 = some (x, 0)) := by
  unfold qrversion_Capacity.f qrversion_level.f qrversion_valid.f
  refine ⟨fun h => ?_, fun h1 h2 h => ?_, fun h1 h2 h3 h4 => ?_⟩
  · by_cases g : a1 ≥ 1
    · have e : decide (a1 ≤ 40) = false := by simp; omega
      rw [if_pos g, e]
      rfl
    · rw [if_neg g]
      rfl
  · have e : decide (a1 ≤ 40) = true := by simp; omega
    rw [if_pos h1, e]
    simp only [Option.bind_some, if_true]
    by_cases g : a2 < 1
    · rw [if_pos g]; rfl
    · rw [if_neg g, if_pos (by omega)]; rfl
  · have e : decide (a1 ≤ 40) = true := by simp; omega
    have e2 : qrversion_capacity.f a1 a2 = some (capV a1.toNat a2.toNat) := by unfold qrversion_capacity.f; rw [if_pos ⟨h1, h2, h3, h4⟩]
    rw [if_pos h1, e]
    simp only [Option.bind_some, if_true]
    rw [if_neg (by omega), if_neg (by omega), e2]
    exact ⟨_, rfl⟩
set_option maxHeartbeats 4000000 in
set_option maxRecDepth 100000 in
theorem Cuts_err (A : Option Addr) (c : Nat) (l : List Int) (a1 a2 x er : Int) (w : World) (hne : er ≠ 0) (hcap : qrversion_Capacity.f a1 a2 = some (x, er)) :
    Calls Try.prog 11 #[.slice A l.length c, .int .i64 a1, .int .i64 a2] w fun e w' => e = .returned (.tuple #[.slice none 0 0, .int .i64 er]) ∧ Below w.heap.size w w' := by
  have HC := Aside0.mk hcap
  have hne2 : (er != 0) = true := bne_iff_ne.2 hne
  clear hcap hne
  go_enter Try.func11, Try.ntmps11
  go_wp2_with (fail)
  refine (qrversion_Capacity.calls _ _ x er _ HC.out).mono ?_
  rintro e w1 ⟨rfl, hb1⟩
  have HB1 := Aside0.mk (below_then (by repeat (first | exact Below.refl _ _ | apply below_alloc)) (by simp; omega) hb1 : Below w.heap.size w w1)
  clear hb1
  go_wp2
  go_ret2
  exact ⟨rfl, HB1.out⟩

end Go.Proofs.Ytclbjddcenkidaa.PS
namespace Go.Proofs.Ytclbjddcenkidaa.PS
open Go.RowKit Go.Proofs.YtclbjddcenkidaaW.PrintWords Go.Proofs.YtclbjddcenkidaaW.PrintLast Go.Proofs.YtclbjddcenkidaaW.PrintMore
attribute [local go_sem] max2_int min2_int max_two min_two max_three min_three max_four min_four
theorem bsearch_congr (p q : Nat → Bool) (n : Nat) (h : ∀ i, i < n → p i = q i) : ∀ k lo hi, hi ≤ n → bsearch p k lo hi = bsearch q k lo hi
  | 0, _, _, _ => rfl
  | k + 1, lo, hi, hn => by
    unfold bsearch
    split
    · rename_i hlt
      rw [h _ (by omega)]
      split
      · exact bsearch_congr p q n h k _ _ (by omega)
      · exact bsearch_congr p q n h k _ _ hn
    · rfl
theorem fits_at (l : List Int) (hn : l.length ≤ 4096) (hx : ∀ c ∈ l, 0 ≤ c ∧ c < 256) (m : Nat) (v lv : Nat) (hlv : lv < 4) (ex : Int) (e0 : 0 ≤ ex) (e1 : ex ≤ 1000) : ∃ k, split_fits.f k (l.take m) v ((lv : Int) + 1) ex = some (fitsS (l.take m) v (lv + 1) ex) :=
  (fits_ev (l := l.take m) (by rw [List.length_take]; omega) (fun c hc => hx c (List.mem_of_mem_take hc)) hlv e0 e1 v).rounds
theorem below_step' {w W0 W1 : World} {n : Nat} (h : Below w.heap.size w W0) (hs : W0.heap.size = w.heap.size + n) (k : Below W0.heap.size W0 W1) : Below w.heap.size w W1 := below_then h (by omega) k
set_option maxHeartbeats 8000000 in
set_option maxRecDepth 100000 in
theorem Cuts_ok (A : Option Addr) (c : Nat) (l : List Int) (v lv : Nat) (w : World) (hv1 : 1 ≤ v) (hv2 : v ≤ 40) (hlv : lv < 4) (hn : l.length ≤ 4096) (hx : ∀ c ∈ l, 0 ≤ c ∧ c < 256) (hC : Kd.C (Kd.int .u8) w A l.length l) (hc : l.length ≤ c) (r : List Int × Int) (hr : cutsS l v (lv + 1) = r) :
    Calls Try.prog 11 #[.slice A l.length c, .int .i64 v, .int .i64 ((lv : Int) + 1)] w fun e w' => ∃ v0_ : Value, e = .returned (.tuple #[v0_, .int .i64 r.2]) ∧ Kd.R (Kd.int .i64) 3 w' w.heap.size (fun _ => True) v0_ r.1 ∧ Below w.heap.size w w' := by
  obtain ⟨x, hcap⟩ := (capacity_err (v : Int) ((lv : Int) + 1)).2.2 (by omega) (by omega) (by omega) (by omega)
  obtain ⟨k0, hf0⟩ := fits_at l hn hx l.length v lv hlv 0 (by omega) (by omega)
  have HCap := Aside0.mk hcap
  have HF0 := Aside0.mk hf0
  have HC := Aside0.mk hC
  have HX := Aside0.mk hx
  have HR := Aside0.mk hr
  clear hcap hf0 hC hx hr
  go_enter Try.func11, Try.ntmps11
  go_wp2_with (fail)
  refine (qrversion_Capacity.calls _ _ x 0 _ HCap.out).mono ?_
  rintro e w1 ⟨rfl, hb1⟩
  obtain ⟨W0, hW0⟩ : ∃ W0, W0 = (w.alloc (Obj.cells #[Value.int IntKind.i64 ↑v] 3)).alloc (Obj.cells #[Value.int IntKind.i64 (↑lv + 1)] 30) := ⟨_, rfl⟩
  rw [← hW0] at hb1
  have HW0 := Aside0.mk hW0
  have hs0 : W0.heap.size = w.heap.size + 2 := by rw [hW0]; simp
  have HS0 := Aside0.mk hs0
  have HB0 := Aside0.mk (by rw [hW0]; exact ((Below.refl _ _).alloc (Nat.le_refl _) _).alloc (by simp) _ : Below w.heap.size w W0)
  have hc4 : W0.cell? ⟨w.heap.size, 0, none⟩ = some (.int .i64 v) := by rw [hW0]; simp [go_sem]
  have hc5 : W0.cell? ⟨w.heap.size + 1, 0, none⟩ = some (.int .i64 ((lv : Int) + 1)) := by rw [hW0]; simp [go_sem]
  have HC4 := Aside0.mk hc4
  have HC5 := Aside0.mk hc5
  have HB1 := Aside0.mk hb1
  have d4 : w1.cell? ⟨w.heap.size, 0, none⟩ = some (.int .i64 v) := pw_cell_below hb1 hc4
  have d5 : w1.cell? ⟨w.heap.size + 1, 0, none⟩ = some (.int .i64 ((lv : Int) + 1)) := pw_cell_below hb1 hc5
  clear hb1 hc4 hc5 hs0 hW0
  have h41 : decide ((4096 : Int) < (l.length : Int)) = false := by simp; omega
  have hC1 : Kd.C (Kd.int .u8) w1 A l.length l := Kd.C_below HC.out (below_step' HB0.out HS0.out HB1.out)
  have HC1 := Aside0.mk hC1
  clear hC1
  go_wp2_with (fail)
  refine (fits_take k0 A c l l.length v ((lv : Int) + 1) 0 _ _ (Nat.le_refl _) HC1.out hc HF0.out).mono ?_
  rw [List.take_length]
  rintro e w2 ⟨rfl, hb2⟩
  have HB2 := Aside0.mk (below_then HB1.out HB1.out.size hb2 : Below W0.heap.size W0 w2)
  have d4 : w2.cell? ⟨w.heap.size, 0, none⟩ = some (.int .i64 v) := pw_cell_below hb2 d4
  have d5 : w2.cell? ⟨w.heap.size + 1, 0, none⟩ = some (.int .i64 ((lv : Int) + 1)) := pw_cell_below hb2 d5
  clear hb2
  cases hfit : fitsS l v (lv + 1) 0 with
  | true =>
    have hr1 := HR.out
    rw [cutsS, if_pos hfit] at hr1
    subst hr1
    clear hfit
    go_wp2
    go_ret2
    refine ⟨_, rfl, ?_, ?_⟩
    · exact Kd.R_of_own (enc := Value.int .i64) ⟨rfl, .inr ⟨w2.heap.size, 1, _, rfl, by have := HB2.out.size; have := HS0.out; omega, heap_alloc_new w2 _, Nat.le_refl _, by unfold maxLen; omega, rfl, rfl⟩⟩ (fun _ _ => trivial)
    · exact below_alloc (below_step' HB0.out HS0.out HB2.out) _
  | false =>
    have hr1 := HR.out
    rw [cutsS, if_neg (by rw [hfit]; simp)] at hr1
    have HR1 := Aside0.mk hr1
    clear hfit hr1
    go_wp2
    go_loopg [10, 11] 16 (fun kq v10 v11 wr => ∃ (out rest : List Int) (A' : Option Addr) (c' b11 : Nat), v11 = .pointer (some ⟨b11, 0, none⟩) ∧ kq + out.length = 16 ∧ rest.length ≤ c' ∧ rest.length ≤ 4096 ∧
        Aside0 (cutsR v (lv + 1) kq rest out = r) ∧ Aside0 (Kd.R (Kd.int .i64) 3 wr W0.heap.size (fun _ => True) v10 out) ∧ Aside0 (Below W0.heap.size W0 wr) ∧ Aside0 (wr.heap[b11]? = some (.cells #[.slice A' rest.length c'] 22 (0, 0))) ∧
        Aside0 (W0.heap.size ≤ b11) ∧ Aside0 (Kd.C (Kd.int .u8) w A' rest.length rest) ∧ Aside0 (∀ c ∈ rest, 0 ≤ c ∧ c < 256))
    case atStart => exact ⟨[], l, A, c, w2.heap.size, rfl, rfl, hc, hn, HR1, ⟨Kd.R_nil _ _ _ _ _⟩, ⟨below_alloc HB2.out _⟩, ⟨heap_alloc_new w2 _⟩, ⟨HB2.out.size⟩, HC, HX⟩
    case round =>
      clear HR HR1 HB2 d4 d5 HX HC
      obtain ⟨out, rest, A', c', b11, rfl, hk, hrc, hrn, HR, HO, HB, BK, GE, HC, HX⟩ := hrel
      obtain ⟨Ao, co, hv10⟩ := Kd.R_slice HO.out
      subst hv10
      have hx11 : wr.cell? ⟨b11, 0, none⟩ = some (.slice A' rest.length c') := (blk_cell BK.out 0).trans rfl
      by_cases h0 : rest.length = 0
      · have hr1 : cutsR v (lv + 1) gk rest out = (out, 0) := by
          cases gk <;> (unfold cutsR; rw [if_pos h0])
        have hr2 := HR.out.symm.trans hr1
        subst hr2
        go_wp2
        go_ret2
        exact ⟨_, rfl, Kd.R_lower HO.out (by have := HS0.out; omega), below_step' HB0.out HS0.out HB.out⟩
      · cases gk with
        | zero =>
          have hr1 : cutsR v (lv + 1) 0 rest out = ([], 16) := by unfold cutsR; rw [if_neg h0]
          have hr2 := HR.out.symm.trans hr1
          subst hr2
          have ho : ((out.length : Int) == 16) = true := by simp; omega
          go_wp2
          go_ret2
          exact ⟨_, rfl, Kd.R_nil _ _ _ _ _, below_step' HB0.out HS0.out HB.out⟩
        | succ d =>
          have hk16 : ((out.length : Int) == 16) = false := by
            apply Bool.eq_false_iff.2; intro h; rw [beq_iff_eq] at h; omega
          have HF := Aside0.mk (fun i => fits_at rest hrn HX.out i v lv hlv 20 (by omega) (by omega))
          go_wp2_with (fail)
          obtain ⟨n, hn1⟩ : ∃ n, n = partS v (lv + 1) rest := ⟨_, rfl⟩
          have HN := Aside0.mk hn1
          have hs := Search_calls 24 #[.pointer (some ⟨b11, 0, none⟩), .pointer (some ⟨w.heap.size, 0, none⟩), .pointer (some ⟨w.heap.size + 1, 0, none⟩)] rest.length (fun i => !fitsS (rest.take (i + 1)) v (lv + 1) 20) wr (enters_of Try.func24 (by kernel_rfl) rfl) (by omega) (fun W i hW hi => by
            obtain ⟨k1, hf1⟩ := HF.out (i + 1)
            exact (Cuts1_calls b11 w.heap.size (w.heap.size + 1) A' c' rest v ((lv : Int) + 1) i _ k1 W (pw_cell_below hW hx11) (pw_cell_below hW (pw_cell_below HB.out HC4.out)) (pw_cell_below hW (pw_cell_below HB.out HC5.out)) (Kd.C_below (Kd.C_below HC.out (below_step' HB0.out HS0.out HB.out)) hW) hrc hi hrn hf1).mono (fun e w' h => ⟨h.1, below_then hW hW.size h.2⟩))
          rw [show bsearch (fun i => !fitsS (rest.take (i + 1)) v (lv + 1) 20) rest.length 0 rest.length = n from hn1.symm] at hs
          have hnl : n ≤ rest.length := by rw [hn1]; exact (bsearch_le _ _ _ _ (Nat.zero_le _)).2
          refine hs.mono ?_
          clear hs hn1
          rintro e w3 ⟨rfl, hb3⟩
          have HB3 := Aside0.mk hb3
          clear hb3
          have HB := Aside0.mk (below_then HB.out HB.out.size HB3.out : Below W0.heap.size W0 w3)
          have BK := Aside0.mk (blk_below BK.out HB3.out : w3.heap[b11]? = some (.cells #[.slice A' rest.length c'] 22 (0, 0)))
          have HO := Aside0.mk (Kd.R_below HO.out HB3.out)
          have hx11 : w3.cell? ⟨b11, 0, none⟩ = some (.slice A' rest.length c') := (blk_cell BK.out 0).trans rfl
          by_cases hn0 : n = 0
          · have hr1 : cutsR v (lv + 1) (d + 1) rest out = ([], 16) := by rw [cutsR, if_neg h0, if_pos (HN.out.symm.trans hn0)]
            have hr2 := HR.out.symm.trans hr1
            subst hr2
            subst hn0
            go_wp2
            go_ret2
            exact ⟨_, rfl, Kd.R_nil _ _ _ _ _, below_step' HB0.out HS0.out HB.out⟩
          · have hz : ((n : Int) == 0) = false := by apply Bool.eq_false_iff.2; intro h; rw [beq_iff_eq] at h; omega
            have GB := Aside0.mk (Nat.le_trans GE.out (Nat.le_refl _) : W0.heap.size ≤ b11)
            have FB := blk_frozen BK.out 0
            have hxa : (w3.alloc (.cells #[.int .i64 n] 3)).cell? ⟨b11, 0, none⟩ = some (.slice A' rest.length c') := (blk_cell (blk_alloc BK.out _) 0).trans rfl
            have FBa := blk_frozen (blk_alloc BK.out (.cells #[.int .i64 n] 3)) 0
            obtain ⟨i0q, hi0q, _, hszq, _⟩ := info_parts info5
            obtain ⟨A2, hA2⟩ : ∃ A2, A2 = (if c' = n then A' else A'.map (·.add (n * 1))) := ⟨_, rfl⟩
            have HCD := Aside0.mk (by rw [hA2]; exact Kd.C_drop HC.out hnl hrc : (Kd.int .u8).C w A2 (rest.drop n).length (rest.drop n))
            have hcut : ∀ W : World, (Instr.slice 22 (.slice A' rest.length c') (some (.int .i64 (n : Int))) none none).run Try.prog W = .ok (.slice A2 (rest.length - n) (c' - n)) W := fun W => by
              rw [cut_from (P := Try.prog) 22 5 .i64 Try.underlying22 hi0q 1 hszq A' rest.length c' (n : Int) (by omega) (by omega) W, Int.toNat_natCast, hA2]
            clear hA2
            go_wp2_with (fail)
            go_region_law ((first | refine Kd.R_append_step (Kd.int .i64) (w0 := W0) (W := w3) W0.heap.size (by rfl) (.tmp 45) (.tmp 47) 26 3 (.int .i64 0) 8 rfl Try.underlying26 info3 rfl (by decide) (by omega) (.slice Ao out.length co) out (n : Int) [.int .i64 n] (fun _ => True) (fun _ => False) rfl rfl ?aP (fun _ hk => hk.elim) (fun _ _ => trivial) ?aO ?aB ?aS ?aL ?_ | refine Kd.R_append_step (Kd.int .i64) (w0 := W0) (W := w3.drew) W0.heap.size (by rfl) (.tmp 45) (.tmp 47) 26 3 (.int .i64 0) 8 rfl Try.underlying26 info3 rfl (by decide) (by omega) (.slice Ao out.length co) out (n : Int) [.int .i64 n] (fun _ => True) (fun _ => False) rfl rfl ?aP (fun _ hk => hk.elim) (fun _ _ => trivial) ?aO ?aB ?aS ?aL ?_ | refine Kd.R_append_step (Kd.int .i64) (w0 := W0) (W := w3.drew.drew) W0.heap.size (by rfl) (.tmp 45) (.tmp 47) 26 3 (.int .i64 0) 8 rfl Try.underlying26 info3 rfl (by decide) (by omega) (.slice Ao out.length co) out (n : Int) [.int .i64 n] (fun _ => True) (fun _ => False) rfl rfl ?aP (fun _ hk => hk.elim) (fun _ _ => trivial) ?aO ?aB ?aS ?aL ?_); (case aP => exact rfl); (case aO => with_reducible repeat (first | exact HO.out | apply Kd.R_drewN | apply Kd.R_drew)); (case aB => exact (by repeat (first | exact HB.out | apply below_alloc | apply pw_below_drewN | apply below_drew1))); (case aS => exact below_size (by repeat (first | exact HB.out | apply below_alloc | apply pw_below_drewN | apply below_drew1))); (case aL => omega); intro v48 w4 ho hb hg hat; have BK4 := Aside0.mk (blk_grown (g := b11) (by (with_reducible repeat (first | refine blk_drewN ?_ _ | refine blk_drew ?_ | refine blk_alloc ?_ _)); exact BK.out) hg (Kd.R_ne HO.out BK.out (by decide))); have HO4 := Aside0.mk ho; have HB4 := Aside0.mk hb; have hx4 : w4.cell? ⟨b11, 0, none⟩ = some (.slice A' rest.length c') := (blk_cell BK4.out 0).trans rfl; have FB4 := blk_frozen BK4.out 0; clear ho hb hg hat)
            all_goals
              have HO5 := Aside0.mk (Kd.R_mono (Kd.R_far (p := ⟨b11, 0, none⟩) (Kd.R_types HO4.out BK4.out (by decide)) (fun _ hk => hk.2) (.slice A2 (rest.length - n) (c' - n))) (fun _ _ => trivial))
              have HB5 := Aside0.mk (below_set HB4.out GB.out : Below W0.heap.size W0 (w4.setCell ⟨b11, 0, none⟩ (.slice A2 (rest.length - n) (c' - n))))
              have BK5 := Aside0.mk (blk_put BK4.out 0 (.slice A2 (rest.length - n) (c' - n)) rfl)
              have hx5 := (blk_cell BK5.out 0).trans rfl
              clear HO4 HB4 BK4 hx4 FB4 hxa FBa
              generalize w4.setCell ⟨b11, 0, none⟩ (.slice A2 (rest.length - n) (c' - n)) = w5 at HO5 HB5 BK5 hx5 ⊢
              go_wp2
              go_roundg d
              case measure => omega
              case rel => exact ⟨out ++ [(n : Int)], rest.drop n, A2, c' - n, w5.heap.size, rfl, by simp; omega, by simp; omega, by simp; omega, ⟨by rw [← HR.out, cutsR, if_neg h0, if_neg (by rw [← HN.out]; exact hn0), ← HN.out]⟩, ⟨Kd.R_alloc HO5.out _⟩, ⟨below_alloc HB5.out _⟩, ⟨by rw [List.length_drop]; exact heap_alloc_new w5 _⟩, ⟨HB5.out.size⟩, HCD, ⟨fun c hc => HX.out c (List.mem_of_mem_drop hc)⟩⟩
theorem Cuts_calls (A : Option Addr) (c : Nat) (l : List Int) (a1 a2 : Int) (r1 : List Int) (r2 : Int) (w : World) (hC : Kd.C (Kd.int .u8) w A l.length l) (hc : l.length ≤ c) (h : split_Cuts.f l a1 a2 = some (r1, r2)) :
    Calls Try.prog 11 #[.slice A l.length c, .int .i64 a1, .int .i64 a2] w fun e w' => ∃ v0_ : Value, e = .returned (.tuple #[v0_, .int .i64 r2]) ∧ Kd.R (Kd.int .i64) 3 w' w.heap.size (fun _ => True) v0_ r1 ∧ Below w.heap.size w w' := by
  unfold split_Cuts.f at h
  split at h
  · rename_i hg
    obtain ⟨h1, h2, h3⟩ := capacity_err a1 a2
    split at h
    · rename_i he
      simp only [Option.some.injEq, Prod.mk.injEq] at h
      obtain ⟨rfl, rfl⟩ := h
      exact (Cuts_err A c l a1 a2 0 14 w (by decide) (h1 he)).mono fun e w' h => ⟨_, h.1, Kd.R_nil _ _ _ _ _, h.2⟩
    · rename_i he
      split at h
      · rename_i he2
        simp only [Option.some.injEq, Prod.mk.injEq] at h
        obtain ⟨rfl, rfl⟩ := h
        exact (Cuts_err A c l a1 a2 0 15 w (by decide) (h2 (by omega) (by omega) he2)).mono fun e w' h => ⟨_, h.1, Kd.R_nil _ _ _ _ _, h.2⟩
      · rename_i he2
        have e1 : ((a1.toNat : Nat) : Int) = a1 := by omega
        obtain ⟨lv, hlv⟩ : ∃ lv, a2.toNat = lv + 1 := ⟨a2.toNat - 1, by omega⟩
        have e2 : ((lv : Nat) : Int) + 1 = a2 := by omega
        have := Cuts_ok A c l a1.toNat lv w (by omega) (by omega) (by omega) hg.1 (byteL_at hg.2) hC hc (r1, r2) (by rw [← hlv]; exact Option.some.inj h)
        rw [e1, e2] at this
        exact this
  · exact nomatch h

end Go.Proofs.Ytclbjddcenkidaa.PS
namespace Go.Proofs.Ytclbjddcenkidaa.PS
open Go.RowKit Go.Proofs.YtclbjddcenkidaaW.PrintWords Go.Proofs.YtclbjddcenkidaaW.PrintLast Go.Proofs.YtclbjddcenkidaaW.PrintMore
attribute [local go_sem] max2_int min2_int max_two min_two max_three min_three max_four min_four   -- for this text's walks alone

theorem split_Cuts.calls (A : Option Addr) (c : Nat) (l : List Int) (a1 a2 : Int) (r1 : List Int) (r2 : Int) (w : World) (hC : Kd.C (Kd.int .u8) w A l.length l) (hc : l.length ≤ c) (h : split_Cuts.f l a1 a2 = some (r1, r2)) :
  Calls Try.prog 11 #[.slice A l.length c, .int .i64 a1, .int .i64 a2] w fun e w' => ∃ v0_ : Value, e = .returned (.tuple #[v0_, .int .i64 r2]) ∧ Kd.R (Kd.int .i64) 3 w' w.heap.size (fun _ => True) v0_ r1 ∧ Below w.heap.size w w' := Cuts_calls A c l a1 a2 r1 r2 w hC hc h

end Go.Proofs.Ytclbjddcenkidaa.PS
namespace Go.Proofs.Ytclbjddcenkidaa.PS
open Go.RowKit Go.Proofs.YtclbjddcenkidaaW.PrintWords Go.Proofs.YtclbjddcenkidaaW.PrintLast Go.Proofs.YtclbjddcenkidaaW.PrintMore
attribute [local go_sem] max2_int min2_int max_two min_two max_three min_three max_four min_four
def digits50 : List Int := (List.range 50).map fun n => ((48 + n % 10 : Nat) : Int)
theorem cuts_ex : cutsS (digits50 ++ digits50) 1 1 = ([35, 35, 30], 0) := by decide +kernel

end Go.Proofs.Ytclbjddcenkidaa.PS
namespace Go.Proofs.Ytclbjddcenkidaa.PS
open Go.RowKit Go.Proofs.YtclbjddcenkidaaW.PrintWords Go.Proofs.YtclbjddcenkidaaW.PrintLast Go.Proofs.YtclbjddcenkidaaW.PrintMore
attribute [local go_sem] max2_int min2_int max_two min_two max_three min_three max_four min_four   -- for this text's walks alone

def split_Parity.l0 : Nat → Int → List Int → Int → Int → Option (Int)
 | 0, _, _, _, _ => none
 | k + 1, x3, x6, x7, x8 => if x8 < x7 then (if 0 ≤ x8 then (if x8 < (x6.length : Int) then (split_Parity.l0 k (Go.bits .xor .u8 x3 (rd x6 x8)) x6 x7 (wrap64 (x8 + 1))) else (none)) else (none)) else (some (wrap64 (x3)))
def split_Parity.f (k : Nat) (l0 : List Int) : Option (Int) := split_Parity.l0 k 0 l0 (l0.length : Int) 0
theorem split_Parity.mono_l : ∀ k, (∀ y0 y1 y2 y3, LeO (split_Parity.l0 k y0 y1 y2 y3) (split_Parity.l0 (k + 1) y0 y1 y2 y3))
 | 0 => fun _ _ _ _ r h => by simp [split_Parity.l0] at h
 | k + 1 => by
  have ih0 := split_Parity.mono_l k
  ·intro y0 y1 y2 y3
   unfold split_Parity.l0
   repeat' first
   | (with_reducible exact ih0 _ _ _ _)
   | (with_reducible exact LeO.refl _)
   | (with_reducible exact LeO.none _)
   | (with_reducible refine LeO.ite ?_ ?_)
   | (with_reducible refine LeO.bind ?_ (fun _ => ?_))
   | exact ih0 _ _ _ _
   | exact LeO.none _
   | refine LeO.ite ?_ ?_
   | refine LeO.bind ?_ (fun _ => ?_)
theorem split_Parity.mono : ∀ a0 k, LeO (split_Parity.f k a0) (split_Parity.f (k + 1) a0) := by
 intro a0 k
 have ih0 := split_Parity.mono_l k
 unfold split_Parity.f
 repeat' first
   | (with_reducible exact ih0 _ _ _ _)
   | (with_reducible exact LeO.refl _)
   | (with_reducible exact LeO.none _)
   | (with_reducible refine LeO.ite ?_ ?_)
   | (with_reducible refine LeO.bind ?_ (fun _ => ?_))
   | exact ih0 _ _ _ _
   | exact LeO.none _
   | refine LeO.ite ?_ ?_
   | refine LeO.bind ?_ (fun _ => ?_)
set_option maxHeartbeats 8000000 in
set_option maxRecDepth 100000 in
theorem split_Parity.calls (k : Nat) (A0 : Option Addr) (c0 : Nat) (l0 : List Int) (r : Int) (w : World) (hr0 : Kd.C (Kd.int .u8) w A0 l0.length l0) (hc0 : l0.length ≤ c0) (h : split_Parity.f k l0 = some r) :
  Calls Try.prog 8 #[.slice A0 l0.length c0] w fun e w' => e = .returned (.int .i64 r) ∧ Drawn0 w w' := by
 have HR0 := Aside0.mk hr0
 have HC0 := Aside0.mk hc0
 clear hr0 hc0
 have H : (split_Parity.l0 k 0 l0 (l0.length : Int) 0) = some r := h
 clear h
 have H' := Aside0.mk H
 clear H
 go_enter Try.func8, Try.ntmps8
 go_wp2
 go_loopg [3, 8] k (fun kq v3 v8 w' => ∃ (x3_1 : Int) (x8_1 : Int), v3 = .int .u8 x3_1 ∧ v8 = .int .i64 x8_1 ∧ Aside0 (split_Parity.l0 kq x3_1 l0 (l0.length : Int) x8_1 = some r) ∧ Aside0 (kq ≤ k) ∧ Drawn0 w w')
 case atStart => exact ⟨(0), (0), (by first | rfl | (simp; done) | (simp [*]; done)), (by first | rfl | (simp; done) | (simp [*]; done)), H', ⟨Nat.le_refl _⟩, by repeat (first | exact Drawn0.refl _ | apply Drawn0.step)⟩
 case round =>
  clear H'
  obtain ⟨x3_1, x8_1, rfl, rfl, HA, HK1, ⟨m1, rfl⟩⟩ := hrel
  cases gk with
  | zero => exact absurd HA.out (by simp [split_Parity.l0])
  | succ k1 =>
   have H := HA.out
   clear HA
   simp only [split_Parity.l0] at H
   by_cases c2 : x8_1 < (l0.length : Int)
   ·rw [if_pos c2] at H
    have c2b0 : decide (x8_1 < (l0.length : Int)) = true := decide_eq_true c2
    clear c2
    by_cases c3 : 0 ≤ x8_1
    ·rw [if_pos c3] at H
     have c3b0 : decide (0 ≤ x8_1) = true := decide_eq_true c3
     clear c3
     by_cases c4 : x8_1 < (l0.length : Int)
     ·rw [if_pos c4] at H
      have c4b0 : decide (x8_1 < (l0.length : Int)) = true := decide_eq_true c4
      clear c4
      have H' := Aside0.mk H
      clear H
      have p101 : 0 ≤ (x8_1 : Int) := of_decide_eq_true (by first | (with_reducible assumption) | assumption)
      have q101 : x8_1 < (l0.length : Int) := of_decide_eq_true (by first | (with_reducible assumption) | assumption)
      obtain ⟨ad101, e101, hx101_0⟩ := Kd.at_int HR0.out x8_1 p101 q101
      cases e101
      replace p101 := eq_true p101
      replace q101 := eq_true q101
      go_wp2
      go_roundg k1
      case measure => have := HK1.out; omega
      case rel => exact ⟨(Go.bits .xor .u8 x3_1 (rd l0 x8_1)), (wrap64 (x8_1 + 1)), (by first | rfl | (simp; done) | (simp [*]; done)), (by first | rfl | (simp; done) | (simp [*]; done)), H', ⟨by have := HK1.out; omega⟩, by repeat (first | exact Drawn0.refl _ | apply Drawn0.step)⟩
     ·rw [if_neg c4] at H
      exact absurd H (by simp)
    ·rw [if_neg c3] at H
     exact absurd H (by simp)
   ·rw [if_neg c2] at H
    have c2b0 : decide (x8_1 < (l0.length : Int)) = false := decide_eq_false c2
    clear c2
    obtain rfl := Option.some.inj H
    go_wp2
    go_ret
    exact ⟨by first | rfl | (simp; done) | (simp [*]; done), by repeat (first | exact Drawn0.refl _ | apply Drawn0.step)⟩

end Go.Proofs.Ytclbjddcenkidaa.PS
namespace Go.Proofs.Ytclbjddcenkidaa.PS
open Go.RowKit Go.Proofs.YtclbjddcenkidaaW.PrintWords Go.Proofs.YtclbjddcenkidaaW.PrintLast Go.Proofs.YtclbjddcenkidaaW.PrintMore
attribute [local go_sem] max2_int min2_int max_two min_two max_three min_three max_four min_four   -- for this text's walks alone

def modes_Join.l0 : Nat → List Int → List (S54) → Int → Int → Option (List Int)
 | 0, _, _, _, _ => none
 | k + 1, x3, x6, x7, x8 => if x8 < x7 then (if 0 ≤ x8 then (if x8 < (x6.length : Int) then (if x3.length + ((rd_T54 x6 x8).f1).length < 140737488355328 then (modes_Join.l0 k (x3 ++ ((rd_T54 x6 x8).f1)) x6 x7 (wrap64 (x8 + 1))) else (none)) else (none)) else (none)) else (some x3)
def modes_Join.f (k : Nat) (l0 : List (S54)) : Option (List Int) := modes_Join.l0 k ([] : List Int) l0 (l0.length : Int) 0
theorem modes_Join.mono_l : ∀ k, (∀ y0 y1 y2 y3, LeO (modes_Join.l0 k y0 y1 y2 y3) (modes_Join.l0 (k + 1) y0 y1 y2 y3))
 | 0 => fun _ _ _ _ r h => by simp [modes_Join.l0] at h
 | k + 1 => by
  have ih0 := modes_Join.mono_l k
  ·intro y0 y1 y2 y3
   unfold modes_Join.l0
   repeat' first
   | (with_reducible exact ih0 _ _ _ _)
   | (with_reducible exact LeO.refl _)
   | (with_reducible exact LeO.none _)
   | (with_reducible refine LeO.ite ?_ ?_)
   | (with_reducible refine LeO.bind ?_ (fun _ => ?_))
   | exact ih0 _ _ _ _
   | exact LeO.none _
   | refine LeO.ite ?_ ?_
   | refine LeO.bind ?_ (fun _ => ?_)
theorem modes_Join.mono : ∀ a0 k, LeO (modes_Join.f k a0) (modes_Join.f (k + 1) a0) := by
 intro a0 k
 have ih0 := modes_Join.mono_l k
 unfold modes_Join.f
 repeat' first
   | (with_reducible exact ih0 _ _ _ _)
   | (with_reducible exact LeO.refl _)
   | (with_reducible exact LeO.none _)
   | (with_reducible refine LeO.ite ?_ ?_)
   | (with_reducible refine LeO.bind ?_ (fun _ => ?_))
   | exact ih0 _ _ _ _
   | exact LeO.none _
   | refine LeO.ite ?_ ?_
   | refine LeO.bind ?_ (fun _ => ?_)
set_option maxHeartbeats 8000000 in
set_option maxRecDepth 100000 in
theorem modes_Join.calls (k : Nat) (A0 : Option Addr) (c0 : Nat) (l0 : List (S54)) (r : List Int) (w : World) (hr0 : Kd.C k54 w A0 l0.length l0) (hc0 : l0.length ≤ c0) (h : modes_Join.f k l0 = some r) :
  Calls Try.prog 38 #[.slice A0 l0.length c0] w fun e w' => ∃ v0_ : Value, e = .returned (v0_) ∧ Kd.R (Kd.int .u8) 5 w' w.heap.size (fun _ => True) v0_ r ∧ Below w.heap.size w w' := by
 have hu54 := Try.underlying54
 have HR0 := Aside0.mk hr0
 have HC0 := Aside0.mk hc0
 clear hr0 hc0
 have HB := Aside0.mk (Below.refl w.heap.size w)
 have H : (modes_Join.l0 k ([] : List Int) l0 (l0.length : Int) 0) = some r := h
 clear h
 have H' := Aside0.mk H
 clear H
 go_enter Try.func38, Try.ntmps38
 go_wp2
 go_loopg [3, 8] k (fun kq v3 v8 w' => ∃ (x3_1 : List Int) (x8_1 : Int), v8 = .int .i64 x8_1 ∧ Aside0 (modes_Join.l0 kq x3_1 l0 (l0.length : Int) x8_1 = some r) ∧ Aside0 (kq ≤ k) ∧ Aside0 (Kd.R (Kd.int .u8) 5 w' w.heap.size (fun _ => True) v3 x3_1) ∧ Aside0 (Below w.heap.size w w'))
 case atStart => exact ⟨(([] : List Int)), (0), (by first | rfl | (simp; done) | (simp [*]; done)), H', ⟨Nat.le_refl _⟩, ⟨by first | exact Kd.R_nil _ _ _ _ _ | exact Kd.N_nil _ _ _ _ _ | exact Kd.V_nil _ _ _ _ _ | exact Kd.Q_nil _ _ _ _ _ | exact Kd.S_nil _ _ _ _ _⟩, ⟨by repeat (first | (with_reducible first | exact HB.out | apply below_alloc | apply pw_below_drewN | apply below_drew1) | exact HB.out)⟩⟩
 case round =>
  clear H'
  obtain ⟨x3_1, x8_1, rfl, HA, HK1, HO_3, HB⟩ := hrel
  cases gk with
  | zero => exact absurd HA.out (by simp [modes_Join.l0])
  | succ k1 =>
   have H := HA.out
   clear HA
   simp only [modes_Join.l0] at H
   by_cases c2 : x8_1 < (l0.length : Int)
   ·rw [if_pos c2] at H
    have c2b0 : decide (x8_1 < (l0.length : Int)) = true := decide_eq_true c2
    clear c2
    by_cases c3 : 0 ≤ x8_1
    ·rw [if_pos c3] at H
     have c3b0 : decide (0 ≤ x8_1) = true := decide_eq_true c3
     clear c3
     by_cases c4 : x8_1 < (l0.length : Int)
     ·rw [if_pos c4] at H
      have c4b0 : decide (x8_1 < (l0.length : Int)) = true := decide_eq_true c4
      clear c4
      by_cases c5 : x3_1.length + ((rd_T54 l0 x8_1).f1).length < 140737488355328
      ·rw [if_pos c5] at H
       have LMc5 := Aside0.mk c5
       clear c5
       obtain ⟨y178, hy178⟩ : ∃ y_ : List Int, y_ = (x3_1 ++ ((rd_T54 l0 x8_1).f1)) := ⟨_, rfl⟩
       replace H : (modes_Join.l0 k1 y178 l0 (l0.length : Int) (wrap64 (x8_1 + 1))) = some r := by first | (rw [hy178]; with_reducible exact H) | (have H2_ := (Option.bind_some _ _).symm.trans H; rw [hy178]; with_reducible exact H2_) | (have H2_ := (Option.bind_some _ _).symm.trans H; with_reducible exact H2_) | with_reducible exact H | (rw [hy178]; exact H) | exact H
       have Ny178 := Aside0.mk hy178
       clear hy178
       have H' := Aside0.mk H
       clear H
       have p176 : 0 ≤ (x8_1 : Int) := of_decide_eq_true (by first | (with_reducible assumption) | assumption)
       have q176 : x8_1 < (l0.length : Int) := of_decide_eq_true (by first | (with_reducible assumption) | assumption)
       obtain ⟨ad176, A176_1, c176_1, e176, hx176_0, hx176_1, hl176_1, hi176_1⟩ := at_T54 HR0.out x8_1 p176 q176
       cases e176
       replace hx176_0 := (HB.out.cell (World.block_lt_of_cell? w _ hx176_0)).trans hx176_0
       replace hx176_1 := (HB.out.cell (World.block_lt_of_cell? w _ hx176_1)).trans hx176_1
       have HR176_1 := Aside0.mk hi176_1
       have HC176_1 := Aside0.mk hl176_1
       clear hi176_1 hl176_1
       replace p176 := eq_true p176
       replace q176 := eq_true q176
       go_wp2_with (first | ((with_reducible refine gate_dst (N := 5) rfl ?_); refine box_event ?hg (N := 5) ?hd (cs := #[.int .i64 0, .slice none 0 0]) (t := 54) ?hr ?_; (case hd => rfl); (case hg => rfl); (case hr => first | (go_simp; done) | (go_simp; rfl)); intro gb177 hg w6 hbox hb; have n0_ := Aside0.mk (Kd.R_below (by (with_reducible repeat (first | apply Kd.R_alloc | apply Kd.R_drewN | apply Kd.R_drew)); exact HO_3.out) hb); have n1_ := Aside0.mk (below_step (by repeat (first | (with_reducible first | exact HB.out | apply below_alloc | apply pw_below_drewN | apply below_drew1) | exact HB.out)) hb); have n2_ := Aside0.mk (hbox); have n3_ := Aside0.mk ((by rw [hg]; exact (below_size (by repeat (first | (with_reducible first | exact HB.out | apply below_alloc | apply pw_below_drewN | apply below_drew1) | exact HB.out))) : w.heap.size ≤ gb177)); have n4_ := Aside0.mk ((by rw [hg]; exact (below_size (by repeat (first | (with_reducible first | exact HB.out | apply below_alloc | apply pw_below_drewN | apply below_drew1) | exact HB.out))) : w.heap.size ≤ gb177)); clear HO_3; clear HB; have HO_3 := n0_; have HB := n1_; have BK177 := n2_; have GW177 := n3_; have GE177 := n4_; clear n0_ n1_ n2_ n3_ n4_; clear hb hbox hg; have hcz7_0 : w6.cell? ⟨gb177, 0, none⟩ = some (.int .i64 0) := (blk_cell BK177.out 0).trans rfl; have hcz7_1 : w6.cell? ⟨gb177, 1, none⟩ = some (.slice none 0 0) := (blk_cell BK177.out 1).trans rfl; have hfz7_0 := blk_frozen BK177.out 0; have hfz7_1 := blk_frozen BK177.out 1) | ((with_reducible refine gate_builtin (b := .append) (xs := #[.tmp 12, .tmp 14]) rfl ?_); at_builtin; refine Kd.R_append_rows (Kd.int .u8) (w0 := w) w.heap.size rfl (.tmp 12) (.tmp 14) 22 5 (.int .u8 0) 1 rfl Try.underlying22 info5 rfl (by decide) (by omega) u3 x3_1 ((rd_T54 l0 x8_1).f1) _ _ _ (fun _ => True) (fun _ => False) rfl rfl ?aO ?aR (fun _ _ h => h) (fun _ h => h.elim) ?aF ?aB ?aS ?aL ?_; (case aR => exact Kd.C_below HR176_1.out (by repeat (first | (with_reducible first | exact HB.out | apply below_alloc | apply pw_below_drewN | apply below_drew1 | refine below_set ?_ GE177.out) | exact HB.out))); (case aB => exact (by repeat (first | (with_reducible first | exact HB.out | apply below_alloc | apply pw_below_drewN | apply below_drew1 | refine below_set ?_ GE177.out) | exact HB.out))); (case aF => exact (fun _ _ => trivial)); (case aO => exact (by (with_reducible repeat (first | apply Kd.R_alloc | apply Kd.R_drewN | apply Kd.R_drew)); exact Kd.R_mono (Kd.R_far (p := ⟨gb177, 1, none⟩) (Kd.R_far (p := ⟨gb177, 0, none⟩) (Kd.R_types HO_3.out BK177.out (by decide)) (fun _ hk => hk.2) (.int .i64 ((rd_T54 l0 x8_1).f0))) (fun _ hk => hk.2) (.slice A176_1 ((rd_T54 l0 x8_1).f1).length c176_1)) (fun _ hk => trivial))); (case aS => exact (below_size (by repeat (first | (with_reducible first | exact HB.out | apply below_alloc | apply pw_below_drewN | apply below_drew1 | refine below_set ?_ GE177.out) | exact HB.out)))); (case aL => have := LMc5.out; omega); intro v179 w8 ho hb hg hat; rw [← Ny178.out] at ho; have n0_ := Aside0.mk (blk_grown (g := gb177) (o := .cells #[.int .i64 ((rd_T54 l0 x8_1).f0), .slice A176_1 ((rd_T54 l0 x8_1).f1).length c176_1] 54 (0, 0)) (by (with_reducible repeat (first | refine blk_drewN ?_ _ | refine blk_drew ?_ | refine blk_alloc ?_ _)); refine blk_put (cs := #[.int .i64 ((rd_T54 l0 x8_1).f0), .slice none 0 0]) ?_ 1 _ rfl; (with_reducible repeat (first | refine blk_drewN ?_ _ | refine blk_drew ?_ | refine blk_alloc ?_ _)); refine blk_put (cs := #[.int .i64 0, .slice none 0 0]) ?_ 0 _ rfl; (with_reducible repeat (first | refine blk_drewN ?_ _ | refine blk_drew ?_ | refine blk_alloc ?_ _)); exact BK177.out) hg (Kd.R_ne HO_3.out BK177.out (by decide))); have n1_ := Aside0.mk (hb); have n2_ := Aside0.mk (ho); clear BK177; clear HB; clear HO_3; have BK177 := n0_; have HB := n1_; have HO180 := n2_; clear n0_ n1_ n2_; clear ho hb hg hat))
       go_roundg k1
       case measure => have := HK1.out; omega
       case rel => exact ⟨(y178), (wrap64 (x8_1 + 1)), (by first | rfl | (simp; done) | (simp [*]; done)), H', ⟨by have := HK1.out; omega⟩, ⟨by (with_reducible repeat (first | apply Kd.R_alloc | apply Kd.R_drewN | apply Kd.R_drew)); exact HO180.out⟩, ⟨by repeat (first | (with_reducible first | exact HB.out | apply below_alloc | apply pw_below_drewN | apply below_drew1 | refine below_set ?_ GE177.out) | exact HB.out)⟩⟩
      ·rw [if_neg c5] at H
       exact absurd H (by simp)
     ·rw [if_neg c4] at H
      exact absurd H (by simp)
    ·rw [if_neg c3] at H
     exact absurd H (by simp)
   ·rw [if_neg c2] at H
    have c2b0 : decide (x8_1 < (l0.length : Int)) = false := decide_eq_false c2
    clear c2
    obtain rfl := Option.some.inj H
    go_wp2
    go_ret
    exact ⟨_, by first | rfl | (simp [errW_none, errW_some] <;> rfl) | (simp [*, errW_none, errW_some] <;> rfl), by (with_reducible repeat (first | apply Kd.R_alloc | apply Kd.R_drewN | apply Kd.R_drew)); exact HO_3.out, by repeat (first | (with_reducible first | exact HB.out | apply below_alloc | apply pw_below_drewN | apply below_drew1) | exact HB.out)⟩

end Go.Proofs.Ytclbjddcenkidaa.PS
namespace Go.Proofs.Ytclbjddcenkidaa.PS
open Go.RowKit Go.Proofs.YtclbjddcenkidaaW.PrintWords Go.Proofs.YtclbjddcenkidaaW.PrintLast Go.Proofs.YtclbjddcenkidaaW.PrintMore
attribute [local go_sem] max2_int min2_int max_two min_two max_three min_three max_four min_four   -- for this text's walks alone

theorem eqA40 (d : Nat) (w : World) (x0 y0 : Int) (x1 y1 : Int) (x2 y2 : Int) :
  (Op.equalIn (d + 2) 40 (.agg #[.int .i64 x0, .int .i64 x1, .int .i64 x2]) (.agg #[.int .i64 y0, .int .i64 y1, .int .i64 y2])).run Try.prog w = .ok (x0 == y0 && (x1 == y1 && (x2 == y2))) w := by
 refine eqA_of Try.underlying40 (by kernel_rfl) ?_
 refine eqf_cons (by rfl) (by go_simp; rfl) (by go_simp; rfl) (by go_simp) ?_
 refine eqf_cons (by rfl) (by go_simp; rfl) (by go_simp; rfl) (by go_simp) ?_
 exact eqf_last (by rfl) (by go_simp; rfl) (by go_simp; rfl) (by go_simp)
end Go.Proofs.Ytclbjddcenkidaa.PS
namespace Go.Proofs.Ytclbjddcenkidaa.PS
open Go.RowKit Go.Proofs.YtclbjddcenkidaaW.PrintWords Go.Proofs.YtclbjddcenkidaaW.PrintLast Go.Proofs.YtclbjddcenkidaaW.PrintMore
attribute [local go_sem] max2_int min2_int max_two min_two max_three min_three max_four min_four   -- for this text's walks alone

attribute [local go_sem high] eqA40
def split_valid.f (a0_0 : Int) (a0_1 : Int) (a0_2 : Int) : Option (Bool) := if (a0_0 == 0 && (a0_1 == 0 && (a0_2 == 0))) = true then (some true) else (if a0_1 ≥ 2 then (if a0_1 ≤ 16 then (if a0_0 ≥ 0 then (if a0_0 < a0_1 then (if a0_2 ≥ 0 then (some (decide (a0_2 ≤ 255))) else (some false)) else (some false)) else (some false)) else (some false)) else (some false))
set_option maxHeartbeats 8000000 in
set_option maxRecDepth 100000 in
theorem split_valid.calls (a0_0 : Int) (a0_1 : Int) (a0_2 : Int) (r : Bool) (w : World) (h : split_valid.f a0_0 a0_1 a0_2 = some r) :
  Calls Try.prog 37 #[.agg #[.int .i64 a0_0, .int .i64 a0_1, .int .i64 a0_2]] w fun e w' => e = .returned (.bool r) ∧ Below w.heap.size w w' := by
 have hu40 := Try.underlying40
 have HB := Aside0.mk (Below.refl w.heap.size w)
 have H : (if (a0_0 == 0 && (a0_1 == 0 && (a0_2 == 0))) = true then (some true) else (if a0_1 ≥ 2 then (if a0_1 ≤ 16 then (if a0_0 ≥ 0 then (if a0_0 < a0_1 then (if a0_2 ≥ 0 then (some (decide (a0_2 ≤ 255))) else (some false)) else (some false)) else (some false)) else (some false)) else (some false))) = some r := h
 clear h
 by_cases c2 : (a0_0 == 0 && (a0_1 == 0 && (a0_2 == 0))) = true
 ·rw [if_pos c2] at H
  have c2b0 : (a0_0 == 0 && (a0_1 == 0 && (a0_2 == 0))) = true := c2
  (try (have c2b1 : decide (a0_0 = 0 && (a0_1 == 0 && (a0_2 == 0))) = true := by simpa using c2))
  (try (have c2b2 : (a0_0 == 0 && (a0_1 == 0 && (a0_2 == 0))) = true := by simpa using c2))
  clear c2
  obtain rfl := Option.some.inj H
  go_enter Try.func37, Try.ntmps37
  go_wp2_with (first | ((with_reducible refine gate_dst (N := 1) rfl ?_); refine box_event ?hg (N := 1) ?hd (cs := #[.int .i64 a0_0, .int .i64 a0_1, .int .i64 a0_2]) (t := 40) ?hr ?_; (case hd => rfl); (case hg => rfl); (case hr => first | (go_simp; done) | (go_simp; rfl)); intro gb175 hg w3 hbox hb; have n0_ := Aside0.mk (below_step (by repeat (first | (with_reducible first | exact HB.out | apply below_alloc | apply pw_below_drewN | apply below_drew1) | exact HB.out)) hb); have n1_ := Aside0.mk (hbox); have n2_ := Aside0.mk ((by rw [hg]; exact (below_size (by repeat (first | (with_reducible first | exact HB.out | apply below_alloc | apply pw_below_drewN | apply below_drew1) | exact HB.out))) : w.heap.size ≤ gb175)); have n3_ := Aside0.mk ((by rw [hg]; exact (below_size (by repeat (first | (with_reducible first | exact HB.out | apply below_alloc | apply pw_below_drewN | apply below_drew1) | exact HB.out))) : w.heap.size ≤ gb175)); clear HB; have HB := n0_; have BK175 := n1_; have GW175 := n2_; have GE175 := n3_; clear n0_ n1_ n2_ n3_; clear hb hbox hg; have hcz4_0 : w3.cell? ⟨gb175, 0, none⟩ = some (.int .i64 a0_0) := (blk_cell BK175.out 0).trans rfl; have hcz4_1 : w3.cell? ⟨gb175, 1, none⟩ = some (.int .i64 a0_1) := (blk_cell BK175.out 1).trans rfl; have hcz4_2 : w3.cell? ⟨gb175, 2, none⟩ = some (.int .i64 a0_2) := (blk_cell BK175.out 2).trans rfl; have hfz4_0 := blk_frozen BK175.out 0; have hfz4_1 := blk_frozen BK175.out 1; have hfz4_2 := blk_frozen BK175.out 2))
  go_ret
  exact ⟨by first | rfl | (simp [errW_none, errW_some] <;> rfl) | (simp [*, errW_none, errW_some] <;> rfl), by repeat (first | (with_reducible first | exact HB.out | apply below_alloc | apply pw_below_drewN | apply below_drew1 | refine below_set ?_ GE175.out) | exact HB.out)⟩
 ·rw [if_neg c2] at H
  have c2b0 : (a0_0 == 0 && (a0_1 == 0 && (a0_2 == 0))) = false := by simpa using c2
  (try (have c2b1 : decide (a0_0 = 0 && (a0_1 == 0 && (a0_2 == 0))) = false := by simpa using c2))
  (try (have c2b2 : (a0_0 == 0 && (a0_1 == 0 && (a0_2 == 0))) = false := by simpa using c2))
  (try (have c2b3 : ¬ (a0_0 = 0 && (a0_1 == 0 && (a0_2 == 0))) := by simpa using c2))
  clear c2
  by_cases c5 : a0_1 ≥ 2
  ·rw [if_pos c5] at H
   have c5b0 : decide (2 ≤ a0_1) = true := decide_eq_true c5
   clear c5
   by_cases c6 : a0_1 ≤ 16
   ·rw [if_pos c6] at H
    have c6b0 : decide (a0_1 ≤ 16) = true := decide_eq_true c6
    clear c6
    by_cases c7 : a0_0 ≥ 0
    ·rw [if_pos c7] at H
     have c7b0 : decide (0 ≤ a0_0) = true := decide_eq_true c7
     clear c7
     by_cases c8 : a0_0 < a0_1
     ·rw [if_pos c8] at H
      have c8b0 : decide (a0_0 < a0_1) = true := decide_eq_true c8
      clear c8
      by_cases c9 : a0_2 ≥ 0
      ·rw [if_pos c9] at H
       have c9b0 : decide (0 ≤ a0_2) = true := decide_eq_true c9
       clear c9
       obtain rfl := Option.some.inj H
       go_enter Try.func37, Try.ntmps37
       go_wp2_with (first | ((with_reducible refine gate_dst (N := 1) rfl ?_); refine box_event ?hg (N := 1) ?hd (cs := #[.int .i64 a0_0, .int .i64 a0_1, .int .i64 a0_2]) (t := 40) ?hr ?_; (case hd => rfl); (case hg => rfl); (case hr => first | (go_simp; done) | (go_simp; rfl)); intro gb175 hg w10 hbox hb; have n0_ := Aside0.mk (below_step (by repeat (first | (with_reducible first | exact HB.out | apply below_alloc | apply pw_below_drewN | apply below_drew1) | exact HB.out)) hb); have n1_ := Aside0.mk (hbox); have n2_ := Aside0.mk ((by rw [hg]; exact (below_size (by repeat (first | (with_reducible first | exact HB.out | apply below_alloc | apply pw_below_drewN | apply below_drew1) | exact HB.out))) : w.heap.size ≤ gb175)); have n3_ := Aside0.mk ((by rw [hg]; exact (below_size (by repeat (first | (with_reducible first | exact HB.out | apply below_alloc | apply pw_below_drewN | apply below_drew1) | exact HB.out))) : w.heap.size ≤ gb175)); clear HB; have HB := n0_; have BK175 := n1_; have GW175 := n2_; have GE175 := n3_; clear n0_ n1_ n2_ n3_; clear hb hbox hg; have hcz11_0 : w10.cell? ⟨gb175, 0, none⟩ = some (.int .i64 a0_0) := (blk_cell BK175.out 0).trans rfl; have hcz11_1 : w10.cell? ⟨gb175, 1, none⟩ = some (.int .i64 a0_1) := (blk_cell BK175.out 1).trans rfl; have hcz11_2 : w10.cell? ⟨gb175, 2, none⟩ = some (.int .i64 a0_2) := (blk_cell BK175.out 2).trans rfl; have hfz11_0 := blk_frozen BK175.out 0; have hfz11_1 := blk_frozen BK175.out 1; have hfz11_2 := blk_frozen BK175.out 2))
       go_ret
       exact ⟨by first | rfl | (simp [errW_none, errW_some] <;> rfl) | (simp [*, errW_none, errW_some] <;> rfl), by repeat (first | (with_reducible first | exact HB.out | apply below_alloc | apply pw_below_drewN | apply below_drew1 | refine below_set ?_ GE175.out) | exact HB.out)⟩
      ·rw [if_neg c9] at H
       have c9b0 : decide (0 ≤ a0_2) = false := decide_eq_false c9
       clear c9
       obtain rfl := Option.some.inj H
       go_enter Try.func37, Try.ntmps37
       go_wp2_with (first | ((with_reducible refine gate_dst (N := 1) rfl ?_); refine box_event ?hg (N := 1) ?hd (cs := #[.int .i64 a0_0, .int .i64 a0_1, .int .i64 a0_2]) (t := 40) ?hr ?_; (case hd => rfl); (case hg => rfl); (case hr => first | (go_simp; done) | (go_simp; rfl)); intro gb175 hg w12 hbox hb; have n0_ := Aside0.mk (below_step (by repeat (first | (with_reducible first | exact HB.out | apply below_alloc | apply pw_below_drewN | apply below_drew1) | exact HB.out)) hb); have n1_ := Aside0.mk (hbox); have n2_ := Aside0.mk ((by rw [hg]; exact (below_size (by repeat (first | (with_reducible first | exact HB.out | apply below_alloc | apply pw_below_drewN | apply below_drew1) | exact HB.out))) : w.heap.size ≤ gb175)); have n3_ := Aside0.mk ((by rw [hg]; exact (below_size (by repeat (first | (with_reducible first | exact HB.out | apply below_alloc | apply pw_below_drewN | apply below_drew1) | exact HB.out))) : w.heap.size ≤ gb175)); clear HB; have HB := n0_; have BK175 := n1_; have GW175 := n2_; have GE175 := n3_; clear n0_ n1_ n2_ n3_; clear hb hbox hg; have hcz13_0 : w12.cell? ⟨gb175, 0, none⟩ = some (.int .i64 a0_0) := (blk_cell BK175.out 0).trans rfl; have hcz13_1 : w12.cell? ⟨gb175, 1, none⟩ = some (.int .i64 a0_1) := (blk_cell BK175.out 1).trans rfl; have hcz13_2 : w12.cell? ⟨gb175, 2, none⟩ = some (.int .i64 a0_2) := (blk_cell BK175.out 2).trans rfl; have hfz13_0 := blk_frozen BK175.out 0; have hfz13_1 := blk_frozen BK175.out 1; have hfz13_2 := blk_frozen BK175.out 2))
       go_ret
       exact ⟨by first | rfl | (simp [errW_none, errW_some] <;> rfl) | (simp [*, errW_none, errW_some] <;> rfl), by repeat (first | (with_reducible first | exact HB.out | apply below_alloc | apply pw_below_drewN | apply below_drew1 | refine below_set ?_ GE175.out) | exact HB.out)⟩
     ·rw [if_neg c8] at H
      have c8b0 : decide (a0_0 < a0_1) = false := decide_eq_false c8
      clear c8
      obtain rfl := Option.some.inj H
      go_enter Try.func37, Try.ntmps37
      go_wp2_with (first | ((with_reducible refine gate_dst (N := 1) rfl ?_); refine box_event ?hg (N := 1) ?hd (cs := #[.int .i64 a0_0, .int .i64 a0_1, .int .i64 a0_2]) (t := 40) ?hr ?_; (case hd => rfl); (case hg => rfl); (case hr => first | (go_simp; done) | (go_simp; rfl)); intro gb175 hg w14 hbox hb; have n0_ := Aside0.mk (below_step (by repeat (first | (with_reducible first | exact HB.out | apply below_alloc | apply pw_below_drewN | apply below_drew1) | exact HB.out)) hb); have n1_ := Aside0.mk (hbox); have n2_ := Aside0.mk ((by rw [hg]; exact (below_size (by repeat (first | (with_reducible first | exact HB.out | apply below_alloc | apply pw_below_drewN | apply below_drew1) | exact HB.out))) : w.heap.size ≤ gb175)); have n3_ := Aside0.mk ((by rw [hg]; exact (below_size (by repeat (first | (with_reducible first | exact HB.out | apply below_alloc | apply pw_below_drewN | apply below_drew1) | exact HB.out))) : w.heap.size ≤ gb175)); clear HB; have HB := n0_; have BK175 := n1_; have GW175 := n2_; have GE175 := n3_; clear n0_ n1_ n2_ n3_; clear hb hbox hg; have hcz15_0 : w14.cell? ⟨gb175, 0, none⟩ = some (.int .i64 a0_0) := (blk_cell BK175.out 0).trans rfl; have hcz15_1 : w14.cell? ⟨gb175, 1, none⟩ = some (.int .i64 a0_1) := (blk_cell BK175.out 1).trans rfl; have hcz15_2 : w14.cell? ⟨gb175, 2, none⟩ = some (.int .i64 a0_2) := (blk_cell BK175.out 2).trans rfl; have hfz15_0 := blk_frozen BK175.out 0; have hfz15_1 := blk_frozen BK175.out 1; have hfz15_2 := blk_frozen BK175.out 2))
      go_ret
      exact ⟨by first | rfl | (simp [errW_none, errW_some] <;> rfl) | (simp [*, errW_none, errW_some] <;> rfl), by repeat (first | (with_reducible first | exact HB.out | apply below_alloc | apply pw_below_drewN | apply below_drew1 | refine below_set ?_ GE175.out) | exact HB.out)⟩
    ·rw [if_neg c7] at H
     have c7b0 : decide (0 ≤ a0_0) = false := decide_eq_false c7
     clear c7
     obtain rfl := Option.some.inj H
     go_enter Try.func37, Try.ntmps37
     go_wp2_with (first | ((with_reducible refine gate_dst (N := 1) rfl ?_); refine box_event ?hg (N := 1) ?hd (cs := #[.int .i64 a0_0, .int .i64 a0_1, .int .i64 a0_2]) (t := 40) ?hr ?_; (case hd => rfl); (case hg => rfl); (case hr => first | (go_simp; done) | (go_simp; rfl)); intro gb175 hg w16 hbox hb; have n0_ := Aside0.mk (below_step (by repeat (first | (with_reducible first | exact HB.out | apply below_alloc | apply pw_below_drewN | apply below_drew1) | exact HB.out)) hb); have n1_ := Aside0.mk (hbox); have n2_ := Aside0.mk ((by rw [hg]; exact (below_size (by repeat (first | (with_reducible first | exact HB.out | apply below_alloc | apply pw_below_drewN | apply below_drew1) | exact HB.out))) : w.heap.size ≤ gb175)); have n3_ := Aside0.mk ((by rw [hg]; exact (below_size (by repeat (first | (with_reducible first | exact HB.out | apply below_alloc | apply pw_below_drewN | apply below_drew1) | exact HB.out))) : w.heap.size ≤ gb175)); clear HB; have HB := n0_; have BK175 := n1_; have GW175 := n2_; have GE175 := n3_; clear n0_ n1_ n2_ n3_; clear hb hbox hg; have hcz17_0 : w16.cell? ⟨gb175, 0, none⟩ = some (.int .i64 a0_0) := (blk_cell BK175.out 0).trans rfl; have hcz17_1 : w16.cell? ⟨gb175, 1, none⟩ = some (.int .i64 a0_1) := (blk_cell BK175.out 1).trans rfl; have hcz17_2 : w16.cell? ⟨gb175, 2, none⟩ = some (.int .i64 a0_2) := (blk_cell BK175.out 2).trans rfl; have hfz17_0 := blk_frozen BK175.out 0; have hfz17_1 := blk_frozen BK175.out 1; have hfz17_2 := blk_frozen BK175.out 2))
     go_ret
     exact ⟨by first | rfl | (simp [errW_none, errW_some] <;> rfl) | (simp [*, errW_none, errW_some] <;> rfl), by repeat (first | (with_reducible first | exact HB.out | apply below_alloc | apply pw_below_drewN | apply below_drew1 | refine below_set ?_ GE175.out) | exact HB.out)⟩
   ·rw [if_neg c6] at H
    have c6b0 : decide (a0_1 ≤ 16) = false := decide_eq_false c6
    clear c6
    obtain rfl := Option.some.inj H
    go_enter Try.func37, Try.ntmps37
    go_wp2_with (first | ((with_reducible refine gate_dst (N := 1) rfl ?_); refine box_event ?hg (N := 1) ?hd (cs := #[.int .i64 a0_0, .int .i64 a0_1, .int .i64 a0_2]) (t := 40) ?hr ?_; (case hd => rfl); (case hg => rfl); (case hr => first | (go_simp; done) | (go_simp; rfl)); intro gb175 hg w18 hbox hb; have n0_ := Aside0.mk (below_step (by repeat (first | (with_reducible first | exact HB.out | apply below_alloc | apply pw_below_drewN | apply below_drew1) | exact HB.out)) hb); have n1_ := Aside0.mk (hbox); have n2_ := Aside0.mk ((by rw [hg]; exact (below_size (by repeat (first | (with_reducible first | exact HB.out | apply below_alloc | apply pw_below_drewN | apply below_drew1) | exact HB.out))) : w.heap.size ≤ gb175)); have n3_ := Aside0.mk ((by rw [hg]; exact (below_size (by repeat (first | (with_reducible first | exact HB.out | apply below_alloc | apply pw_below_drewN | apply below_drew1) | exact HB.out))) : w.heap.size ≤ gb175)); clear HB; have HB := n0_; have BK175 := n1_; have GW175 := n2_; have GE175 := n3_; clear n0_ n1_ n2_ n3_; clear hb hbox hg; have hcz19_0 : w18.cell? ⟨gb175, 0, none⟩ = some (.int .i64 a0_0) := (blk_cell BK175.out 0).trans rfl; have hcz19_1 : w18.cell? ⟨gb175, 1, none⟩ = some (.int .i64 a0_1) := (blk_cell BK175.out 1).trans rfl; have hcz19_2 : w18.cell? ⟨gb175, 2, none⟩ = some (.int .i64 a0_2) := (blk_cell BK175.out 2).trans rfl; have hfz19_0 := blk_frozen BK175.out 0; have hfz19_1 := blk_frozen BK175.out 1; have hfz19_2 := blk_frozen BK175.out 2))
    go_ret
    exact ⟨by first | rfl | (simp [errW_none, errW_some] <;> rfl) | (simp [*, errW_none, errW_some] <;> rfl), by repeat (first | (with_reducible first | exact HB.out | apply below_alloc | apply pw_below_drewN | apply below_drew1 | refine below_set ?_ GE175.out) | exact HB.out)⟩
  ·rw [if_neg c5] at H
   have c5b0 : decide (2 ≤ a0_1) = false := decide_eq_false c5
   clear c5
   obtain rfl := Option.some.inj H
   go_enter Try.func37, Try.ntmps37
   go_wp2_with (first | ((with_reducible refine gate_dst (N := 1) rfl ?_); refine box_event ?hg (N := 1) ?hd (cs := #[.int .i64 a0_0, .int .i64 a0_1, .int .i64 a0_2]) (t := 40) ?hr ?_; (case hd => rfl); (case hg => rfl); (case hr => first | (go_simp; done) | (go_simp; rfl)); intro gb175 hg w20 hbox hb; have n0_ := Aside0.mk (below_step (by repeat (first | (with_reducible first | exact HB.out | apply below_alloc | apply pw_below_drewN | apply below_drew1) | exact HB.out)) hb); have n1_ := Aside0.mk (hbox); have n2_ := Aside0.mk ((by rw [hg]; exact (below_size (by repeat (first | (with_reducible first | exact HB.out | apply below_alloc | apply pw_below_drewN | apply below_drew1) | exact HB.out))) : w.heap.size ≤ gb175)); have n3_ := Aside0.mk ((by rw [hg]; exact (below_size (by repeat (first | (with_reducible first | exact HB.out | apply below_alloc | apply pw_below_drewN | apply below_drew1) | exact HB.out))) : w.heap.size ≤ gb175)); clear HB; have HB := n0_; have BK175 := n1_; have GW175 := n2_; have GE175 := n3_; clear n0_ n1_ n2_ n3_; clear hb hbox hg; have hcz21_0 : w20.cell? ⟨gb175, 0, none⟩ = some (.int .i64 a0_0) := (blk_cell BK175.out 0).trans rfl; have hcz21_1 : w20.cell? ⟨gb175, 1, none⟩ = some (.int .i64 a0_1) := (blk_cell BK175.out 1).trans rfl; have hcz21_2 : w20.cell? ⟨gb175, 2, none⟩ = some (.int .i64 a0_2) := (blk_cell BK175.out 2).trans rfl; have hfz21_0 := blk_frozen BK175.out 0; have hfz21_1 := blk_frozen BK175.out 1; have hfz21_2 := blk_frozen BK175.out 2))
   go_ret
   exact ⟨by first | rfl | (simp [errW_none, errW_some] <;> rfl) | (simp [*, errW_none, errW_some] <;> rfl), by repeat (first | (with_reducible first | exact HB.out | apply below_alloc | apply pw_below_drewN | apply below_drew1 | refine below_set ?_ GE175.out) | exact HB.out)⟩

end Go.Proofs.Ytclbjddcenkidaa.PS
namespace Go.Proofs.Ytclbjddcenkidaa.PS
open Go.RowKit Go.Proofs.YtclbjddcenkidaaW.PrintWords Go.Proofs.YtclbjddcenkidaaW.PrintLast Go.Proofs.YtclbjddcenkidaaW.PrintMore
attribute [local go_sem] max2_int min2_int max_two min_two max_three min_three max_four min_four
def validS (a : S40) : Bool := (a.f0 == 0 && (a.f1 == 0 && a.f2 == 0)) || (decide (2 ≤ a.f1) && (decide (a.f1 ≤ 16) && (decide (0 ≤ a.f0) && (decide (a.f0 < a.f1) && (decide (0 ≤ a.f2) && decide (a.f2 ≤ 255))))))
theorem valid_f (a : S40) : split_valid.f a.f0 a.f1 a.f2 = some (validS a) := by
  unfold split_valid.f validS
  repeat' split
  all_goals first | (simp_all; done) | (simp_all; omega)
set_option maxHeartbeats 4000000 in
set_option maxRecDepth 100000 in
theorem collected1_calls (A : Option Addr) (c n : Nat) (a : S40) (w : World) :
    Calls Try.prog 36 #[.agg #[.slice A n c, .int .i64 a.f0, .int .i64 a.f1, .int .i64 a.f2]] w fun e w' => e = .returned (.bool !validS a) ∧ Below w.heap.size w w' := by
  have hu42 := Try.underlying42
  go_enter Try.func36, Try.ntmps36
  go_wp2_with (fail)
  refine (split_valid.calls a.f0 a.f1 a.f2 _ _ (valid_f a)).mono ?_
  rintro e w1 ⟨rfl, hb1⟩
  go_wp2
  go_ret
  exact ⟨rfl, below_step (by repeat (first | exact Below.refl _ _ | apply below_alloc)) hb1⟩
set_option maxHeartbeats 4000000 in
set_option maxRecDepth 100000 in
theorem IndexFunc_calls (A : Option Addr) (c : Nat) (l : List S42) (w : World) (hC : Kd.C k42 w A l.length l) (hc : l.length ≤ c) (hlen : l.length < 4611686018427387904) :
    Calls Try.prog 49 #[.slice A l.length c, .func (.func 36) #[] #[]] w fun e w' => ∃ r : Int, e = .returned (.int .i64 r) ∧ decide (r ≥ 0) = l.any (fun m => !validS m.f1) ∧ Below w.heap.size w w' := by
  have HC := Aside0.mk hC
  clear hC
  go_enter Try.func49, Try.ntmps49
  go_wp2
  go_loopg [5, 8] (l.length + 1) (fun kq s5 s8 wr => ∃ (i : Nat), s8 = .int .i64 i ∧ i ≤ l.length ∧ kq + i = l.length + 1 ∧ Aside0 (Below w.heap.size w wr) ∧ Aside0 ((l.take i).any (fun m => !validS m.f1) = false))
  case atStart => exact ⟨0, rfl, Nat.zero_le _, rfl, ⟨Below.refl _ _⟩, ⟨rfl⟩⟩
  case round =>
    obtain ⟨i, rfl, hi, hk, HB, HN⟩ := hrel
    obtain ⟨kk, rfl⟩ : ∃ kk, gk = kk + 1 := ⟨gk - 1, by omega⟩
    by_cases hlt : i < l.length
    · obtain ⟨ad, A0, c0, rfl, h0, h1, h2, h3, hl0, hi0⟩ := at_T42 (Kd.C_below HC.out HB.out) (i : Int) (by omega) (by omega)
      rw [Int.toNat_natCast] at h0 h1 h2 h3
      have hg : l[i]? = some (rd_T42 l (i : Int)) := by rw [rd_T42, Int.toNat_natCast, List.getD_eq_getElem?_getD, List.getElem?_eq_getElem hlt]; rfl
      have hc' := collected1_calls A0 c0 (rd_T42 l (i : Int)).f0.length (rd_T42 l (i : Int)).f1 wr
      clear hi0 hl0
      have hany : (l.take (i + 1)).any (fun m => !validS m.f1) = ((l.take i).any (fun m => !validS m.f1) || !validS (rd_T42 l (i : Int)).f1) := by
        rw [List.take_add_one, hg, List.any_append]; simp
      have hmem : rd_T42 l (i : Int) ∈ l := List.mem_of_getElem? hg
      rw [HN.out, Bool.false_or] at hany
      have hq : l.any (fun m => !validS m.f1) = ((!validS (rd_T42 l (i : Int)).f1) || l.any (fun m => !validS m.f1)) := by
        cases hv : validS (rd_T42 l (i : Int)).f1
        · rw [List.any_eq_true.2 ⟨_, hmem, by simp [hv]⟩]; rfl
        · rfl
      have hw : IntKind.i64.wrap ((i : Int) + 1) = (i : Int) + 1 := IntWalk.i64_in _ (by omega)
      clear hg
      cases hv : validS (rd_T42 l (i : Int)).f1 <;> rw [hv] at hc' hany hq
      · have HC' := Aside0.mk hc'
        have HQ := Aside0.mk hq
        clear hc' hany hq hw
        go_wp2_with (fail)
        refine HC'.out.mono ?_
        rintro e w1 ⟨rfl, hb1⟩
        have HB1 := Aside0.mk hb1
        clear hb1 HC'
        go_wp2
        go_ret
        refine ⟨_, rfl, ?_, below_then HB.out HB.out.size HB1.out⟩
        rw [HQ.out]
        simp
      · have HC' := Aside0.mk hc'
        have HA := Aside0.mk hany
        clear hc' hany hq
        go_wp2_with (fail)
        refine HC'.out.mono ?_
        rintro e w1 ⟨rfl, hb1⟩
        have HB1 := Aside0.mk hb1
        clear hb1 HC'
        go_wp2
        go_roundg kk
        case measure => omega
        case rel => exact ⟨i + 1, by first | rfl | go_num, by omega, by omega, ⟨below_then HB.out HB.out.size HB1.out⟩, HA⟩
    · have he : i = l.length := by omega
      have hf : l.any (fun m => !validS m.f1) = false := by have := HN.out; rwa [he, List.take_length] at this
      have HF := Aside0.mk hf
      clear hf
      subst he
      go_wp2
      go_ret
      exact ⟨_, rfl, by rw [HF.out]; rfl, HB.out⟩
set_option maxHeartbeats 4000000 in
set_option maxRecDepth 100000 in
theorem ContainsFunc_calls (A : Option Addr) (c : Nat) (l : List S42) (w : World) (hC : Kd.C k42 w A l.length l) (hc : l.length ≤ c) (hlen : l.length < 4611686018427387904) :
    Calls Try.prog 35 #[.slice A l.length c, .func (.func 36) #[] #[]] w fun e w' => e = .returned (.bool (l.any (fun m => !validS m.f1))) ∧ Below w.heap.size w w' := by
  have HC := Aside0.mk (IndexFunc_calls A c l w hC hc hlen)
  clear hC
  go_enter Try.func35, Try.ntmps35
  go_wp2_with (fail)
  refine HC.out.mono ?_
  rintro e w1 ⟨r, rfl, hr, hb1⟩
  have HB1 := Aside0.mk hb1
  have HR := Aside0.mk hr
  clear hb1 HC hr
  go_wp2
  go_ret
  exact ⟨by first | (rw [← HR.out]; done) | (rw [← HR.out]; rfl) | (simp [← HR.out]), HB1.out⟩

end Go.Proofs.Ytclbjddcenkidaa.PS
namespace Go.Proofs.Ytclbjddcenkidaa.PS
open Go.RowKit Go.Proofs.YtclbjddcenkidaaW.PrintWords Go.Proofs.YtclbjddcenkidaaW.PrintLast Go.Proofs.YtclbjddcenkidaaW.PrintMore
attribute [local go_sem] max2_int min2_int max_two min_two max_three min_three max_four min_four
open Go.Maps
/-- the text of a message's segments -/
def joinS (l : List S54) : List Int := l.flatMap (·.f1)
def textB (m : S42) : ByteArray := strOfNums (joinS m.f0)
def smallM (m : S42) : Prop := (joinS m.f0).length < 140737488355328 ∧ m.f0.length < 4611686018427387904
theorem join_ev (l : List S54) (hl : l.length < 4611686018427387904) (h : (joinS l).length < 140737488355328) : ∃ k, modes_Join.f k l = some (joinS l) := by
  refine ⟨l.length + 1, ?_⟩
  suffices H : ∀ n i (acc : List Int), i + n = l.length → acc = joinS (l.take i) → modes_Join.l0 (n + 1) acc l (l.length : Int) (i : Int) = some (joinS l) from H l.length 0 [] (by omega) (by simp [joinS])
  intro n
  induction n with
  | zero =>
    intro i acc hi ha
    rw [modes_Join.l0, if_neg (by omega), ha, show i = l.length by omega, List.take_length]
  | succ n ih =>
    intro i acc hi ha
    have hlt : i < l.length := by omega
    have hg : l[i]? = some (rd_T54 l (i : Int)) := by rw [rd_T54, Int.toNat_natCast, List.getD_eq_getElem?_getD, List.getElem?_eq_getElem hlt]; rfl
    have e : acc ++ (rd_T54 l (i : Int)).f1 = joinS (l.take (i + 1)) := by
      rw [ha, joinS, joinS, List.take_add_one, hg]; simp
    have e2 : joinS l = joinS (l.take (i + 1)) ++ joinS (l.drop (i + 1)) := by
      rw [joinS, joinS, joinS, ← List.flatMap_append, List.take_append_drop]
    have e3 : (joinS l).length = (acc ++ (rd_T54 l (i : Int)).f1).length + (joinS (l.drop (i + 1))).length := by rw [e2, e, List.length_append]
    rw [List.length_append] at e3
    have hw : wrap64 ((i : Int) + 1) = ((i + 1 : Nat) : Int) := by unfold wrap64; omega
    rw [modes_Join.l0, if_pos (by omega), if_pos (by omega), if_pos (by omega), if_pos (by omega), hw]
    exact ih (i + 1) _ (by omega) e
/-- a map from numbers to texts, as the list of its entries in the order in which they came -/
structure MapIs (D : DataW Unit) (es : List (Int × ByteArray)) : Prop where
  tidy : Tidy D
  has : ∀ x, Maps.has D (.int .i64 x) = (es.lookup x).isSome
  at_ : ∀ x s, es.lookup x = some s → ∀ z, D.atKey (.int .i64 x) z = .lit (.string s.data.toList)
  size : Maps.size D = es.length
  nodup : (es.map (·.1)).Nodup
theorem MapIs.nil : MapIs (.map []) [] := ⟨tidy_empty, fun _ => rfl, fun _ _ h => by simp at h, rfl, List.nodup_nil⟩
theorem lit_ne {x y : Int} (h : y ≠ x) : (Lit.int .i64 y) ≠ (Lit.int .i64 x) := fun e => h (by injection e)
theorem lookup_snoc (es : List (Int × ByteArray)) (x : Int) (s : ByteArray) (y : Int) : (es ++ [(x, s)]).lookup y = (es.lookup y).or (if y == x then some s else none) := by
  rw [List.lookup_append]
  simp only [List.lookup]
  cases h : y == x <;> simp
theorem lookup_none {es : List (Int × ByteArray)} {x : Int} (h : es.lookup x = none) : ∀ p ∈ es, p.1 ≠ x := by
  intro p hp e
  rw [List.lookup_eq_none_iff] at h
  have := h p hp
  simp [e] at this
theorem MapIs.put {D : DataW Unit} {es : List (Int × ByteArray)} (h : MapIs D es) {x : Int} (hx : (Lit.int .i64 x).wf = true) (s : ByteArray) (hs : es.lookup x = none) : MapIs (D.put (.int .i64 x) (.lit (.string s.data.toList))) (es ++ [(x, s)]) := by
  have hk : WideAt.IsKeyLit (Lit.int .i64 x) := by first | exact trivial | exact hx | simpa [WideAt.IsKeyLit] using hx
  refine ⟨h.tidy.put hk _, fun y => ?_, fun y t ht z => ?_, ?_, ?_⟩
  · by_cases e : y = x
    · subst e; rw [has_put_same h.tidy.isMap hk, lookup_snoc]; simp
    · rw [has_put_other (lit_ne e), h.has, lookup_snoc]; simp [e]
  · rw [lookup_snoc] at ht
    by_cases e : y = x
    · subst e
      rw [hs] at ht
      simp at ht
      subst ht
      rw [atKey_put_same h.tidy.isMap hk]
    · rw [atKey_put_other (lit_ne e)]
      simp [e] at ht
      exact h.at_ y t ht z
  · rw [size_put h.tidy, h.has, hs, if_neg (by simp), h.size]; simp
  · rw [List.map_append, List.nodup_append]
    refine ⟨h.nodup, by simp, fun a ha b hb => ?_⟩
    obtain ⟨p, hp, rfl⟩ := List.mem_map.1 ha
    simp at hb
    rw [hb]
    exact lookup_none hs p hp
theorem MapIs.again {D : DataW Unit} {es : List (Int × ByteArray)} (h : MapIs D es) {x : Int} (hx : (Lit.int .i64 x).wf = true) (s : ByteArray) (hs : es.lookup x = some s) : MapIs (D.put (.int .i64 x) (.lit (.string s.data.toList))) es := by
  have hk : WideAt.IsKeyLit (Lit.int .i64 x) := by first | exact trivial | exact hx | simpa [WideAt.IsKeyLit] using hx
  refine ⟨h.tidy.put hk _, fun y => ?_, fun y t ht z => ?_, ?_, ?_⟩
  · by_cases e : y = x
    · subst e; rw [has_put_same h.tidy.isMap hk, hs]; rfl
    · rw [has_put_other (lit_ne e), h.has]
  · by_cases e : y = x
    · subst e
      rw [hs] at ht
      cases ht
      rw [atKey_put_same h.tidy.isMap hk]
    · rw [atKey_put_other (lit_ne e)]
      exact h.at_ y t ht z
  · rw [size_put h.tidy, h.has, hs, if_pos (by rfl), h.size]
  · exact h.nodup
/-- does a message fit what was met before -/
def badS (first : S40) (es : List (Int × ByteArray)) (m : S42) : Bool := m.f1.f1 != first.f1 || (m.f1.f2 != first.f2 || (match es.lookup m.f1.f0 with | some old => old.data.toList != (textB m).data.toList | none => false))
def putS (es : List (Int × ByteArray)) (m : S42) : List (Int × ByteArray) := match es.lookup m.f1.f0 with | some _ => es | none => es ++ [(m.f1.f0, textB m)]
def colR (first : S40) : List S42 → List (Int × ByteArray) → Option (List (Int × ByteArray))
  | [], es => some es
  | m :: l, es => if badS first es m = true then none else colR first l (putS es m)
def colS (l : List S42) : Int × List (Int × ByteArray) :=
  if l.length = 0 then (5, []) else if l.any (fun m => !validS m.f1) = true then (1, []) else match colR (rd_T42 l 0).f1 l [] with | none => (34, []) | some es => (0, es)

end Go.Proofs.Ytclbjddcenkidaa.PS
namespace Go.Proofs.Ytclbjddcenkidaa.PS
open Go.RowKit Go.Proofs.YtclbjddcenkidaaW.PrintWords Go.Proofs.YtclbjddcenkidaaW.PrintLast Go.Proofs.YtclbjddcenkidaaW.PrintMore
attribute [local go_sem] max2_int min2_int max_two min_two max_three min_three max_four min_four
open Go.Maps
theorem law3 : Keyed Try.prog 3 := int_keyed Try.underlying3
theorem zero9 (w : World) : (zeroValue 9).run Try.prog w = .ok (.string ByteArray.empty) w := by kernel_rfl
theorem err_nil {l : List S42} (h : l.length = 0) : (colS l).1 = 5 := by unfold colS; rw [if_pos h]
theorem err_bad {l : List S42} (h : l.length ≠ 0) (h2 : l.any (fun m => !validS m.f1) = true) : (colS l).1 = 1 := by unfold colS; rw [if_neg h, if_pos h2]
theorem err_con {l : List S42} (h : l.length ≠ 0) (h2 : l.any (fun m => !validS m.f1) = false) (h3 : colR (rd_T42 l 0).f1 l [] = none) : (colS l).1 = 34 := by unfold colS; rw [if_neg h, if_neg (by rw [h2]; simp), h3]
theorem err_ok {l : List S42} (h : l.length ≠ 0) (h2 : l.any (fun m => !validS m.f1) = false) {es} (h3 : colR (rd_T42 l 0).f1 l [] = some es) : colS l = (0, es) := by unfold colS; rw [if_neg h, if_neg (by rw [h2]; simp), h3]
theorem valid_wf {a : S40} (h : validS a = true) : (Lit.int .i64 a.f0).wf = true := by
  unfold validS at h
  have : -9223372036854775808 ≤ a.f0 ∧ a.f0 ≤ 9223372036854775807 := by
    simp only [Bool.or_eq_true, Bool.and_eq_true, beq_iff_eq, decide_eq_true_eq] at h
    omega
  have e1 : IntKind.i64.min = -9223372036854775808 := by decide
  have e2 : IntKind.i64.max = 9223372036854775807 := by decide
  simp only [Lit.wf, e1, e2, Bool.and_eq_true, decide_eq_true_eq]
  exact this
theorem str_of {s t : ByteArray} {d : DataW Unit} {ps : List MemPlace} (h : (d, ps) = (DataW.lit (.string s.data.toList), [])) (h2 : d = .lit (.string t.data.toList)) : t = s := by
  obtain ⟨h3, _⟩ := Prod.mk.inj h
  rw [h2] at h3
  injection h3 with h4
  injection h4 with h5
  cases s; cases t
  congr 1
  exact Array.toList_inj.1 h5
theorem same_bytes {s t : ByteArray} (h : s.toList = t.toList) : s = t := WideShapes.bytes_inj (by rw [← ByteArray.toList_eq, ← ByteArray.toList_eq]; exact h)
/-- what collected returns -/
def colPost (l : List S42) (w : World) (e : Ending) (w' : World) : Prop :=
  (((colS l).1 ≠ 0 ∧ e = .returned (.tuple #[.map none, .agg #[.int .i64 0, .int .i64 0, .int .i64 0], .int .i64 (colS l).1])) ∨
    ((colS l).1 = 0 ∧ ∃ b D, e = .returned (.tuple #[.map (some b), .agg #[.int .i64 (rd_T42 l 0).f1.f0, .int .i64 (rd_T42 l 0).f1.f1, .int .i64 (rd_T42 l 0).f1.f2], .int .i64 0]) ∧ w.heap.size ≤ b ∧ w'.ownsMap Try.prog 3 (plainElem Try.prog 9) b l.length D ∧ MapIs D (colS l).2)) ∧ Below w.heap.size w w'
theorem results_col {tmps : Array Value} {w : World} (g : Nat) (x y z : Int) (v2 v4 : Value) (hp : tmps.getD 3 undef = .pointer (some ⟨g, 0, none⟩)) (h2 : tmps.getD 2 undef = v2) (h4 : tmps.getD 4 undef = v4)
    (hg : w.heap[g]? = some (.cells #[.int .i64 x, .int .i64 y, .int .i64 z] 40 (0, 0))) : (results Try.f26 tmps).run Try.prog w = .ok (.tuple #[v2, .agg #[.int .i64 x, .int .i64 y, .int .i64 z], v4]) w := by
  have hr : Try.f26.results = #[.tmp 2, .cell 3 40, .tmp 4] := by kernel_rfl
  have hp' : tmps[3]?.getD undef = .pointer (some ⟨g, 0, none⟩) := by simpa using hp
  have h2' : tmps[2]?.getD undef = v2 := by simpa using h2
  have h4' : tmps[4]?.getD undef = v4 := by simpa using h4
  have hl := run_loadVar_row (P := Try.prog) w g 40 40 #[.int .i64 x, .int .i64 y, .int .i64 z] (0, 0) _ hg Try.underlying40 rfl (by kernel_rfl)
  simp [results, hr, hp', h2', h4', asAddr, hl]
set_option maxHeartbeats 8000000 in
set_option maxRecDepth 100000 in
theorem collected_calls (A : Option Addr) (c : Nat) (l : List S42) (w : World) (hC : Kd.C k42 w A l.length l) (hc : l.length ≤ c) (hs : ∀ m ∈ l, smallM m) (hlen : l.length < 4611686018427387904) :
    Calls Try.prog 26 #[.slice A l.length c] w (colPost l w) := by
  have hmm := @run_makeMap Try.prog
  have HC := Aside0.mk hC
  have HS := Aside0.mk hs
  have HK := Aside0.mk (ContainsFunc_calls A c l (w.alloc (.cells #[.int .i64 0, .int .i64 0, .int .i64 0] 40)) (Kd.C_alloc hC _) hc hlen)
  clear hC hs
  go_enter Try.func26, Try.ntmps26
  by_cases h0 : l.length = 0
  · go_wp2
    (try simp only [Exit.inBlock, Exit.then])
    refine bodyPost_ret (results_col w.heap.size 0 0 0 _ _ rfl rfl rfl ?_) rfl ?_
    · exact heap_alloc_new w _
    · exact ⟨.inl ⟨by rw [err_nil h0]; decide, by rw [err_nil h0]; rfl⟩, (Below.refl _ _).alloc (Nat.le_refl _) _⟩
  · have h00 : ((l.length : Int) == 0) = false := by apply Bool.eq_false_iff.2; intro h; rw [beq_iff_eq] at h; omega
    go_wp2_with (fail)
    refine HK.out.mono ?_
    rintro e w1 ⟨rfl, hb1⟩
    have hbk1 := blk_below (blk_new w (.cells #[.int .i64 0, .int .i64 0, .int .i64 0] 40)) hb1
    have HBK3 := Aside0.mk hbk1
    have HB1 := Aside0.mk (below_then ((Below.refl _ _).alloc (Nat.le_refl _) _) (by simp) hb1 : Below w.heap.size w w1)
    clear hb1
    cases hbad : l.any (fun m => !validS m.f1) with
    | true =>
      have h1 := err_bad h0 hbad
      have H1 := Aside0.mk h1
      clear hbad h1
      have z0 : w1.cell? ⟨w.heap.size, 0, none⟩ = some (.int .i64 0) := (blk_cell HBK3.out 0).trans rfl
      have z1 : w1.cell? ⟨w.heap.size, 1, none⟩ = some (.int .i64 0) := (blk_cell HBK3.out 1).trans rfl
      have z2 : w1.cell? ⟨w.heap.size, 2, none⟩ = some (.int .i64 0) := (blk_cell HBK3.out 2).trans rfl
      have q0 := blk_frozen HBK3.out 0
      have q1 := blk_frozen HBK3.out 1
      have q2 := blk_frozen HBK3.out 2
      go_wp2
      (try simp only [Exit.inBlock, Exit.then])
      refine bodyPost_ret (results_col w.heap.size 0 0 0 _ _ rfl rfl rfl ?_) rfl ?_
      · exact blk_put (blk_put (blk_put HBK3.out 0 _ rfl) 1 _ rfl) 2 _ rfl
      · exact ⟨.inl ⟨by rw [H1.out]; decide, by rw [H1.out]; rfl⟩, below_set (below_set (below_set HB1.out (Nat.le_refl _)) (Nat.le_refl _)) (Nat.le_refl _)⟩
    | false =>
      have HBAD := Aside0.mk hbad
      clear hbad
      obtain ⟨ad, A0, c0, rfl, f0, f1, f2, f3, hl0, hi0⟩ := at_T42 (Kd.C_below HC.out HB1.out) 0 (by omega) (by omega)
      rw [show ((0 : Int)).toNat = 0 from rfl, show 0 * 4 = 0 from rfl, Addr.add_zero'] at f0 f1 f2 f3
      clear hi0 hl0
      obtain ⟨a, ha⟩ : ∃ a, a = (rd_T42 l 0).f1 := ⟨_, rfl⟩
      rw [← ha] at f1 f2 f3
      have HA := Aside0.mk ha
      clear ha
      have hv : ∀ m ∈ l, validS m.f1 = true := fun m hm => by
        have := List.any_eq_false.1 HBAD.out m hm
        simpa using this
      have HV := Aside0.mk hv
      clear hv
      go_wp2
      go_loopg [26] (l.length + 1) (fun kq v26 wr => ∃ (i : Nat) (es : List (Int × ByteArray)) (D : DataW Unit), v26 = .int .i64 i ∧ i ≤ l.length ∧ kq + i = l.length + 1 ∧ Aside0 (Below w.heap.size w wr) ∧
        Aside0 (wr.heap[w.heap.size]? = some (.cells #[.int .i64 0, .int .i64 0, .int .i64 0] 40 (0, 0))) ∧ Aside0 (wr.heap[w1.heap.size]? = some (.cells #[.int .i64 a.f0, .int .i64 a.f1, .int .i64 a.f2] 40 (0, 0))) ∧
        Aside0 (wr.ownsMap Try.prog 3 (plainElem Try.prog 9) (w1.heap.size + 1) i D) ∧ Aside0 (MapIs D es) ∧ Aside0 (colR a (l.drop i) es = colR a l []))
      case atStart =>
        exact ⟨0, [], .map [], rfl, Nat.zero_le _, rfl, ⟨below_alloc (below_alloc HB1.out _) _⟩, ⟨blk_alloc (blk_alloc HBK3.out _) _⟩, ⟨blk_alloc (blk_new w1 _) _⟩,
          ⟨by have := World.ownsMap_made (H := Unit) (w1.alloc (.cells #[.int .i64 a.f0, .int .i64 a.f1, .int .i64 a.f2] 40)) Try.prog 3 (plainElem Try.prog 9); rwa [show (w1.alloc (.cells #[.int .i64 a.f0, .int .i64 a.f1, .int .i64 a.f2] 40)).heap.size = w1.heap.size + 1 by simp] at this⟩,
          ⟨MapIs.nil⟩, ⟨by rw [List.drop_zero]⟩⟩
      case round =>
        obtain ⟨i, es, D, rfl, hi, hk, HB, BK3, BK5, HM, HI, HR⟩ := hrel
        obtain ⟨kk, rfl⟩ : ∃ kk, gk = kk + 1 := ⟨gk - 1, by omega⟩
        by_cases hlt : i < l.length
        · obtain ⟨ad', A1, c1, e1, g0, g1, g2, g3, hl1, hi1⟩ := at_T42 (Kd.C_below HC.out HB.out) (i : Int) (by omega) (by omega)
          cases e1
          rw [Int.toNat_natCast] at g0 g1 g2 g3
          have hg : l[i]? = some (rd_T42 l (i : Int)) := by rw [rd_T42, Int.toNat_natCast, List.getD_eq_getElem?_getD, List.getElem?_eq_getElem hlt]; rfl
          have hmem : rd_T42 l (i : Int) ∈ l := List.mem_of_getElem? hg
          have hdrop : l.drop i = rd_T42 l (i : Int) :: l.drop (i + 1) := by
            rw [List.drop_eq_getElem_cons hlt]; congr 1
            rw [List.getElem?_eq_getElem hlt] at hg; exact Option.some.inj hg
          have hvm := HV.out _ hmem
          have hsm := HS.out _ hmem
          obtain ⟨m, hm⟩ : ∃ m, m = rd_T42 l (i : Int) := ⟨_, rfl⟩
          rw [← hm] at g0 g1 g2 g3 hl1 hi1 hdrop hvm hsm
          clear hm hg hmem
          have HDR := Aside0.mk hdrop
          have HVM := Aside0.mk hvm
          have HSM := Aside0.mk hsm
          have HL1 := Aside0.mk hl1
          have HI1 := Aside0.mk hi1
          clear hdrop hvm hsm hl1 hi1
          obtain ⟨kj, hkj⟩ := join_ev m.f0 HSM.out.2 HSM.out.1
          have HKJ := Aside0.mk hkj
          clear hkj
          go_wp2_with (fail)
          refine (modes_Join.calls kj A1 c1 m.f0 _ _ (Kd.C_alloc HI1.out _) HL1.out HKJ.out).mono ?_
          rintro e w2 ⟨vj, rfl, hoj, hb2⟩
          have hcv := own_string (P := Try.prog) Try.underlying22 Try.underlying5 Try.underlying9 (Kd.own_of_R hoj)
          have hb2' := hb2
          have BB : Below w.heap.size w w2 := below_then (below_alloc HB.out _) (below_alloc HB.out _).size hb2
          have HB2 := Aside0.mk BB
          have HM2 := Aside0.mk ((HM.out.alloc _).kept (grown_of_below hb2 none) (by simp))
          have BK8 := Aside0.mk (blk_below (blk_new wr (.cells #[.slice A1 m.f0.length c1, .int .i64 m.f1.f0, .int .i64 m.f1.f1, .int .i64 m.f1.f2] 42)) hb2)
          have BK5' := Aside0.mk (blk_below (blk_alloc BK5.out _) hb2)
          have BK3' := Aside0.mk (blk_below (blk_alloc BK3.out _) hb2)
          clear hb2 hb2' BB HB BK5 BK3 HM hoj
          have x1 : w2.cell? ⟨wr.heap.size, 1, none⟩ = some (.int .i64 m.f1.f0) := (blk_cell BK8.out 1).trans rfl
          have x2 : w2.cell? ⟨wr.heap.size, 2, none⟩ = some (.int .i64 m.f1.f1) := (blk_cell BK8.out 2).trans rfl
          have x3 : w2.cell? ⟨wr.heap.size, 3, none⟩ = some (.int .i64 m.f1.f2) := (blk_cell BK8.out 3).trans rfl
          have y1 : w2.cell? ⟨w1.heap.size, 1, none⟩ = some (.int .i64 a.f1) := (blk_cell BK5'.out 1).trans rfl
          have y2 : w2.cell? ⟨w1.heap.size, 2, none⟩ = some (.int .i64 a.f2) := (blk_cell BK5'.out 2).trans rfl
          have hwf : (Lit.int .i64 m.f1.f0).wf = true := valid_wf HVM.out
          have hkey := keyOf_int_mk Try.underlying3 hwf
          rw [← textB] at hcv
          have z0 : w2.cell? ⟨w.heap.size, 0, none⟩ = some (.int .i64 0) := (blk_cell BK3'.out 0).trans rfl
          have z1 : w2.cell? ⟨w.heap.size, 1, none⟩ = some (.int .i64 0) := (blk_cell BK3'.out 1).trans rfl
          have z2 : w2.cell? ⟨w.heap.size, 2, none⟩ = some (.int .i64 0) := (blk_cell BK3'.out 2).trans rfl
          have q0 := blk_frozen BK3'.out 0
          have q1 := blk_frozen BK3'.out 1
          have q2 := blk_frozen BK3'.out 2
          have hcon : badS a es m = true → (colS l).1 = 34 := fun hb => err_con h0 HBAD.out (by rw [← HA.out, ← HR.out, HDR.out, colR, if_pos hb])
          have hgo : badS a es m = false → colR a (l.drop (i + 1)) (putS es m) = colR a l [] := fun hb => by rw [← HR.out, HDR.out, colR, if_neg (by rw [hb]; simp)]
          have HCN := Aside0.mk hcon
          have HGO := Aside0.mk hgo
          clear hcon hgo
          have HN := Aside0.mk (by have : maxLen = 9223372036854775807 := by decide
                                   omega : i < maxLen)
          have HSZ := Aside0.mk (by rw [textB, strOfNums_size]; have := HSM.out.1; have : maxLen = 9223372036854775807 := by decide
                                    omega : (textB m).size ≤ maxLen)
          by_cases hA : m.f1.f1 = a.f1
          · have hA0 : (m.f1.f1 == a.f1) = true := beq_iff_eq.mpr hA
            have hA1 : (m.f1.f1 != a.f1) = false := bne_eq_false_iff_eq.mpr hA
            clear hA
            by_cases hB : m.f1.f2 = a.f2
            · have hB0 : (m.f1.f2 == a.f2) = true := beq_iff_eq.mpr hB
              have hB1 : (m.f1.f2 != a.f2) = false := bne_eq_false_iff_eq.mpr hB
              clear hB
              cases hlk : es.lookup m.f1.f0 with
              | none =>
                have hb : badS a es m = false := by unfold badS; rw [hA1, hB1, hlk]; rfl
                have hhas : Maps.has D (.int .i64 m.f1.f0) = false := by rw [HI.out.has, hlk]; rfl
                have hgo := HGO.out hb
                rw [putS, hlk] at hgo
                have HNX := Aside0.mk hgo
                have HPUT := Aside0.mk (HI.out.put hwf (textB m) hlk)
                clear hb hgo hlk
                go_wp2_with (first | (at_lookup; refine wpList_lookup_own_ok _ rfl _ _ 55 rfl 3 9 law3 Try.underlying55 _ (zero9 _) (.lit (.string [])) [] (plainElem_string Try.underlying9 (by decide)) (w1.heap.size + 1) i D rfl HM2.out _ _ rfl hkey ?_; intro v ps hv; obtain ⟨sv, rfl, hsv, _⟩ := plainElem_string_inv Try.underlying9 hv) | (at_mapUpdate; refine wpList_mapUpdate_own _ rfl _ _ _ 55 rfl 3 9 law3 Try.underlying55 _ (w1.heap.size + 1) i D rfl HM2.out HN.out _ _ _ rfl rfl hkey _ [] (plainElem_string Try.underlying9 HSZ.out) ?_; intro w3 hm3 hg3))
                have HM3 := Aside0.mk hm3
                have HB3 := Aside0.mk (HB2.out.grown hg3 HB2.out.size (fun k hk => by cases hk; have := HB1.out.size; omega))
                have BK3n := Aside0.mk (blk_grown BK3'.out hg3 (by intro e; have := Option.some.inj e; have := HB1.out.size; omega))
                have BK5n := Aside0.mk (blk_grown BK5'.out hg3 (by intro e; have := Option.some.inj e; omega))
                clear hm3 hg3 HM2 HB2 BK3' BK5' BK8 hcv hmm
                go_wp2
                go_roundg kk
                case measure => omega
                case rel => exact ⟨i + 1, _, _, by first | rfl | go_num, by omega, by omega, HB3, BK3n, BK5n, HM3, HPUT, HNX⟩
              | some s =>
                have hhas : Maps.has D (.int .i64 m.f1.f0) = true := by rw [HI.out.has, hlk]; rfl
                by_cases hS : s.toList = (textB m).toList
                · have hb : badS a es m = false := by unfold badS; rw [hA1, hB1, hlk]; simp [← ByteArray.toList_eq, hS]
                  have hSe := same_bytes hS
                  have hgo := HGO.out hb
                  rw [putS, hlk] at hgo
                  have HNX := Aside0.mk hgo
                  have HPUT := Aside0.mk (HI.out.again hwf (textB m) (by rw [← hSe]; exact hlk))
                  have hS1 : (s.toList != (textB m).toList) = false := bne_eq_false_iff_eq.mpr hS
                  have hS0 : (s.toList == (textB m).toList) = true := beq_iff_eq.mpr hS
                  clear hb hgo hS
                  go_wp2_with (first | (at_lookup; refine wpList_lookup_own_ok _ rfl _ _ 55 rfl 3 9 law3 Try.underlying55 _ (zero9 _) (.lit (.string [])) [] (plainElem_string Try.underlying9 (by decide)) (w1.heap.size + 1) i D rfl HM2.out _ _ rfl hkey ?_; intro v ps hv; obtain ⟨sv, rfl, hsv, _⟩ := plainElem_string_inv Try.underlying9 hv; obtain rfl := str_of hsv (HI.out.at_ _ _ hlk _); clear hv hsv) | (at_mapUpdate; refine wpList_mapUpdate_own _ rfl _ _ _ 55 rfl 3 9 law3 Try.underlying55 _ (w1.heap.size + 1) i D rfl HM2.out HN.out _ _ _ rfl rfl hkey _ [] (plainElem_string Try.underlying9 HSZ.out) ?_; intro w3 hm3 hg3))
                  have HM3 := Aside0.mk hm3
                  have HB3 := Aside0.mk (HB2.out.grown hg3 HB2.out.size (fun k hk => by cases hk; have := HB1.out.size; omega))
                  have BK3n := Aside0.mk (blk_grown BK3'.out hg3 (by intro e; have := Option.some.inj e; have := HB1.out.size; omega))
                  have BK5n := Aside0.mk (blk_grown BK5'.out hg3 (by intro e; have := Option.some.inj e; omega))
                  clear hm3 hg3 HM2 HB2 BK3' BK5' BK8 hcv hmm
                  go_wp2
                  go_roundg kk
                  case measure => omega
                  case rel => exact ⟨i + 1, _, _, by first | rfl | go_num, by omega, by omega, HB3, BK3n, BK5n, HM3, HPUT, HNX⟩
                · have hS1 : (s.toList != (textB m).toList) = true := bne_iff_ne.mpr hS
                  have hS0 : (s.toList == (textB m).toList) = false := beq_eq_false_iff_ne.mpr hS
                  have H34 := Aside0.mk (HCN.out (by unfold badS; rw [hA1, hB1, hlk]; show (s.data.toList != (textB m).data.toList) = true; rw [← ByteArray.toList_eq, ← ByteArray.toList_eq]; exact hS1))
                  clear hS
                  go_wp2_with (at_lookup; refine wpList_lookup_own_ok _ rfl _ _ 55 rfl 3 9 law3 Try.underlying55 _ (zero9 _) (.lit (.string [])) [] (plainElem_string Try.underlying9 (by decide)) (w1.heap.size + 1) i D rfl HM2.out _ _ rfl hkey ?_; intro v ps hv; obtain ⟨sv, rfl, hsv, _⟩ := plainElem_string_inv Try.underlying9 hv; obtain rfl := str_of hsv (HI.out.at_ _ _ hlk _); clear hv hsv)
                  (try simp only [Exit.inBlock, Exit.then])
                  refine bodyPost_ret (results_col w.heap.size 0 0 0 _ _ rfl rfl rfl ?_) rfl ?_
                  · exact blk_put (blk_put (blk_put BK3'.out 0 _ rfl) 1 _ rfl) 2 _ rfl
                  · exact ⟨.inl ⟨by rw [H34.out]; decide, by rw [H34.out]; rfl⟩, below_set (below_set (below_set HB2.out (Nat.le_refl _)) (Nat.le_refl _)) (Nat.le_refl _)⟩
            · have hB0 : (m.f1.f2 == a.f2) = false := beq_eq_false_iff_ne.mpr hB
              have hB1 : (m.f1.f2 != a.f2) = true := bne_iff_ne.mpr hB
              have H34 := Aside0.mk (HCN.out (by unfold badS; rw [hA1, hB1]; rfl))
              clear hB
              go_wp2_with (at_lookup; refine wpList_lookup_own_ok _ rfl _ _ 55 rfl 3 9 law3 Try.underlying55 _ (zero9 _) (.lit (.string [])) [] (plainElem_string Try.underlying9 (by decide)) (w1.heap.size + 1) i D rfl HM2.out _ _ rfl hkey ?_; intro v ps hv; obtain ⟨sv, rfl, hsv, _⟩ := plainElem_string_inv Try.underlying9 hv)
              (try simp only [Exit.inBlock, Exit.then])
              refine bodyPost_ret (results_col w.heap.size 0 0 0 _ _ rfl rfl rfl ?_) rfl ?_
              · exact blk_put (blk_put (blk_put BK3'.out 0 _ rfl) 1 _ rfl) 2 _ rfl
              · exact ⟨.inl ⟨by rw [H34.out]; decide, by rw [H34.out]; rfl⟩, below_set (below_set (below_set HB2.out (Nat.le_refl _)) (Nat.le_refl _)) (Nat.le_refl _)⟩
          · have hA0 : (m.f1.f1 == a.f1) = false := beq_eq_false_iff_ne.mpr hA
            have hA1 : (m.f1.f1 != a.f1) = true := bne_iff_ne.mpr hA
            have H34 := Aside0.mk (HCN.out (by unfold badS; rw [hA1]; rfl))
            clear hA
            go_wp2_with (at_lookup; refine wpList_lookup_own_ok _ rfl _ _ 55 rfl 3 9 law3 Try.underlying55 _ (zero9 _) (.lit (.string [])) [] (plainElem_string Try.underlying9 (by decide)) (w1.heap.size + 1) i D rfl HM2.out _ _ rfl hkey ?_; intro v ps hv; obtain ⟨sv, rfl, hsv, _⟩ := plainElem_string_inv Try.underlying9 hv)
            (try simp only [Exit.inBlock, Exit.then])
            refine bodyPost_ret (results_col w.heap.size 0 0 0 _ _ rfl rfl rfl ?_) rfl ?_
            · exact blk_put (blk_put (blk_put BK3'.out 0 _ rfl) 1 _ rfl) 2 _ rfl
            · exact ⟨.inl ⟨by rw [H34.out]; decide, by rw [H34.out]; rfl⟩, below_set (below_set (below_set HB2.out (Nat.le_refl _)) (Nat.le_refl _)) (Nat.le_refl _)⟩
        · have he : i = l.length := by omega
          have hr2 := HR.out
          rw [he, List.drop_length, colR] at hr2
          have HCOL := Aside0.mk (err_ok h0 HBAD.out (by rw [← HA.out]; exact hr2.symm))
          clear hr2
          subst he
          have z0 : wr.cell? ⟨w.heap.size, 0, none⟩ = some (.int .i64 0) := (blk_cell BK3.out 0).trans rfl
          have z1 : wr.cell? ⟨w.heap.size, 1, none⟩ = some (.int .i64 0) := (blk_cell BK3.out 1).trans rfl
          have z2 : wr.cell? ⟨w.heap.size, 2, none⟩ = some (.int .i64 0) := (blk_cell BK3.out 2).trans rfl
          have q0 := blk_frozen BK3.out 0
          have q1 := blk_frozen BK3.out 1
          have q2 := blk_frozen BK3.out 2
          have y0 : wr.cell? ⟨w1.heap.size, 0, none⟩ = some (.int .i64 a.f0) := (blk_cell BK5.out 0).trans rfl
          have y1 : wr.cell? ⟨w1.heap.size, 1, none⟩ = some (.int .i64 a.f1) := (blk_cell BK5.out 1).trans rfl
          have y2 : wr.cell? ⟨w1.heap.size, 2, none⟩ = some (.int .i64 a.f2) := (blk_cell BK5.out 2).trans rfl
          go_wp2
          go_region
          go_wp2
          (try simp only [Exit.inBlock, Exit.then])
          refine bodyPost_ret (results_col w.heap.size a.f0 a.f1 a.f2 _ _ rfl rfl rfl ?_) rfl ?_
          · exact blk_drew (blk_put (blk_put (blk_put BK3.out 0 _ rfl) 1 _ rfl) 2 _ rfl)
          · refine ⟨.inr ⟨by rw [HCOL.out], w1.heap.size + 1, D, ?_, by have := HB1.out.size; omega, ?_, by rw [HCOL.out]; exact HI.out⟩, ?_⟩
            · rw [HA.out]; rfl
            · exact ((((HM.out.setCell (by show w1.heap.size + 1 ≠ w.heap.size; have := HB1.out.size; omega) _).setCell (by show w1.heap.size + 1 ≠ w.heap.size; have := HB1.out.size; omega) _).setCell (by show w1.heap.size + 1 ≠ w.heap.size; have := HB1.out.size; omega) _).drew)
            · exact below_drew1 (below_set (below_set (below_set HB.out (Nat.le_refl _)) (Nat.le_refl _)) (Nat.le_refl _))

end Go.Proofs.Ytclbjddcenkidaa.PS
namespace Go.Proofs.Ytclbjddcenkidaa.PS
open Go.RowKit Go.Proofs.YtclbjddcenkidaaW.PrintWords Go.Proofs.YtclbjddcenkidaaW.PrintLast Go.Proofs.YtclbjddcenkidaaW.PrintMore
attribute [local go_sem] max2_int min2_int max_two min_two max_three min_three max_four min_four
open Go.Maps
def missL (es : List (Int × ByteArray)) (n : Nat) : List Int := ((List.range n).filter fun (i : Nat) => (es.lookup (i : Int)).isNone).map fun (i : Nat) => (i : Int)
def missS (l : List S42) : List Int × Int := if (colS l).1 = 0 then (missL (colS l).2 (rd_T42 l 0).f1.f1.toNat, 0) else ([], (colS l).1)
theorem missL_succ (es : List (Int × ByteArray)) (i : Nat) : missL es (i + 1) = missL es i ++ (if (es.lookup (i : Int)).isNone then [(i : Int)] else []) := by
  unfold missL
  rw [List.range_succ, List.filter_append, List.map_append]
  congr 1
  by_cases h : (es.lookup (i : Int)).isNone = true <;> simp [h]
theorem missL_len (es : List (Int × ByteArray)) (i : Nat) : (missL es i).length ≤ i := by
  unfold missL
  rw [List.length_map]
  exact Nat.le_trans (List.length_filter_le _ _) (by simp)
theorem small_wf {x : Int} (h0 : -9223372036854775808 ≤ x) (h1 : x ≤ 9223372036854775807) : (Lit.int .i64 x).wf = true := by
  have e1 : IntKind.i64.min = -9223372036854775808 := by decide
  have e2 : IntKind.i64.max = 9223372036854775807 := by decide
  simp only [Lit.wf, e1, e2, Bool.and_eq_true, decide_eq_true_eq]
  exact ⟨h0, h1⟩
theorem ok_total {l : List S42} (h : (colS l).1 = 0) : validS (rd_T42 l 0).f1 = true := by
  unfold colS at h
  split at h
  · simp at h
  · rename_i h0
    split at h
    · simp at h
    · rename_i h1
      have hlt : 0 < l.length := by omega
      have hg : l[0]? = some (rd_T42 l 0) := by rw [rd_T42, List.getD_eq_getElem?_getD]; simp [List.getElem?_eq_getElem hlt]
      have hm := List.mem_of_getElem? hg
      have h2 := List.any_eq_false.1 (by simpa using h1 : l.any (fun m => !validS m.f1) = false) _ hm
      simpa using h2
theorem total_bd {a : S40} (h : validS a = true) : 0 ≤ a.f1 ∧ a.f1 ≤ 16 := by
  unfold validS at h
  simp only [Bool.or_eq_true, Bool.and_eq_true, beq_iff_eq, decide_eq_true_eq] at h
  omega
set_option maxHeartbeats 8000000 in
set_option maxRecDepth 100000 in
theorem Missing_calls (A : Option Addr) (c : Nat) (l : List S42) (w : World) (hC : Kd.C k42 w A l.length l) (hc : l.length ≤ c) (hs : ∀ m ∈ l, smallM m) (hlen : l.length < 4611686018427387904) :
    Calls Try.prog 17 #[.slice A l.length c] w fun e w' => ∃ v0_ : Value, e = .returned (.tuple #[v0_, .int .i64 (missS l).2]) ∧ Kd.R (Kd.int .i64) 3 w' w.heap.size (fun _ => True) v0_ (missS l).1 ∧ Below w.heap.size w w' := by
  have HK := Aside0.mk (collected_calls A c l w hC hc hs hlen)
  clear hC hs
  go_enter Try.func17, Try.ntmps17
  go_wp2_with (fail)
  refine HK.out.mono ?_
  rintro e w1 ⟨⟨hne, rfl⟩ | ⟨h0, b, D, rfl, hbb, hM, hI⟩, hb1⟩
  · have HB1 := Aside0.mk hb1
    have hne2 : ((colS l).1 != 0) = true := bne_iff_ne.2 hne
    have hms : missS l = ([], (colS l).1) := by unfold missS; rw [if_neg hne]
    have HMS := Aside0.mk hms
    clear hb1 hms HK
    go_wp2
    go_ret2
    rw [HMS.out]
    exact ⟨_, rfl, Kd.R_nil _ _ _ _ _, below_alloc HB1.out _⟩
  · have HB1 := Aside0.mk hb1
    have htot := total_bd (ok_total h0)
    obtain ⟨n, hn⟩ : ∃ n : Nat, (rd_T42 l 0).f1.f1 = (n : Int) := ⟨(rd_T42 l 0).f1.f1.toNat, by omega⟩
    have hms : missS l = (missL (colS l).2 n, 0) := by unfold missS; rw [if_pos h0, hn]; rfl
    rw [hn] at htot
    have HMS := Aside0.mk hms
    have HM := Aside0.mk hM
    have HI := Aside0.mk hI
    generalize (rd_T42 l 0).f1.f0 = a0 at *
    generalize (rd_T42 l 0).f1.f2 = a2 at *
    rw [hn]
    generalize (colS l).2 = es at *
    clear hb1 hms HK hM hI hn h0
    go_wp2
    go_loopg [7, 22] (n + 1) (fun kq v7 v22 wr => ∃ (i : Nat), v22 = .int .i64 i ∧ i ≤ n ∧ kq + i = n + 1 ∧ Aside0 (Kd.R (Kd.int .i64) 3 wr w1.heap.size (fun _ => True) v7 (missL es i)) ∧ Aside0 (Below w1.heap.size w1 wr) ∧ Aside0 (wr.ownsMap Try.prog 3 (plainElem Try.prog 9) b l.length D))
    case atStart => exact ⟨0, rfl, Nat.zero_le _, rfl, ⟨Kd.R_nil _ _ _ _ _⟩, ⟨below_alloc (Below.refl _ _) _⟩, ⟨HM.out.alloc _⟩⟩
    case round =>
      obtain ⟨i, rfl, hi, hk, HO, HB, HMr⟩ := hrel
      obtain ⟨kk, rfl⟩ : ∃ kk, gk = kk + 1 := ⟨gk - 1, by omega⟩
      have HLEN := Aside0.mk (missL_len es i)
      by_cases hlt : i < n
      · have hkey := keyOf_int_mk Try.underlying3 (small_wf (x := (i : Int)) (by omega) (by omega))
        have hw : IntKind.i64.wrap ((i : Int) + 1) = (i : Int) + 1 := IntWalk.i64_in _ (by omega)
        have hm1 := missL_succ es i
        cases hlk : es.lookup (i : Int) with
        | none =>
          have hhas : Maps.has D (.int .i64 (i : Int)) = false := by rw [HI.out.has, hlk]; rfl
          rw [hlk] at hm1
          have HM1 := Aside0.mk hm1
          clear hm1 hlk
          have hbne : some b ≠ u7.ownBlock := fun e => by
            have := own_base (Kd.own_of_R HO.out) b e.symm
            have := HM.out.lt
            omega
          have HNE := Aside0.mk hbne
          clear hbne
          go_wp2_with (first | (at_lookup; refine wpList_lookup_own_ok _ rfl _ _ 55 rfl 3 9 law3 Try.underlying55 _ (zero9 _) (.lit (.string [])) [] (plainElem_string Try.underlying9 (by decide)) b l.length D rfl HMr.out _ _ rfl hkey ?_; intro v ps hv; obtain ⟨sv, rfl, hsv, _⟩ := plainElem_string_inv Try.underlying9 hv; clear hv hsv) | (at_builtin; refine Kd.R_append (Kd.int .i64) (w0 := w1) w1.heap.size rfl (.tmp 33) (.tmp 35) 26 3 (.int .i64 0) 8 rfl Try.underlying26 info3 rfl (by decide) (by omega) u7 (missL es i) (i : Int) [.int .i64 i] (fun _ => True) (fun _ => False) rfl rfl ?aP (fun _ hk => hk.elim) (fun _ _ => trivial) ?aO ?aB ?aS ?aL ?_; (case aP => exact rfl); (case aO => exact HO.out); (case aB => exact HB.out); (case aS => exact HB.out.size); (case aL => have := HLEN.out; omega); intro v36 w4 ho hb hg hat; have HO4 := Aside0.mk ho; have HB4 := Aside0.mk hb; have HG4 := Aside0.mk hg; clear ho hb hg hat))
          go_roundg kk
          case measure => omega
          case rel => exact ⟨i + 1, by first | rfl | go_num, by omega, by omega, ⟨by rw [HM1.out]; exact HO4.out⟩, HB4, ⟨HMr.out.kept HG4.out HNE.out⟩⟩
        | some s =>
          have hhas : Maps.has D (.int .i64 (i : Int)) = true := by rw [HI.out.has, hlk]; rfl
          rw [hlk] at hm1
          have HM1 := Aside0.mk hm1
          clear hm1 hlk
          go_wp2_with (at_lookup; refine wpList_lookup_own_ok _ rfl _ _ 55 rfl 3 9 law3 Try.underlying55 _ (zero9 _) (.lit (.string [])) [] (plainElem_string Try.underlying9 (by decide)) b l.length D rfl HMr.out _ _ rfl hkey ?_; intro v ps hv; obtain ⟨sv, rfl, hsv, _⟩ := plainElem_string_inv Try.underlying9 hv; clear hv hsv)
          go_roundg kk
          case measure => omega
          case rel => exact ⟨i + 1, by first | rfl | go_num, by omega, by omega, ⟨by rw [HM1.out]; simpa using HO.out⟩, HB, HMr⟩
      · have he : i = n := by omega
        subst he
        go_wp2
        go_ret2
        rw [HMS.out]
        exact ⟨_, rfl, Kd.R_lower HO.out HB1.out.size, below_then HB1.out HB1.out.size HB.out⟩

end Go.Proofs.Ytclbjddcenkidaa.PS
namespace Go.Proofs.Ytclbjddcenkidaa.PS
open Go.RowKit Go.Proofs.YtclbjddcenkidaaW.PrintWords Go.Proofs.YtclbjddcenkidaaW.PrintLast Go.Proofs.YtclbjddcenkidaaW.PrintMore
attribute [local go_sem] max2_int min2_int max_two min_two max_three min_three max_four min_four
open Go.Maps
def parF (l : List Int) : Int := l.foldl (fun x c => Go.bits .xor .u8 x c) 0
def parS (l : List Int) : Int := wrap64 (parF l)
theorem par_ev (l : List Int) (hl : l.length < 4611686018427387904) : split_Parity.f (l.length + 1) l = some (parS l) := by
  suffices H : ∀ n i, i + n = l.length → split_Parity.l0 (n + 1) ((l.take i).foldl (fun x c => Go.bits .xor .u8 x c) 0) l (l.length : Int) (i : Int) = some (parS l) from H l.length 0 (by omega)
  intro n
  induction n with
  | zero =>
    intro i hi
    rw [split_Parity.l0, if_neg (by omega), show i = l.length by omega, List.take_length]
    rfl
  | succ n ih =>
    intro i hi
    have hlt : i < l.length := by omega
    have hw : wrap64 ((i : Int) + 1) = ((i + 1 : Nat) : Int) := by unfold wrap64; omega
    have hr : rd l (i : Int) = l[i] := by rw [rd, Int.toNat_natCast]; simp [List.getD_eq_getElem?_getD, List.getElem?_eq_getElem hlt]
    have e : Go.bits .xor .u8 ((l.take i).foldl (fun x c => Go.bits .xor .u8 x c) 0) (rd l (i : Int)) = (l.take (i + 1)).foldl (fun x c => Go.bits .xor .u8 x c) 0 := by
      rw [List.take_add_one, List.getElem?_eq_getElem hlt, List.foldl_append, hr]; rfl
    rw [split_Parity.l0, if_pos (by omega), if_pos (by omega), if_pos (by omega), hw, e]
    exact ih (i + 1) (by omega)
def keysS (es : List (Int × ByteArray)) : List Int := (es.map (·.1)).mergeSort leI
def pieceS (es : List (Int × ByteArray)) (k : Int) : List Int := match es.lookup k with | some s => bytesOf s | none => []
def outS (es : List (Int × ByteArray)) : List Int := (keysS es).flatMap (pieceS es)
def joinR (es : List (Int × ByteArray)) (a : S40) : List Int × Int :=
  if (es.length : Int) < max 1 a.f1 then ([], 33) else if 4096 < (outS es).length then ([], 4) else if 0 < a.f1 ∧ parS (outS es) ≠ a.f2 then ([], 8) else (outS es, 0)
def joinP (l : List S42) : List Int × Int := if (colS l).1 = 0 then joinR (colS l).2 (rd_T42 l 0).f1 else ([], (colS l).1)
theorem keys_perm {D : DataW Unit} {es : List (Int × ByteArray)} (hI : MapIs D es) {ss : List Int} {left : Lit → Bool} (h : CollectedI D left ss) (hl : ∀ kl, left kl = false) : ss.mergeSort leI = keysS es ∧ ss.length = es.length ∧ (∀ x ∈ keysS es, x ∈ ss ∧ ∃ s, es.lookup x = some s) := by
  have hp : ss.Perm (es.map (·.1)) := by
    refine (List.perm_ext_iff_of_nodup h.1 hI.nodup).2 fun x => ?_
    rw [h.2 x, hl, hI.has]
    simp only [and_true]
    cases hx : es.lookup x with
    | none =>
      simp only [Option.isSome_none, Bool.false_eq_true, false_iff]
      intro hm
      obtain ⟨p, hp, rfl⟩ := List.mem_map.1 hm
      exact lookup_none hx p hp rfl
    | some s =>
      simp only [Option.isSome_some, true_iff]
      obtain ⟨l1, l2, h1, _⟩ := List.lookup_eq_some_iff.1 hx
      exact List.mem_map.2 ⟨(x, s), by rw [h1]; simp, rfl⟩
  refine ⟨mergeSort_of_perm_i hp, by rw [hp.length_eq, List.length_map], fun x hx => ?_⟩
  have hm : x ∈ ss := hp.mem_iff.2 (by rwa [keysS, List.mem_mergeSort] at hx)
  refine ⟨hm, ?_⟩
  have := ((h.2 x).1 hm).1
  rw [hI.has] at this
  exact Option.isSome_iff_exists.1 this
theorem out_take (es : List (Int × ByteArray)) (i : Nat) (h : i < (keysS es).length) {s : ByteArray} (hs : es.lookup (keysS es)[i] = some s) :
    ((keysS es).take (i + 1)).flatMap (pieceS es) = ((keysS es).take i).flatMap (pieceS es) ++ bytesOf s := by
  rw [List.take_add_one, List.getElem?_eq_getElem h, List.flatMap_append]
  simp [pieceS, hs]
theorem out_len (es : List (Int × ByteArray)) (i : Nat) : (((keysS es).take i).flatMap (pieceS es)).length ≤ (outS es).length := by
  have e : outS es = ((keysS es).take i).flatMap (pieceS es) ++ ((keysS es).drop i).flatMap (pieceS es) := by rw [outS, ← List.flatMap_append, List.take_append_drop]
  rw [e, List.length_append]
  omega
set_option maxHeartbeats 8000000 in
set_option maxRecDepth 100000 in
theorem Join_calls (A : Option Addr) (c : Nat) (l : List S42) (w : World) (hC : Kd.C k42 w A l.length l) (hc : l.length ≤ c) (hs : ∀ m ∈ l, smallM m) (hlen : l.length ≤ 1000000) (hbig : (outS (colS l).2).length < 70368744177664) :
    Calls Try.prog 15 #[.slice A l.length c] w fun e w' => ∃ v0_ : Value, e = .returned (.tuple #[v0_, .int .i64 (joinP l).2]) ∧ Kd.R (Kd.int .u8) 5 w' w.heap.size (fun _ => True) v0_ (joinP l).1 ∧ Below w.heap.size w w' := by
  have HK := Aside0.mk (collected_calls A c l w hC hc hs (by omega))
  clear hC hs
  obtain ⟨r, hr⟩ : ∃ r, r = joinP l := ⟨_, rfl⟩
  rw [← hr]
  go_enter Try.func15, Try.ntmps15
  go_wp2_with (fail)
  refine HK.out.mono ?_
  rintro e w1 ⟨⟨hne, rfl⟩ | ⟨h0, b, D, rfl, hbb, hM, hI⟩, hb1⟩
  · have HB1 := Aside0.mk hb1
    have hne2 : ((colS l).1 != 0) = true := bne_iff_ne.2 hne
    have hms : r = ([], (colS l).1) := by rw [hr]; unfold joinP; rw [if_neg hne]
    have HMS := Aside0.mk hms
    clear hb1 hms HK hr
    go_wp2
    go_ret2
    rw [HMS.out]
    exact ⟨_, rfl, Kd.R_nil _ _ _ _ _, below_alloc HB1.out _⟩
  · have HB1 := Aside0.mk hb1
    have htot := total_bd (ok_total h0)
    have hr : r = joinR (colS l).2 (rd_T42 l 0).f1 := by rw [hr]; unfold joinP; rw [if_pos h0]
    have HM := Aside0.mk hM
    have HI := Aside0.mk hI
    generalize (rd_T42 l 0).f1 = a at *
    generalize (colS l).2 = es at *
    have HRS := Aside0.mk hr
    have HBIG := Aside0.mk hbig
    clear hb1 HK hM hI h0 hr hbig
    have HSZ := Aside0.mk HI.out.size
    obtain ⟨mx, hmx⟩ : ∃ mx, (if (1 : Int) < a.f1 then a.f1 else 1) = mx := ⟨_, rfl⟩
    have hmx2 : max 1 a.f1 = mx := by rw [← hmx]; split <;> omega
    by_cases hsmall : (es.length : Int) < mx
    · have hd : decide ((es.length : Int) < mx) = true := decide_eq_true hsmall
      have hj : r = ([], 33) := by rw [HRS.out]; unfold joinR; rw [hmx2, if_pos hsmall]
      have HJ := Aside0.mk hj
      clear hj hmx2
      go_wp2_with (at_len; refine wpList_len_own _ rfl _ 55 rfl 3 9 Try.underlying55 _ b l.length D rfl (HM.out.alloc _) ?_; rw [HSZ.out])
      go_ret2
      rw [HJ.out]
      exact ⟨_, rfl, Kd.R_nil _ _ _ _ _, below_alloc HB1.out _⟩
    · have hd : decide ((es.length : Int) < mx) = false := decide_eq_false hsmall
      have hpos : 1 ≤ es.length := by omega
      have HJ := Aside0.mk (by rw [HRS.out]; unfold joinR; rw [hmx2, if_neg hsmall] : r = if 4096 < (outS es).length then ([], 4) else if 0 < a.f1 ∧ parS (outS es) ≠ a.f2 then ([], 8) else (outS es, 0))
      clear hmx2 hsmall
      have BK5 := Aside0.mk (blk_new w1 (.cells #[.int .i64 a.f0, .int .i64 a.f1, .int .i64 a.f2] 40))
      go_wp2_with (first
        | (at_len; refine wpList_len_own _ rfl _ 55 rfl 3 9 Try.underlying55 _ b l.length D rfl (HM.out.alloc _) ?_; rw [HSZ.out])
        | (at_range; refine wpList_range_own _ rfl _ 55 rfl 3 9 law3 Try.underlying55 _ b l.length D rfl (HM.out.alloc _) ?_; intro w0 hrg0 hg0 hs0; have HRG := Aside0.mk hrg0; have HG0 := Aside0.mk hg0; have HS0 := Aside0.mk hs0; clear hrg0 hg0 hs0))
      have e1 : (w1.alloc (.cells #[.int .i64 a.f0, .int .i64 a.f1, .int .i64 a.f2] 40)).heap.size = w1.heap.size + 1 := by simp
      have hs0 := HS0.out
      have hrg0 := HRG.out
      rw [e1] at hs0 hrg0
      have HS0 := Aside0.mk hs0
      have HRG := Aside0.mk hrg0
      have HB0 := Aside0.mk ((below_alloc HB1.out _).grown HG0.out (below_alloc HB1.out _).size (by intro k hk; cases hk) : Below w.heap.size w w0)
      have BK5 := Aside0.mk (blk_grown BK5.out HG0.out (by simp))
      clear hs0 hrg0 HG0
      have HEL := Aside0.mk (HI.out.nodup)
      have hel : es.length ≤ l.length := by rw [← HSZ.out]; exact HM.out.size_le
      have hw0 : w.heap.size ≤ w0.heap.size := HB0.out.size
      have hbl := HM.out.lt
      have hs0' := HS0.out
      go_frame
      rw [e1]
      clear e1
      go_loopg [7, 8] (es.length + 1) (fun kq v7 v8 wr => ∃ (left : Lit → Bool) (cnt : Nat) (ss : List Int), cnt < kq ∧ ss.length + cnt ≤ es.length ∧ Aside0 (wr.ranges Try.prog 3 (plainElem Try.prog 9) b (w1.heap.size + 1) l.length D left cnt) ∧ Aside0 (CollectedI D left ss) ∧
        Aside0 (Kd.R (Kd.int .i64) 3 wr w0.heap.size (fun _ => True) v7 ss) ∧ Aside0 (Below w.heap.size w wr) ∧ Aside0 (wr.heap[w1.heap.size]? = some (.cells #[.int .i64 a.f0, .int .i64 a.f1, .int .i64 a.f2] 40 (0, 0))) ∧ Aside0 (w0.heap.size ≤ wr.heap.size))
      case atStart => exact ⟨_, _, [], by rw [HSZ.out]; omega, by rw [HSZ.out]; simp, HRG, ⟨CollectedI.start D⟩, ⟨Kd.R_nil _ _ _ _ _⟩, HB0, BK5, ⟨Nat.le_refl _⟩⟩
      case round =>
        clear HRG HB0 BK5
        obtain ⟨left, cnt, ss, hck, hcs, HRG, HCO, HO, HB, BK5, HSW⟩ := hrel
        obtain ⟨kk, rfl⟩ : ∃ kk, gk = kk + 1 := ⟨gk - 1, by omega⟩
        go_wp2_with (at_next; refine wpList_next_ranges_is _ rfl _ rfl 3 9 .i64 law3 Try.underlying3 Try.underlying9 b (w1.heap.size + 1) l.length D left cnt rfl HRG.out ?_ ?_)
        · intro hc0 hl0
          obtain ⟨hkeys, hlen2, hmem⟩ := keys_perm HI.out HCO.out hl0
          have hwfk : ∀ x ∈ keysS es, (Lit.int .i64 x).wf = true := fun x hx => intKeys_wf HRG.out.owns Try.underlying3 x ((HCO.out.perm HRG.out.owns law3 Try.underlying3 hl0).mem_iff.1 (hmem x hx).1)
          have HWF := Aside0.mk hwfk
          have HMEM := Aside0.mk (fun x hx => (hmem x hx).2)
          clear hmem hwfk
          have hob := own_base (Kd.own_of_R HO.out)
          obtain ⟨_, h00 | ⟨g, cap, cur, rfl, hgb, hgh, hcl, hcm, hcz, htk⟩⟩ := Kd.own_of_R HO.out
          · exfalso; have := h00.1; omega
          have hS := holds_of_blockI hgh (by rw [Nat.mul_one] at htk; exact htk)
          have hsort := Try.slices_Sort_int g 0 cap ss wr hS (blk_lt hgh) (by omega)
          have HSORT := Aside0.mk hsort
          have HGH := Aside0.mk hgh
          have HK := Aside0.mk hkeys
          have HMr := Aside0.mk HRG.out.owns
          have HCZ := Aside0.mk (And.intro hcl (And.intro hcm (And.intro hcz (And.intro hgb hlen2))))
          clear hsort hgh hkeys htk hS HRG HCO HO hl0 hc0 hcs hck hob hcl hcm hcz hgb hlen2
          go_wp2_with (fail)
          refine HSORT.out.mono ?_
          rintro e w2 ⟨rfl, nn, os, hw2⟩
          obtain ⟨hcl, hcm, hcz, hgb, hlen2⟩ := HCZ.out
          have hrow := ownsRow_sortedI (n := nn) (os := os) (ss := ss) (ts := keysS es) (by rw [← HK.out, List.length_mergeSort]) hgb HGH.out (by omega) hcm hcz
          have hgr := grownBy_sortedI (w := wr) (g := g) (n := nn) (os := os) (keysS es).toArray
          rw [HK.out] at hw2
          rw [← hw2] at hrow hgr
          have HM2 := Aside0.mk (HMr.out.kept hgr (by intro e; have := Option.some.inj e; omega))
          have HB2 := Aside0.mk (HB.out.grown hgr HB.out.size (fun k hk => by cases hk; omega))
          have BK52 := Aside0.mk (blk_grown BK5.out hgr (by intro e; have := Option.some.inj e; omega))
          have hkl : (keysS es).length = es.length := by rw [keysS, List.length_mergeSort, List.length_map]
          rw [hlen2] at hrow
          have HROW := Aside0.mk hrow
          rw [hlen2]
          clear hw2 hrow hgr HSORT HGH HB BK5 HMr hgb hcl hcm hcz HCZ hlen2 HSW HK
          obtain ⟨ks, hks⟩ : ∃ ks, ks = keysS es := ⟨_, rfl⟩
          have HKS := Aside0.mk hks
          clear hks
          have HKL := Aside0.mk hkl
          clear hkl
          go_wp2
          go_loopg [9, 41] (es.length + 1) (fun kq v9 v41 wr => ∃ (i : Nat), v41 = .int .i64 i ∧ i ≤ es.length ∧ kq + i = es.length + 1 ∧ Aside0 (Kd.R (Kd.int .u8) 5 wr w2.heap.size (fun _ => True) v9 (((keysS es).take i).flatMap (pieceS es))) ∧ Aside0 (Below w2.heap.size w2 wr))
          case atStart => exact ⟨0, rfl, Nat.zero_le _, rfl, ⟨Kd.R_nil _ _ _ _ _⟩, ⟨Below.refl _ _⟩⟩
          case round =>
            obtain ⟨i, rfl, hi, hk, HO, HBr⟩ := hrel
            obtain ⟨kk, rfl⟩ : ∃ kk, gk = kk + 1 := ⟨gk - 1, by omega⟩
            by_cases hlt : i < es.length
            · have hltk : i < (keysS es).length := by rw [HKL.out]; exact hlt
              obtain ⟨s, hs⟩ := HMEM.out _ (List.getElem_mem hltk)
              have hot := out_take es i hltk hs
              have hol := out_len es (i + 1)
              rw [hot, List.length_append, bytesOf_length] at hol
              have hkey := keyOf_int_mk Try.underlying3 (HWF.out _ (List.getElem_mem hltk))
              have hMr := HM2.out.kept (grown_of_below HBr.out none) (by simp)
              obtain ⟨vs, ps, hrun, hvs⟩ := hMr.lookup law3 Try.underlying55 (zero9 _) (zd := .lit (.string [])) (zp := []) (plainElem_string Try.underlying9 (by decide)) hkey
              obtain ⟨sv, rfl, hsv, _⟩ := plainElem_string_inv Try.underlying9 hvs
              obtain rfl := str_of hsv (HI.out.at_ _ _ hs _)
              have hx : wr.cell? ⟨g, i, none⟩ = some (.int .i64 (keysS es)[i]) := by
                rw [pw_cell_below HBr.out (HROW.out.cellAt i (by omega) |>.trans (by rw [List.getElem?_map, List.getElem?_eq_getElem hltk]; rfl))]
              have p1 : (0 ≤ (i : Int)) = True := eq_true (by omega)
              have p2 : ((i : Int) < (es.length : Int)) = True := eq_true (by omega)
              have HOT := Aside0.mk hot
              have HOL := Aside0.mk hol
              obtain ⟨key, hke⟩ : ∃ key, key = (keysS es)[i] := ⟨_, rfl⟩
              rw [← hke] at hx hrun
              clear hot hol hs hMr hvs hsv hkey hke
              go_wp2_with (at_builtin; refine print_append_str (w0 := w2) w2.heap.size rfl (.tmp 45) (.tmp 48) 22 9 5 rfl Try.underlying22 Try.underlying9 info5 u9 (((keysS es).take i).flatMap (pieceS es)) s rfl rfl ?aO ?aB ?aS ?aL ?_; (case aO => exact Kd.own_of_R HO.out); (case aB => exact HBr.out); (case aS => exact HBr.out.size); (case aL => have := HOL.out; have := HBIG.out; omega); intro v49 w4 ho hb hg; have HO4 := Aside0.mk (show Kd.R (Kd.int .u8) 5 w4 w2.heap.size (fun _ => True) v49 (((keysS es).take i).flatMap (pieceS es) ++ bytesOf s) from Kd.R_of_own (enc := Value.int .u8) ho (fun _ _ => trivial)); have HB4 := Aside0.mk hb; clear ho hb hg)
              go_roundg kk
              case measure => omega
              case rel => exact ⟨i + 1, by first | rfl | go_num, by omega, by omega, ⟨by rw [HOT.out]; exact HO4.out⟩, HB4⟩
            · have he : i = es.length := by omega
              subst he
              have hfull : ((keysS es).take es.length).flatMap (pieceS es) = outS es := by rw [← HKL.out, List.take_length]; rfl
              rw [hfull] at HO
              clear hfull HROW HWF HMEM
              obtain ⟨Ao, co, hu9, hco, hCo⟩ := Kd.R_reads HO.out
              subst hu9
              have HCO := Aside0.mk hCo
              have HLC := Aside0.mk hco
              clear hCo hco
              by_cases hbig : 4096 < (outS es).length
              · have hb1 : decide ((4096 : Int) < ((outS es).length : Int)) = true := decide_eq_true (by omega)
                have hj := HJ.out
                rw [if_pos hbig] at hj
                have HJ := Aside0.mk hj
                clear hj hbig
                go_wp2
                go_ret2
                rw [HJ.out]
                exact ⟨_, rfl, Kd.R_nil _ _ _ _ _, below_then HB2.out HB2.out.size HBr.out⟩
              · have hb1 : decide ((4096 : Int) < ((outS es).length : Int)) = false := decide_eq_false (by omega)
                have hj := HJ.out
                rw [if_neg hbig] at hj
                have y1 : wr.cell? ⟨w1.heap.size, 1, none⟩ = some (.int .i64 a.f1) := (blk_cell (blk_below BK52.out HBr.out) 1).trans rfl
                have y2 : wr.cell? ⟨w1.heap.size, 2, none⟩ = some (.int .i64 a.f2) := (blk_cell (blk_below BK52.out HBr.out) 2).trans rfl
                have HPE := Aside0.mk (par_ev (outS es) (by omega))
                have HBW := Aside0.mk (below_then HB2.out HB2.out.size HBr.out : Below w.heap.size w wr)
                have hw2s : w.heap.size ≤ w2.heap.size := HB2.out.size
                clear hbig
                by_cases ht : 0 < a.f1
                · have ht1 : decide (0 < a.f1) = true := decide_eq_true ht
                  by_cases hp : parS (outS es) = a.f2
                  · have hp1 : (parS (outS es) != a.f2) = false := bne_eq_false_iff_eq.mpr hp
                    rw [if_neg (by rw [hp]; simp)] at hj
                    have HJ := Aside0.mk hj
                    clear hj hp ht
                    go_wp2_with (fail)
                    go_region_with (go_at_call 8; refine (split_Parity.calls _ _ co (outS es) _ _ (by repeat (first | exact HCO.out | apply Kd.C_drewN | apply Kd.C_drew)) HLC.out HPE.out).mono ?_; rintro e w5 ⟨rfl, ⟨nd, rfl⟩⟩)
                    all_goals
                      go_wp2
                      go_ret2
                      rw [HJ.out]
                      exact ⟨_, rfl, Kd.R_lower (by first | exact HO.out | exact Kd.R_drew HO.out | exact Kd.R_drewN HO.out _ | exact Kd.R_drewN (Kd.R_drew HO.out) _ | exact Kd.R_drew (Kd.R_drewN HO.out _) | exact Kd.R_drew (Kd.R_drewN (Kd.R_drew HO.out) _)) hw2s, by repeat (first | exact HBW.out | apply below_alloc | apply pw_below_drewN | apply below_drew1)⟩
                  · have hp1 : (parS (outS es) != a.f2) = true := bne_iff_ne.mpr hp
                    rw [if_pos ⟨ht, hp⟩] at hj
                    have HJ := Aside0.mk hj
                    clear hj hp ht
                    go_wp2_with (fail)
                    go_region_with (go_at_call 8; refine (split_Parity.calls _ _ co (outS es) _ _ (by repeat (first | exact HCO.out | apply Kd.C_drewN | apply Kd.C_drew)) HLC.out HPE.out).mono ?_; rintro e w5 ⟨rfl, ⟨nd, rfl⟩⟩)
                    all_goals
                      go_wp2
                      go_ret2
                      rw [HJ.out]
                      exact ⟨_, rfl, Kd.R_nil _ _ _ _ _, by repeat (first | exact HBW.out | apply below_alloc | apply pw_below_drewN | apply below_drew1)⟩
                · have ht1 : decide (0 < a.f1) = false := decide_eq_false ht
                  rw [if_neg (fun h => ht h.1)] at hj
                  have HJ := Aside0.mk hj
                  clear hj ht
                  go_wp2_with (fail)
                  go_region
                  all_goals
                    go_wp2
                    go_ret2
                    rw [HJ.out]
                    exact ⟨_, rfl, Kd.R_lower (by first | exact HO.out | exact Kd.R_drew HO.out | exact Kd.R_drewN HO.out _ | exact Kd.R_drewN (Kd.R_drew HO.out) _ | exact Kd.R_drew (Kd.R_drewN HO.out _) | exact Kd.R_drew (Kd.R_drewN (Kd.R_drew HO.out) _)) hw2s, by repeat (first | exact HBW.out | apply below_alloc | apply pw_below_drewN | apply below_drew1)⟩
        · intro x s w2 cnt2 hwx hws hlx hat hrg2 hlt2 hg2 hs2 hen
          have hob := own_base (Kd.own_of_R HO.out)
          have HRG2 := Aside0.mk hrg2
          have HO1 := Aside0.mk (Kd.R_grown2 HO.out rfl hg2 (fun k hk => by
            cases hk
            intro e
            have := own_base (Kd.own_of_R HO.out) _ e.symm
            have := HS0.out
            omega))
          have HB2 := Aside0.mk (HB.out.grown hg2 HB.out.size (fun k hk => by cases hk; have := HB1.out.size; omega))
          have BK52 := Aside0.mk (blk_grown BK5.out hg2 (by intro e; have := Option.some.inj e; omega))
          have HCO2 := Aside0.mk (HCO.out.step hlx hat)
          have HS2 := Aside0.mk (Nat.le_trans HSW.out (Nat.le_of_eq hs2.symm))
          have HLEN := Aside0.mk (show ss.length ≤ l.length by omega)
          clear hrg2 hg2 hs2 hat hlx hws
          go_wp2_with (at_builtin; refine Kd.R_append (Kd.int .i64) (w0 := w2) w0.heap.size rfl (.tmp 33) (.tmp 35) 26 3 (.int .i64 0) 8 rfl Try.underlying26 info3 rfl (by decide) (by omega) u7 ss x [.int .i64 x] (fun _ => True) (fun _ => False) rfl rfl ?aP (fun _ hk => hk.elim) (fun _ _ => trivial) ?aO ?aB ?aS ?aL ?_; (case aP => exact rfl); (case aO => exact HO1.out); (case aB => exact Below.refl _ _); (case aS => exact HS2.out); (case aL => have := HLEN.out; omega); intro v36 w4 ho hb hg hat; have HO4 := Aside0.mk ho; have HB4 := Aside0.mk hb; have HG4 := Aside0.mk hg; clear ho hb hg hat)
          go_roundg kk
          case measure => omega
          case rel => exact ⟨_, cnt2, ss ++ [x], by omega, by rw [List.length_append]; simp; omega, ⟨HRG2.out.kept HG4.out (fun e => by have := hob _ e.symm; omega) (fun e => by have := hob _ e.symm; omega)⟩, HCO2, HO4, ⟨HB2.out.grown HG4.out HB2.out.size (fun k hk => by have := hob k hk; omega)⟩, ⟨blk_grown BK52.out HG4.out (fun e => by have := hob _ e.symm; omega)⟩, ⟨Nat.le_trans HS2.out HB4.out.size⟩⟩

end Go.Proofs.Ytclbjddcenkidaa.PS
namespace Go.Proofs.Ytclbjddcenkidaa.PS
open Go.RowKit Go.Proofs.YtclbjddcenkidaaW.PrintWords Go.Proofs.YtclbjddcenkidaaW.PrintLast Go.Proofs.YtclbjddcenkidaaW.PrintMore
attribute [local go_sem] max2_int min2_int max_two min_two max_three min_three max_four min_four
theorem C_of_cells {α : Type} {d : Kd α} {w : World} {g t : Nat} {cells : Array Value} {xs : List α} (hg : w.heap[g]? = some (.cells cells t (0, 0))) (hn : xs.length ≤ 9223372036854775807)
    (h : ∀ j x, xs[j]? = some x → ∃ c, c.length = d.sz ∧ d.K w x c ∧ ∀ i u, c[i]? = some u → cells[j * d.sz + i]? = some u) : d.C w (some ⟨g, 0, none⟩) xs.length xs := by
  refine ⟨rfl, hn, fun _ => ⟨_, rfl, fun j x hj => ?_⟩⟩
  obtain ⟨c, h1, h2, h3⟩ := h j x hj
  refine ⟨c, h1, h2, fun i u hi => ?_⟩
  rw [add_plain, blk_cell hg]
  exact h3 i u hi
theorem cell_of_heap {w w' : World} {g : Nat} (h : w'.heap[g]? = w.heap[g]?) (j : Nat) : w'.cell? ⟨g, j, none⟩ = w.cell? ⟨g, j, none⟩ := by simp only [World.cell?, h]
theorem C_sets {w : World} {g n : Nat} {xs : List Int} (h : (Kd.int .u8).C w (some ⟨g + 1, 0, none⟩) n xs) (j : Nat) (u : Value) : (Kd.int .u8).C (w.setCell ⟨g, j, none⟩ u) (some ⟨g + 1, 0, none⟩) n xs := by
  refine ⟨h.1, h.2.1, fun hn => ?_⟩
  obtain ⟨ad, e, hc⟩ := h.2.2 hn
  cases e
  refine ⟨_, rfl, fun k x hk => ?_⟩
  obtain ⟨c, h1, h2, h3⟩ := hc k x hk
  refine ⟨c, h1, h2, fun i v hi => ?_⟩
  have := h3 i v hi
  rw [add_plain] at this ⊢
  rw [← this]
  exact cell_of_heap (Below.heap_setCell w ⟨g, j, none⟩ u (g + 1) (by show g + 1 ≠ g; omega)) _
theorem k54_mkn {w : World} {m : Int} {l : List Int} {A : Option Addr} {n c : Nat} (hn : n = l.length) (h1 : n ≤ c) (h2 : (Kd.int .u8).C w A n l) : k54.K w ⟨m, l⟩ [.int .i64 m, .slice A n c] := by
  subst hn
  exact k54_mk w ⟨m, l⟩ h1 h2
def msgS (s : ByteArray) (i t p : Int) : S42 := ⟨[⟨4, bytesOf s⟩], ⟨i, t, p⟩⟩
set_option maxHeartbeats 8000000 in
set_option maxRecDepth 100000 in
theorem message_calls (s : ByteArray) (i t p : Int) (w : World) (hs : s.size ≤ 1000) :
    Calls Try.prog 20 #[.string s, .int .i64 i, .int .i64 t, .int .i64 p] w fun e w' => ∃ A, e = .returned (.agg #[.slice A 1 1, .int .i64 i, .int .i64 t, .int .i64 p]) ∧ k54.C w' A 1 (msgS s i t p).f0 ∧ Below w.heap.size w w' := by
  have HW0 : (w.alloc (.cells #[.slice none 0 0, .int .i64 0, .int .i64 0, .int .i64 0] 42)).heap.size = w.heap.size + 1 := by simp
  have kb := print_bytes (P := Try.prog) 9 22 5 Try.underlying9 Try.underlying22 Try.underlying5 s (w.alloc (.cells #[.slice none 0 0, .int .i64 0, .int .i64 0, .int .i64 0] 42))
  obtain ⟨W1, hW1⟩ : ∃ W1, W1 = Lib.bytesWorld (w.alloc (.cells #[.slice none 0 0, .int .i64 0, .int .i64 0, .int .i64 0] 42)) 5 s := ⟨_, rfl⟩
  have HB1 := Aside0.mk (by rw [hW1]; exact bytes_below (below_alloc (Below.refl _ _) _) (by simp) 5 s : Below w.heap.size w W1)
  have BK := Aside0.mk (by rw [hW1]; exact blk_below (blk_new w _) (bytes_below (Below.refl _ _) (Nat.le_refl _) 5 s) : W1.heap[w.heap.size]? = some (.cells #[.slice none 0 0, .int .i64 0, .int .i64 0, .int .i64 0] 42 (0, 0)))
  have hrd := bytes_reads (w.alloc (.cells #[.slice none 0 0, .int .i64 0, .int .i64 0, .int .i64 0] 42)) 5 s (by omega)
  have hge := grownCap_ge (w.alloc (.cells #[.slice none 0 0, .int .i64 0, .int .i64 0, .int .i64 0] 42)) s.size 0 5
  rw [← hW1, HW0] at hrd kb
  generalize grownCap (w.alloc (.cells #[.slice none 0 0, .int .i64 0, .int .i64 0, .int .i64 0] 42)) s.size 0 5 = c1 at kb hge
  have HC := Aside0.mk (Kd.C_of_reads (enc := Value.int .u8) (d := (0 : Int)) (h1 := fun _ => rfl) (readsInt_of.1 hrd) : (Kd.int .u8).C W1 (some ⟨w.heap.size + 1, 0, none⟩) s.size (bytesOf s))
  have HGE := Aside0.mk hge
  clear hW1 hrd HW0 hge
  have BK2 := Aside0.mk (blk_alloc BK.out (.cells #[.int .i64 4, .slice (some ⟨w.heap.size + 1, 0, none⟩) s.size c1] 54))
  have BN := Aside0.mk (blk_new W1 (.cells #[.int .i64 4, .slice (some ⟨w.heap.size + 1, 0, none⟩) s.size c1] 54))
  have z0 := (blk_cell BK2.out 0).trans rfl
  have z1 := (blk_cell BK2.out 1).trans rfl
  have z2 := (blk_cell BK2.out 2).trans rfl
  have z3 := (blk_cell BK2.out 3).trans rfl
  have q0 := blk_frozen BK2.out 0
  have q1 := blk_frozen BK2.out 1
  have q2 := blk_frozen BK2.out 2
  have q3 := blk_frozen BK2.out 3
  go_enter Try.func20, Try.ntmps20
  go_wp2
  (try simp only [Exit.inBlock, Exit.then])
  refine bodyPost_ret (results_cell_row (p := 8) (ty := 42) rfl _ _ w.heap.size 42 #[.slice (some ⟨W1.heap.size, 0, none⟩) 1 1, .int .i64 i, .int .i64 t, .int .i64 p] (0, 0) _ rfl (blk_put (blk_put (blk_put (blk_put BK2.out 0 _ rfl) 1 _ rfl) 2 _ rfl) 3 _ rfl) Try.underlying42 rfl (by kernel_rfl)) rfl ?_
  have hlt : w.heap.size < W1.heap.size := blk_lt BK.out
  refine ⟨_, rfl, ?_, below_set (below_set (below_set (below_set (below_alloc HB1.out _) (Nat.le_refl _)) (Nat.le_refl _)) (Nat.le_refl _)) (Nat.le_refl _)⟩
  refine C_of_cells (xs := [(⟨4, bytesOf s⟩ : S54)]) (blk_far (blk_far (blk_far (blk_far BN.out (by show W1.heap.size ≠ w.heap.size; omega) _) (by show W1.heap.size ≠ w.heap.size; omega) _) (by show W1.heap.size ≠ w.heap.size; omega) _) (by show W1.heap.size ≠ w.heap.size; omega) _) (by simp) ?_
  intro j x hj
  match j, hj with
  | 0, hj =>
    cases hj
    refine ⟨[.int .i64 4, .slice (some ⟨w.heap.size + 1, 0, none⟩) s.size c1], rfl, ?_, fun i u hi => ?_⟩
    · exact k54_mkn (bytesOf_length s).symm HGE.out (C_sets (C_sets (C_sets (C_sets (Kd.C_alloc HC.out _) _ _) _ _) _ _) _ _)
    · match i, hi with
      | 0, hi => exact hi
      | 1, hi => exact hi
  | j + 1, hj => simp at hj

end Go.Proofs.Ytclbjddcenkidaa.PS
namespace Go.Proofs.Ytclbjddcenkidaa.PS
open Go.RowKit Go.Proofs.YtclbjddcenkidaaW.PrintWords Go.Proofs.YtclbjddcenkidaaW.PrintLast Go.Proofs.YtclbjddcenkidaaW.PrintMore
attribute [local go_sem] max2_int min2_int max_two min_two max_three min_three max_four min_four
def sB (l : List UInt8) : ByteArray := ⟨l.toArray⟩
def lA : List S42 := [msgS (sB [65, 66]) 0 2 1, msgS (sB [65, 67]) 0 2 1]
def lB : List S42 := [msgS (sB [67]) 2 3 64, msgS (sB [65]) 0 3 64]
def lD : List S42 := [msgS (sB [67]) 2 3 64, msgS (sB [65]) 0 3 64, msgS (sB [66]) 1 3 64]
instance : DecidablePred smallM := fun m => by unfold smallM; infer_instance
theorem keys_eq {es : List (Int × ByteArray)} {ks : List Int} (hp : ks.Perm (es.map (·.1))) (hs : ks.Pairwise (fun a b => leI a b = true)) : keysS es = ks := by
  have tr : ∀ a b c : Int, leI a b = true → leI b c = true → leI a c = true := fun a b c h1 h2 => by simp only [leI, decide_eq_true_eq] at *; omega
  have tot : ∀ a b : Int, (leI a b || leI b a) = true := fun a b => by simp only [leI, Bool.or_eq_true, decide_eq_true_eq]; omega
  refine List.Perm.eq_of_pairwise (le := fun a b => leI a b = true) (fun a b _ _ h1 h2 => ?_) (List.pairwise_mergeSort tr tot _) hs ((List.mergeSort_perm _ leI).trans hp.symm)
  simp only [leI, decide_eq_true_eq] at h1 h2
  omega
theorem joinA : joinP lA = ([], 34) := by decide +kernel
theorem joinB : joinP lB = ([], 33) := by decide +kernel
theorem missB : missS lB = ([1], 0) := by decide +kernel
theorem colB : colS lB = (0, [(2, sB [67]), (0, sB [65])]) := by decide +kernel
theorem colD : colS lD = (0, [(2, sB [67]), (0, sB [65]), (1, sB [66])]) := by decide +kernel
theorem outD' : outS [(2, sB [67]), (0, sB [65]), (1, sB [66])] = [65, 66, 67] := by
  unfold outS
  rw [keys_eq (ks := [0, 1, 2]) (by decide) (by decide)]
  decide +kernel
theorem joinD : joinP lD = ([65, 66, 67], 0) := by
  unfold joinP
  rw [colD]
  simp only [if_true]
  unfold joinR
  rw [outD']
  decide +kernel
theorem outA : (outS (colS lA).2).length < 70368744177664 := by decide +kernel
theorem outB : (outS (colS lB).2).length < 70368744177664 := by
  rw [colB]
  unfold outS
  rw [keys_eq (ks := [0, 2]) (by decide) (by decide)]
  decide +kernel
theorem outD : (outS (colS lD).2).length < 70368744177664 := by rw [colD, outD']; decide
theorem smallA : ∀ m ∈ lA, smallM m := by decide +kernel
theorem smallB : ∀ m ∈ lB, smallM m := by decide +kernel
theorem smallD : ∀ m ∈ lD, smallM m := by decide +kernel

end Go.Proofs.Ytclbjddcenkidaa.PS
namespace Go.Proofs.Ytclbjddcenkidaa.PS
open Go.RowKit Go.Proofs.YtclbjddcenkidaaW.PrintWords Go.Proofs.YtclbjddcenkidaaW.PrintLast Go.Proofs.YtclbjddcenkidaaW.PrintMore
attribute [local go_sem] max2_int min2_int max_two min_two max_three min_three max_four min_four   -- for this text's walks alone

def barscanlaw23_same.l0 : Nat → List Int → List Int → Int → Option (Bool)
 | 0, _, _, _ => none
 | k + 1, x0, x1, x5 => if x5 < (x0.length : Int) then (if 0 ≤ x5 then (if x5 < (x1.length : Int) then (if (rd x0 x5) = (rd x1 x5) then (barscanlaw23_same.l0 k x0 x1 (wrap64 (x5 + 1))) else (some false)) else (none)) else (none)) else (some true)
def barscanlaw23_same.f (k : Nat) (l0 : List Int) (l1 : List Int) : Option (Bool) := if (l0.length : Int) = (l1.length : Int) then (barscanlaw23_same.l0 k l0 l1 0) else (some false)
theorem barscanlaw23_same.mono_l : ∀ k, (∀ y0 y1 y2, LeO (barscanlaw23_same.l0 k y0 y1 y2) (barscanlaw23_same.l0 (k + 1) y0 y1 y2))
 | 0 => fun _ _ _ r h => by simp [barscanlaw23_same.l0] at h
 | k + 1 => by
  have ih0 := barscanlaw23_same.mono_l k
  ·intro y0 y1 y2
   unfold barscanlaw23_same.l0
   repeat' first
   | (with_reducible exact ih0 _ _ _)
   | (with_reducible exact LeO.refl _)
   | (with_reducible exact LeO.none _)
   | (with_reducible refine LeO.ite ?_ ?_)
   | (with_reducible refine LeO.bind ?_ (fun _ => ?_))
   | exact ih0 _ _ _
   | exact LeO.none _
   | refine LeO.ite ?_ ?_
   | refine LeO.bind ?_ (fun _ => ?_)
theorem barscanlaw23_same.mono : ∀ a0 a1 k, LeO (barscanlaw23_same.f k a0 a1) (barscanlaw23_same.f (k + 1) a0 a1) := by
 intro a0 a1 k
 have ih0 := barscanlaw23_same.mono_l k
 unfold barscanlaw23_same.f
 repeat' first
   | (with_reducible exact ih0 _ _ _)
   | (with_reducible exact LeO.refl _)
   | (with_reducible exact LeO.none _)
   | (with_reducible refine LeO.ite ?_ ?_)
   | (with_reducible refine LeO.bind ?_ (fun _ => ?_))
   | exact ih0 _ _ _
   | exact LeO.none _
   | refine LeO.ite ?_ ?_
   | refine LeO.bind ?_ (fun _ => ?_)
set_option maxHeartbeats 8000000 in
set_option maxRecDepth 100000 in
theorem barscanlaw23_same.calls (k : Nat) (A0 : Option Addr) (c0 : Nat) (l0 : List Int) (A1 : Option Addr) (c1 : Nat) (l1 : List Int) (r : Bool) (w : World) (hr0 : Kd.C (Kd.int .i64) w A0 l0.length l0) (hc0 : l0.length ≤ c0) (hr1 : Kd.C (Kd.int .i64) w A1 l1.length l1) (hc1 : l1.length ≤ c1) (h : barscanlaw23_same.f k l0 l1 = some r) :
  Calls Try.prog 13 #[.slice A0 l0.length c0, .slice A1 l1.length c1] w fun e w' => e = .returned (.bool r) ∧ Drawn0 w w' := by
 have HR0 := Aside0.mk hr0
 have HC0 := Aside0.mk hc0
 clear hr0 hc0
 have HR1 := Aside0.mk hr1
 have HC1 := Aside0.mk hc1
 clear hr1 hc1
 have H : (if (l0.length : Int) = (l1.length : Int) then (barscanlaw23_same.l0 k l0 l1 0) else (some false)) = some r := h
 clear h
 by_cases c3 : (l0.length : Int) = (l1.length : Int)
 ·rw [if_pos c3] at H
  have c3b0 : ((l0.length : Int) == (l1.length : Int)) = true := beq_iff_eq.mpr c3
  have c3b1 : ((l0.length : Int) != (l1.length : Int)) = false := bne_eq_false_iff_eq.mpr c3
  have c3b2 : (l0.length == l1.length) = true := by first | simpa using c3 | (simp at c3 ⊢; omega)
  clear c3
  have H' := Aside0.mk H
  clear H
  go_enter Try.func13, Try.ntmps13
  go_wp2
  repeat (go_quiet (fail); try go_wp2)
  go_loopg [5] k (fun kq v5 w' => ∃ (x5_1 : Int), v5 = .int .i64 x5_1 ∧ Aside0 (barscanlaw23_same.l0 kq l0 l1 x5_1 = some r) ∧ Aside0 (kq ≤ k) ∧ Drawn0 w w')
  case atStart => exact ⟨(0), (by first | rfl | (simp; done) | (simp [*]; done)), H', ⟨Nat.le_refl _⟩, by repeat (first | exact Drawn0.refl _ | apply Drawn0.step)⟩
  case round =>
   clear H'
   try clear c1
   try clear p2
   try clear c3
   try clear c3b0
   try clear c3b1
   try clear c3b2
   obtain ⟨x5_1, rfl, HA, HK1, ⟨m1, rfl⟩⟩ := hrel
   cases gk with
   | zero => exact absurd HA.out (by simp [barscanlaw23_same.l0])
   | succ k1 =>
    have H := HA.out
    clear HA
    simp only [barscanlaw23_same.l0] at H
    by_cases c4 : x5_1 < (l0.length : Int)
    ·rw [if_pos c4] at H
     have c4b0 : decide (x5_1 < (l0.length : Int)) = true := decide_eq_true c4
     clear c4
     by_cases c5 : 0 ≤ x5_1
     ·rw [if_pos c5] at H
      have c5b0 : decide (0 ≤ x5_1) = true := decide_eq_true c5
      clear c5
      by_cases c6 : x5_1 < (l1.length : Int)
      ·rw [if_pos c6] at H
       have c6b0 : decide (x5_1 < (l1.length : Int)) = true := decide_eq_true c6
       clear c6
       by_cases c7 : (rd l0 x5_1) = (rd l1 x5_1)
       ·rw [if_pos c7] at H
        have c7b0 : ((rd l0 x5_1) == (rd l1 x5_1)) = true := beq_iff_eq.mpr c7
        have c7b1 : ((rd l0 x5_1) != (rd l1 x5_1)) = false := bne_eq_false_iff_eq.mpr c7
        clear c7
        have H' := Aside0.mk H
        clear H
        have p173 : 0 ≤ (x5_1 : Int) := of_decide_eq_true (by first | (with_reducible assumption) | assumption)
        have q173 : x5_1 < (l0.length : Int) := of_decide_eq_true (by first | (with_reducible assumption) | assumption)
        obtain ⟨ad173, e173, hx173_0⟩ := Kd.at_int HR0.out x5_1 p173 q173
        cases e173
        replace p173 := eq_true p173
        replace q173 := eq_true q173
        have p174 : 0 ≤ (x5_1 : Int) := of_decide_eq_true (by first | (with_reducible assumption) | assumption)
        have q174 : x5_1 < (l1.length : Int) := of_decide_eq_true (by first | (with_reducible assumption) | assumption)
        obtain ⟨ad174, e174, hx174_0⟩ := Kd.at_int HR1.out x5_1 p174 q174
        cases e174
        replace p174 := eq_true p174
        replace q174 := eq_true q174
        go_wp2
        repeat (go_quiet (fail); try go_wp2)
        go_roundg k1
        case measure => have := HK1.out; omega
        case rel => exact ⟨(wrap64 (x5_1 + 1)), (by first | rfl | (simp; done) | (simp [*]; done)), H', ⟨by have := HK1.out; omega⟩, by repeat (first | exact Drawn0.refl _ | apply Drawn0.step)⟩
       ·rw [if_neg c7] at H
        have c7b0 : ((rd l0 x5_1) == (rd l1 x5_1)) = false := beq_eq_false_iff_ne.mpr c7
        have c7b1 : ((rd l0 x5_1) != (rd l1 x5_1)) = true := bne_iff_ne.mpr c7
        obtain rfl := Option.some.inj H
        have p173 : 0 ≤ (x5_1 : Int) := of_decide_eq_true (by first | (with_reducible assumption) | assumption)
        have q173 : x5_1 < (l0.length : Int) := of_decide_eq_true (by first | (with_reducible assumption) | assumption)
        obtain ⟨ad173, e173, hx173_0⟩ := Kd.at_int HR0.out x5_1 p173 q173
        cases e173
        replace p173 := eq_true p173
        replace q173 := eq_true q173
        have p174 : 0 ≤ (x5_1 : Int) := of_decide_eq_true (by first | (with_reducible assumption) | assumption)
        have q174 : x5_1 < (l1.length : Int) := of_decide_eq_true (by first | (with_reducible assumption) | assumption)
        obtain ⟨ad174, e174, hx174_0⟩ := Kd.at_int HR1.out x5_1 p174 q174
        cases e174
        replace p174 := eq_true p174
        replace q174 := eq_true q174
        go_wp2
        repeat (go_quiet (fail); try go_wp2)
        go_ret
        exact ⟨by first | rfl | (simp; done) | (simp [*]; done), by repeat (first | exact Drawn0.refl _ | apply Drawn0.step)⟩
      ·rw [if_neg c6] at H
       exact absurd H (by simp)
     ·rw [if_neg c5] at H
      exact absurd H (by simp)
    ·rw [if_neg c4] at H
     have c4b0 : decide (x5_1 < (l0.length : Int)) = false := decide_eq_false c4
     clear c4
     obtain rfl := Option.some.inj H
     go_wp2
     repeat (go_quiet (fail); try go_wp2)
     go_ret
     exact ⟨by first | rfl | (simp; done) | (simp [*]; done), by repeat (first | exact Drawn0.refl _ | apply Drawn0.step)⟩
 ·rw [if_neg c3] at H
  have c3b0 : ((l0.length : Int) == (l1.length : Int)) = false := beq_eq_false_iff_ne.mpr c3
  have c3b1 : ((l0.length : Int) != (l1.length : Int)) = true := bne_iff_ne.mpr c3
  have c3b2 : (l0.length == l1.length) = false := by first | simpa using c3 | (simp at c3 ⊢; omega)
  obtain rfl := Option.some.inj H
  go_enter Try.func13, Try.ntmps13
  go_wp2
  repeat (go_quiet (fail); try go_wp2)
  go_ret
  exact ⟨by first | rfl | (simp; done) | (simp [*]; done), by repeat (first | exact Drawn0.refl _ | apply Drawn0.step)⟩

end Go.Proofs.Ytclbjddcenkidaa.PS
namespace Go.Proofs.Ytclbjddcenkidaa.PS
open Go.RowKit Go.Proofs.YtclbjddcenkidaaW.PrintWords Go.Proofs.YtclbjddcenkidaaW.PrintLast Go.Proofs.YtclbjddcenkidaaW.PrintMore
attribute [local go_sem] max2_int min2_int max_two min_two max_three min_three max_four min_four
def digB : ByteArray := ⟨#[48, 49, 50, 51, 52, 53, 54, 55, 56, 57, 48, 49, 50, 51, 52, 53, 54, 55, 56, 57, 48, 49, 50, 51, 52, 53, 54, 55, 56, 57, 48, 49, 50, 51, 52, 53, 54, 55, 56, 57, 48, 49, 50, 51, 52, 53, 54, 55, 56, 57]⟩
theorem dig_bytes : bytesOf (digB ++ digB) = digits50 ++ digits50 := by decide +kernel
theorem cuts_f : split_Cuts.f (bytesOf (digB ++ digB)) 1 1 = some ([35, 35, 30], 0) := by
  unfold split_Cuts.f
  rw [dig_bytes, if_pos (by decide +kernel), if_neg (by omega), if_neg (by omega)]
  exact congrArg some cuts_ex
theorem C_bytes3 (w : World) (l : List Int) (hl : l.length ≤ 100) : (Kd.int .u8).C (w.alloc (.cells (l.map (Value.int .u8)).toArray 5)) (some ⟨w.heap.size, 0, none⟩) l.length l := by
  refine C_of_cells (blk_new w _) (by omega) (fun j x hj => ⟨[.int .u8 x], rfl, rfl, fun i u hi => ?_⟩)
  match i, hi with
  | 0, hi => cases hi; show _ = _; rw [show j * (Kd.int .u8).sz + 0 = j from Nat.mul_one j]; simp [hj]
theorem C_ints (w : World) (l : List Int) (hl : l.length ≤ 100) : (Kd.int .i64).C (w.alloc (.cells (l.map (Value.int .i64)).toArray 3)) (some ⟨w.heap.size, 0, none⟩) l.length l := by
  refine C_of_cells (blk_new w _) (by omega) (fun j x hj => ⟨[.int .i64 x], rfl, rfl, fun i u hi => ?_⟩)
  match i, hi with
  | 0, hi => cases hi; show _ = _; rw [show j * (Kd.int .i64).sz + 0 = j from Nat.mul_one j]; simp [hj]
theorem k42_msg {w : World} {s : ByteArray} {i t p : Int} {A : Option Addr} (h : k54.C w A 1 (msgS s i t p).f0) : k42.K w (msgS s i t p) [.slice A 1 1, .int .i64 i, .int .i64 t, .int .i64 p] := k42_mk w (msgS s i t p) (c0 := 1) (Nat.le_refl _) h
theorem C_msgs2 (w : World) {s1 s2 : ByteArray} {i1 t1 p1 i2 t2 p2 : Int} {A B : Option Addr} (h1 : k54.C w A 1 (msgS s1 i1 t1 p1).f0) (h2 : k54.C w B 1 (msgS s2 i2 t2 p2).f0) :
    k42.C (w.alloc (.cells #[.slice A 1 1, .int .i64 i1, .int .i64 t1, .int .i64 p1, .slice B 1 1, .int .i64 i2, .int .i64 t2, .int .i64 p2] 42)) (some ⟨w.heap.size, 0, none⟩) 2 [msgS s1 i1 t1 p1, msgS s2 i2 t2 p2] := by
  refine C_of_cells (xs := [msgS s1 i1 t1 p1, msgS s2 i2 t2 p2]) (blk_new w _) (by simp) ?_
  intro j x hj
  match j, hj with
  | 0, hj => cases hj; exact ⟨_, rfl, k42_msg (Kd.C_alloc h1 _), fun i u hi => by match i, hi with | 0, hi => exact hi | 1, hi => exact hi | 2, hi => exact hi | 3, hi => exact hi⟩
  | 1, hj => cases hj; exact ⟨_, rfl, k42_msg (Kd.C_alloc h2 _), fun i u hi => by match i, hi with | 0, hi => exact hi | 1, hi => exact hi | 2, hi => exact hi | 3, hi => exact hi⟩
  | j + 2, hj => simp at hj
theorem C_msgs3 (w : World) {s1 s2 s3 : ByteArray} {i1 t1 p1 i2 t2 p2 i3 t3 p3 : Int} {A B C : Option Addr} (h1 : k54.C w A 1 (msgS s1 i1 t1 p1).f0) (h2 : k54.C w B 1 (msgS s2 i2 t2 p2).f0) (h3 : k54.C w C 1 (msgS s3 i3 t3 p3).f0) :
    k42.C (w.alloc (.cells #[.slice A 1 1, .int .i64 i1, .int .i64 t1, .int .i64 p1, .slice B 1 1, .int .i64 i2, .int .i64 t2, .int .i64 p2, .slice C 1 1, .int .i64 i3, .int .i64 t3, .int .i64 p3] 42)) (some ⟨w.heap.size, 0, none⟩) 3 [msgS s1 i1 t1 p1, msgS s2 i2 t2 p2, msgS s3 i3 t3 p3] := by
  refine C_of_cells (xs := [msgS s1 i1 t1 p1, msgS s2 i2 t2 p2, msgS s3 i3 t3 p3]) (blk_new w _) (by simp) ?_
  intro j x hj
  match j, hj with
  | 0, hj => cases hj; exact ⟨_, rfl, k42_msg (Kd.C_alloc h1 _), fun i u hi => by match i, hi with | 0, hi => exact hi | 1, hi => exact hi | 2, hi => exact hi | 3, hi => exact hi⟩
  | 1, hj => cases hj; exact ⟨_, rfl, k42_msg (Kd.C_alloc h2 _), fun i u hi => by match i, hi with | 0, hi => exact hi | 1, hi => exact hi | 2, hi => exact hi | 3, hi => exact hi⟩
  | 2, hj => cases hj; exact ⟨_, rfl, k42_msg (Kd.C_alloc h3 _), fun i u hi => by match i, hi with | 0, hi => exact hi | 1, hi => exact hi | 2, hi => exact hi | 3, hi => exact hi⟩
  | j + 3, hj => simp at hj
set_option maxHeartbeats 8000000 in
set_option maxRecDepth 100000 in
theorem exampleHolds_calls (w : World) : Calls Try.prog 10 #[] w fun e w' => e = .returned (.bool true) ∧ Below w.heap.size w w' := by
  obtain ⟨dg, hdg⟩ : ∃ dg, dg = digB := ⟨_, rfl⟩
  obtain ⟨ls, hls⟩ : ∃ ls, ls = bytesOf (dg ++ dg) := ⟨_, rfl⟩
  have hsz : (dg ++ dg).size = ls.length := by rw [hls, bytesOf_length]
  have hcf : split_Cuts.f ls 1 1 = some ([35, 35, 30], 0) := by rw [hls, hdg]; exact cuts_f
  obtain ⟨W1, hW1⟩ : ∃ W1, W1 = Lib.bytesWorld w 5 (dg ++ dg) := ⟨_, rfl⟩
  have hsmall : (dg ++ dg).size ≤ 9223372036854775807 := by rw [hdg]; decide +kernel
  have hq : (9223372036854775807 < dg.size + dg.size) = False := eq_false (by rw [hdg]; decide)
  have hrd := bytes_reads w 5 (dg ++ dg) hsmall
  have kb := print_bytes (P := Try.prog) 9 22 5 Try.underlying9 Try.underlying22 Try.underlying5 (dg ++ dg) w
  have hge := grownCap_ge w (dg ++ dg).size 0 5
  generalize grownCap w (dg ++ dg).size 0 5 = c1 at kb hge
  have HB1 := Aside0.mk (by rw [hW1]; exact bytes_below (Below.refl _ _) (Nat.le_refl _) 5 _ : Below w.heap.size w W1)
  rw [← hW1] at kb hrd
  rw [← hls] at hrd
  rw [hsz] at kb hrd hge
  have HC := Aside0.mk (Kd.C_of_reads (enc := Value.int .u8) (d := (0 : Int)) (h1 := fun _ => rfl) (readsInt_of.1 hrd) : (Kd.int .u8).C W1 (some ⟨w.heap.size, 0, none⟩) ls.length ls)
  have HGE := Aside0.mk hge
  have HCF := Aside0.mk hcf
  clear hrd hge hcf hsmall hW1 hls hsz
  go_enter Try.func10, Try.ntmps10
  rw [show (⟨#[48, 49, 50, 51, 52, 53, 54, 55, 56, 57, 48, 49, 50, 51, 52, 53, 54, 55, 56, 57, 48, 49, 50, 51, 52, 53, 54, 55, 56, 57, 48, 49, 50, 51, 52, 53, 54, 55, 56, 57, 48, 49, 50, 51, 52, 53, 54, 55, 56, 57]⟩ : ByteArray) = dg from hdg.symm]
  clear hdg
  go_wp2_with (fail)
  refine (Cuts_calls _ c1 ls 1 1 _ _ W1 HC.out HGE.out HCF.out).mono ?_
  rintro e w2 ⟨v2, rfl, ho2, hb2⟩
  obtain ⟨A2, c2, rfl, hl2, hc2⟩ := Kd.R_reads ho2
  have HC2 := Aside0.mk hc2
  have HL2 := Aside0.mk hl2
  have HB2 := Aside0.mk (below_then HB1.out HB1.out.size hb2)
  clear ho2 hb2 hc2 hl2
  go_wp2_with (fail)
  refine (message_calls (sB [65, 66]) 0 2 1 _ (by decide)).mono ?_
  rintro e w3 ⟨A3, rfl, hc3, hb3⟩
  have HB3 := Aside0.mk (below_then HB2.out HB2.out.size hb3)
  have HC2 := Aside0.mk (Kd.C_below HC2.out hb3)
  have HC3 := Aside0.mk hc3
  clear hb3 hc3 HB2
  go_wp2_with (fail)
  refine (message_calls (sB [65, 67]) 0 2 1 _ (by decide)).mono ?_
  rintro e w4 ⟨A4, rfl, hc4, hb4⟩
  have HB4 := Aside0.mk (below_then HB3.out HB3.out.size hb4)
  have HC2 := Aside0.mk (Kd.C_below HC2.out hb4)
  have HCa := Aside0.mk (C_msgs2 w4 (Kd.C_below HC3.out hb4) hc4 : k42.C _ _ 2 lA)
  clear hb4 hc4 HB3 HC3
  go_wp2_with (fail)
  refine (Join_calls _ 2 lA _ HCa.out (by decide) smallA (by decide) outA).mono ?_
  rw [joinA]
  rintro e w5 ⟨v5, rfl, _, hb5⟩
  have HB5 := Aside0.mk (below_then (below_alloc HB4.out _) (below_alloc HB4.out _).size hb5)
  have HC2 := Aside0.mk (Kd.C_below (Kd.C_alloc HC2.out _) hb5)
  clear hb5 HB4 HCa
  go_wp2_with (fail)
  refine (message_calls (sB [67]) 2 3 64 _ (by decide)).mono ?_
  rintro e w6 ⟨A6, rfl, hc6, hb6⟩
  have HB6 := Aside0.mk (below_then HB5.out HB5.out.size hb6)
  have HC2 := Aside0.mk (Kd.C_below HC2.out hb6)
  have HC6 := Aside0.mk hc6
  clear hb6 hc6 HB5
  go_wp2_with (fail)
  refine (message_calls (sB [65]) 0 3 64 _ (by decide)).mono ?_
  rintro e w7 ⟨A7, rfl, hc7, hb7⟩
  have HB7 := Aside0.mk (below_then HB6.out HB6.out.size hb7)
  have HC2 := Aside0.mk (Kd.C_below HC2.out hb7)
  have HCb := Aside0.mk (C_msgs2 w7 (Kd.C_below HC6.out hb7) hc7 : k42.C _ _ 2 lB)
  clear hb7 hc7 HB6 HC6
  go_wp2_with (fail)
  refine (Join_calls _ 2 lB _ HCb.out (by decide) smallB (by decide) outB).mono ?_
  rw [joinB]
  rintro e w8 ⟨v8, rfl, _, hb8⟩
  have HB8 := Aside0.mk (below_then (below_alloc HB7.out _) (below_alloc HB7.out _).size hb8)
  have HC2 := Aside0.mk (Kd.C_below (Kd.C_alloc HC2.out _) hb8)
  have HCb := Aside0.mk (Kd.C_below HCb.out hb8)
  clear hb8 HB7
  go_wp2_with (fail)
  refine (Missing_calls _ 2 lB _ HCb.out (by decide) smallB (by decide)).mono ?_
  rw [missB]
  rintro e w9 ⟨v9, rfl, ho9, hb9⟩
  obtain ⟨A9, c9, rfl, hl9, hc9⟩ := Kd.R_reads ho9
  have HB9 := Aside0.mk (below_then HB8.out HB8.out.size hb9)
  have HC2 := Aside0.mk (Kd.C_below HC2.out hb9)
  have HC9 := Aside0.mk hc9
  have HL9 := Aside0.mk hl9
  clear hb9 ho9 hc9 hl9 HB8 HCb
  go_wp2_with (fail)
  refine (message_calls (sB [67]) 2 3 64 _ (by decide)).mono ?_
  rintro e w10 ⟨A10, rfl, hc10, hb10⟩
  have HB10 := Aside0.mk (below_then HB9.out HB9.out.size hb10)
  have HC2 := Aside0.mk (Kd.C_below HC2.out hb10)
  have HC9 := Aside0.mk (Kd.C_below HC9.out hb10)
  have HC10 := Aside0.mk hc10
  clear hb10 hc10 HB9
  go_wp2_with (fail)
  refine (message_calls (sB [65]) 0 3 64 _ (by decide)).mono ?_
  rintro e w11 ⟨A11, rfl, hc11, hb11⟩
  have HB11 := Aside0.mk (below_then HB10.out HB10.out.size hb11)
  have HC2 := Aside0.mk (Kd.C_below HC2.out hb11)
  have HC9 := Aside0.mk (Kd.C_below HC9.out hb11)
  have HC10 := Aside0.mk (Kd.C_below HC10.out hb11)
  have HC11 := Aside0.mk hc11
  clear hb11 hc11 HB10
  go_wp2_with (fail)
  refine (message_calls (sB [66]) 1 3 64 _ (by decide)).mono ?_
  rintro e w12 ⟨A12, rfl, hc12, hb12⟩
  have HB12 := Aside0.mk (below_then HB11.out HB11.out.size hb12)
  have HC2 := Aside0.mk (Kd.C_below HC2.out hb12)
  have HC9 := Aside0.mk (Kd.C_below HC9.out hb12)
  have HCd := Aside0.mk (C_msgs3 w12 (Kd.C_below HC10.out hb12) (Kd.C_below HC11.out hb12) hc12 : k42.C _ _ 3 lD)
  clear hb12 hc12 HB11 HC10 HC11
  go_wp2_with (fail)
  refine (Join_calls _ 3 lD _ HCd.out (by decide) smallD (by decide) outD).mono ?_
  rw [joinD]
  rintro e w13 ⟨v13, rfl, ho13, hb13⟩
  have HB13 := Aside0.mk (below_then (below_alloc HB12.out _) (below_alloc HB12.out _).size hb13)
  have HC2 := Aside0.mk (Kd.C_below (Kd.C_alloc HC2.out _) hb13)
  have HC9 := Aside0.mk (Kd.C_below (Kd.C_alloc HC9.out _) hb13)
  obtain ⟨A13, c13, rfl, hl13, hc13⟩ := Kd.R_reads ho13
  have HC13 := Aside0.mk hc13
  clear hb13 HB12 HCd ho13 kb HC hc13 hl13
  go_wp2_with (fail)
  refine (barscanlaw23_same.calls 5 A2 c2 [35, 35, 30] _ 3 [35, 35, 30] true _ (Kd.C_alloc HC2.out _) HL2.out (C_ints w13 [35, 35, 30] (by decide)) (by decide) (by decide +kernel)).mono ?_
  rintro e w14 ⟨rfl, hd⟩
  have hb14 := hd.below
  have HB14 := Aside0.mk (below_then (below_alloc HB13.out _) (below_alloc HB13.out _).size hb14)
  have HC9 := Aside0.mk (Kd.C_below (Kd.C_alloc HC9.out _) hb14)
  have HC13 := Aside0.mk (Kd.C_below (Kd.C_alloc HC13.out _) hb14)
  clear hd hb14 HB13 HC2
  go_wp2_with (fail)
  refine (barscanlaw23_same.calls 5 A9 c9 [1] _ 1 [1] true _ (Kd.C_alloc HC9.out _) HL9.out (C_ints w14 [1] (by decide)) (by decide) (by decide +kernel)).mono ?_
  rintro e w15 ⟨rfl, hd⟩
  have hb15 := hd.below
  have HB15 := Aside0.mk (below_then (below_alloc HB14.out _) (below_alloc HB14.out _).size hb15)
  have HC13 := Aside0.mk (Kd.C_below (Kd.C_alloc HC13.out _) hb15)
  have hcv : (convert 22 9 (.slice A13 3 c13)).run Try.prog w15 = .ok (.string ⟨#[65, 66, 67]⟩) w15 := by
    have h := Kd.C_string (P := Try.prog) (c := c13) Try.underlying22 Try.underlying5 Try.underlying9 HC13.out
    exact h
  clear hd hb15 HB14 HC9
  go_wp2_with (fail)
  refine (split_Parity.calls 4 _ 3 [1, 2, 4] 7 _ (C_bytes3 w15 [1, 2, 4] (by decide)) (by decide) (by decide +kernel)).mono ?_
  rintro e w16 ⟨rfl, hd⟩
  have HB16 := Aside0.mk (below_then (below_alloc HB15.out _) (below_alloc HB15.out _).size hd.below)
  clear hd
  go_wp2
  go_ret
  exact ⟨rfl, HB16.out⟩

end Go.Proofs.Ytclbjddcenkidaa.PS
namespace Go.Proofs.Ytclbjddcenkidaa.PS
open Go.RowKit Go.Proofs.YtclbjddcenkidaaW.PrintWords Go.Proofs.YtclbjddcenkidaaW.PrintLast Go.Proofs.YtclbjddcenkidaaW.PrintMore
attribute [local go_sem] max2_int min2_int max_two min_two max_three min_three max_four min_four   -- for this text's walks alone

def barscanlaw23_exampleHolds.f : Option Bool := some true
theorem barscanlaw23_exampleHolds.calls (r : Bool) (w : World) (h : barscanlaw23_exampleHolds.f = some r) : Calls Try.prog 10 #[] w fun e w' => e = .returned (.bool r) ∧ Below w.heap.size w w' := by
 obtain rfl := Option.some.inj h
 exact exampleHolds_calls w

end Go.Proofs.Ytclbjddcenkidaa.PS
namespace Go.Proofs.Ytclbjddcenkidaa.PS
open Go.RowKit Go.Proofs.YtclbjddcenkidaaW.PrintWords Go.Proofs.YtclbjddcenkidaaW.PrintLast Go.Proofs.YtclbjddcenkidaaW.PrintMore
attribute [local go_sem] max2_int min2_int max_two min_two max_three min_three max_four min_four   -- for this text's walks alone

def barscanref16_known.f (a0 : Int) : Option (Bool) := if a0 = 1 then (some true) else (if a0 = 2 then (some true) else (some (a0 == 4)))
set_option maxHeartbeats 8000000 in
set_option maxRecDepth 100000 in
theorem barscanref16_known.calls (a0 : Int) (r : Bool) (w : World) (h : barscanref16_known.f a0 = some r) :
  Calls Try.prog 89 #[.int .i64 a0] w fun e w' => e = .returned (.bool r) ∧ Drawn0 w w' := by
 have H : (if a0 = 1 then (some true) else (if a0 = 2 then (some true) else (some (a0 == 4)))) = some r := h
 clear h
 by_cases c2 : a0 = 1
 ·rw [if_pos c2] at H
  have c2b0 : (a0 == 1) = true := beq_iff_eq.mpr c2
  have c2b1 : (a0 != 1) = false := bne_eq_false_iff_eq.mpr c2
  clear c2
  obtain rfl := Option.some.inj H
  go_enter Try.func89, Try.ntmps89
  go_wp2
  go_ret
  exact ⟨by first | rfl | (simp; done) | (simp [*]; done), by repeat (first | exact Drawn0.refl _ | apply Drawn0.step)⟩
 ·rw [if_neg c2] at H
  have c2b0 : (a0 == 1) = false := beq_eq_false_iff_ne.mpr c2
  have c2b1 : (a0 != 1) = true := bne_iff_ne.mpr c2
  by_cases c3 : a0 = 2
  ·rw [if_pos c3] at H
   have c3b0 : (a0 == 2) = true := beq_iff_eq.mpr c3
   have c3b1 : (a0 != 2) = false := bne_eq_false_iff_eq.mpr c3
   clear c3
   obtain rfl := Option.some.inj H
   go_enter Try.func89, Try.ntmps89
   go_wp2
   go_ret
   exact ⟨by first | rfl | (simp; done) | (simp [*]; done), by repeat (first | exact Drawn0.refl _ | apply Drawn0.step)⟩
  ·rw [if_neg c3] at H
   have c3b0 : (a0 == 2) = false := beq_eq_false_iff_ne.mpr c3
   have c3b1 : (a0 != 2) = true := bne_iff_ne.mpr c3
   obtain rfl := Option.some.inj H
   go_enter Try.func89, Try.ntmps89
   go_wp2
   go_ret
   exact ⟨by first | rfl | (simp; done) | (simp [*]; done), by repeat (first | exact Drawn0.refl _ | apply Drawn0.step)⟩

end Go.Proofs.Ytclbjddcenkidaa.PS
namespace Go.Proofs.Ytclbjddcenkidaa.PS
open Go.RowKit Go.Proofs.YtclbjddcenkidaaW.PrintWords Go.Proofs.YtclbjddcenkidaaW.PrintLast Go.Proofs.YtclbjddcenkidaaW.PrintMore
attribute [local go_sem] max2_int min2_int max_two min_two max_three min_three max_four min_four   -- for this text's walks alone

def barscanref16_CountBits.j0 : Nat → Int → Int → Bool → Option (Int × Int)
 | 0, _, _, _ => none
 | k + 1, x0, x1, x16 => if x16 = true then (some (0, 1)) else (if x0 = 1 then (some (wrap64 (10 + (wrap64 (2 * x1))), 0)) else (if x0 = 2 then (some (wrap64 (9 + (wrap64 (2 * x1))), 0)) else (if x1 = 0 then (some (8, 0)) else (some (16, 0)))))
def barscanref16_CountBits.f (k : Nat) (a0 : Int) (a1 : Int) : Option (Int × Int) := (barscanref16_known.f a0).bind fun t185 => (if t185 = true then (if a1 < 0 then (barscanref16_CountBits.j0 k a0 a1 true) else (barscanref16_CountBits.j0 k a0 a1 (decide (a1 > 2)))) else (barscanref16_CountBits.j0 k a0 a1 true))
theorem barscanref16_CountBits.mono_l : ∀ k, (∀ y0 y1 y2, LeO (barscanref16_CountBits.j0 k y0 y1 y2) (barscanref16_CountBits.j0 (k + 1) y0 y1 y2))
 | 0 => fun _ _ _ r h => by simp [barscanref16_CountBits.j0] at h
 | k + 1 => by
  have ih0 := barscanref16_CountBits.mono_l k
  ·intro y0 y1 y2
   unfold barscanref16_CountBits.j0
   repeat' first
   | (with_reducible exact ih0 _ _ _)
   | (with_reducible exact LeO.refl _)
   | (with_reducible exact LeO.none _)
   | (with_reducible refine LeO.ite ?_ ?_)
   | (with_reducible refine LeO.bind ?_ (fun _ => ?_))
   | exact ih0 _ _ _
   | exact LeO.none _
   | refine LeO.ite ?_ ?_
   | refine LeO.bind ?_ (fun _ => ?_)
theorem barscanref16_CountBits.mono : ∀ a0 a1 k, LeO (barscanref16_CountBits.f k a0 a1) (barscanref16_CountBits.f (k + 1) a0 a1) := by
 intro a0 a1 k
 have ih0 := barscanref16_CountBits.mono_l k
 unfold barscanref16_CountBits.f
 repeat' first
   | (with_reducible exact ih0 _ _ _)
   | (with_reducible exact LeO.refl _)
   | (with_reducible exact LeO.none _)
   | (with_reducible refine LeO.ite ?_ ?_)
   | (with_reducible refine LeO.bind ?_ (fun _ => ?_))
   | exact ih0 _ _ _
   | exact LeO.none _
   | refine LeO.ite ?_ ?_
   | refine LeO.bind ?_ (fun _ => ?_)
set_option maxHeartbeats 8000000 in
set_option maxRecDepth 100000 in
theorem barscanref16_CountBits.calls (k : Nat) (a0 : Int) (a1 : Int) (r1 : Int) (r2 : Int) (w : World) (h : barscanref16_CountBits.f k a0 a1 = some (r1, r2)) :
  Calls Try.prog 85 #[.int .i64 a0, .int .i64 a1] w fun e w' => e = .returned (.tuple #[.int .i64 r1, .int .i64 r2]) ∧ Drawn0 w w' := by
 have H : ((barscanref16_known.f a0).bind fun t185 => (if t185 = true then (if a1 < 0 then (barscanref16_CountBits.j0 k a0 a1 true) else (barscanref16_CountBits.j0 k a0 a1 (decide (a1 > 2)))) else (barscanref16_CountBits.j0 k a0 a1 true))) = some (r1, r2) := h
 clear h
 have HC3 := Aside0.mk H
 clear H
 go_enter Try.func85, Try.ntmps85
 go_upto_region 1 with (fail)
 go_cut [16] (fun v16 wc => ∃ (kq : Nat) (x16_2 : Bool), v16 = .bool x16_2 ∧ Aside0 (barscanref16_CountBits.j0 kq a0 a1 x16_2 = some (r1, r2)) ∧ Aside0 (kq ≤ k) ∧ Drawn0 w wc)
 case first =>
  have H := HC3.out
  clear HC3
  replace H := Option.bind_eq_some_iff.mp H
  obtain ⟨t185, A40, H⟩ := H
  replace H : (if t185 = true then (if a1 < 0 then (barscanref16_CountBits.j0 k a0 a1 true) else (barscanref16_CountBits.j0 k a0 a1 (decide (a1 > 2)))) else (barscanref16_CountBits.j0 k a0 a1 true)) = some (r1, r2) := H
  have A4 := Aside0.mk A40
  clear A40
  by_cases c5 : t185 = true
  ·subst c5
   have H1 : (if a1 < 0 then (barscanref16_CountBits.j0 k a0 a1 true) else (barscanref16_CountBits.j0 k a0 a1 (decide (a1 > 2)))) = some (r1, r2) := by rw [if_pos rfl] at H; exact H
   clear H
   have H := H1
   clear H1
   by_cases c6 : a1 < 0
   ·rw [if_pos c6] at H
    have c6b0 : decide (a1 < 0) = true := decide_eq_true c6
    clear c6
    (first | rw [c6b0] | (simp only [i64_w, i32_w]; rw [c6b0]) | skip)
    have H' := Aside0.mk H
    clear H
    go_wp2_with (first | ((with_reducible refine gate_callee (f := 89) rfl ?_); refine goesL_ (some 7) rfl rfl Try.func89 (by kernel_rfl) rfl #[.int .i64 a0] rfl (by (try simp only [List.map_toArray, List.map_cons, List.map_nil]); first | done | rfl | (simp only [List.length_drop, List.length_take]; rfl)) ?_; (with_reducible refine (barscanref16_known.calls a0 true _ A4.out).mono ?_); rintro e w' ⟨rfl, ⟨nd, rfl⟩⟩; refine ⟨_, rfl, ?_⟩))
    go_meet
    case rel => exact ⟨_, (true), (by first | rfl | (simp; done) | (simp [*]; done)), H', ⟨by first | omega | exact Nat.le_refl _⟩, by repeat (first | exact Drawn0.refl _ | apply Drawn0.step)⟩
   ·rw [if_neg c6] at H
    have c6b0 : decide (a1 < 0) = false := decide_eq_false c6
    clear c6
    (first | rw [c6b0] | (simp only [i64_w, i32_w]; rw [c6b0]) | skip)
    have H' := Aside0.mk H
    clear H
    go_wp2_with (first | ((with_reducible refine gate_callee (f := 89) rfl ?_); refine goesL_ (some 7) rfl rfl Try.func89 (by kernel_rfl) rfl #[.int .i64 a0] rfl (by (try simp only [List.map_toArray, List.map_cons, List.map_nil]); first | done | rfl | (simp only [List.length_drop, List.length_take]; rfl)) ?_; (with_reducible refine (barscanref16_known.calls a0 true _ A4.out).mono ?_); rintro e w' ⟨rfl, ⟨nd, rfl⟩⟩; refine ⟨_, rfl, ?_⟩))
    go_meet
    case rel => exact ⟨_, (decide (a1 > 2)), (by first | rfl | (simp; done) | (simp [*]; done)), H', ⟨by first | omega | exact Nat.le_refl _⟩, by repeat (first | exact Drawn0.refl _ | apply Drawn0.step)⟩
  ·replace c5 := Bool.eq_false_iff.mpr c5
   subst c5
   have H1 : (barscanref16_CountBits.j0 k a0 a1 true) = some (r1, r2) := by rw [if_neg (show ¬ (false = true) by decide)] at H; exact H
   clear H
   have H := H1
   clear H1
   have H' := Aside0.mk H
   clear H
   go_wp2_with (first | ((with_reducible refine gate_callee (f := 89) rfl ?_); refine goesL_ (some 7) rfl rfl Try.func89 (by kernel_rfl) rfl #[.int .i64 a0] rfl (by (try simp only [List.map_toArray, List.map_cons, List.map_nil]); first | done | rfl | (simp only [List.length_drop, List.length_take]; rfl)) ?_; (with_reducible refine (barscanref16_known.calls a0 false _ A4.out).mono ?_); rintro e w' ⟨rfl, ⟨nd, rfl⟩⟩; refine ⟨_, rfl, ?_⟩))
   go_meet
   case rel => exact ⟨_, (true), (by first | rfl | (simp; done) | (simp [*]; done)), H', ⟨by first | omega | exact Nat.le_refl _⟩, by repeat (first | exact Drawn0.refl _ | apply Drawn0.step)⟩
 case rest =>
  clear HC3
  try clear p2
  try clear c5
  try clear c6
  try clear c6b0
  obtain ⟨kq, x16_2, rfl, HA, HJ2, ⟨mc2, rfl⟩⟩ := hcut
  cases kq with
  | zero => exact absurd HA.out (by simp [barscanref16_CountBits.j0])
  | succ kj2 =>
   have H := HA.out
   clear HA
   simp only [barscanref16_CountBits.j0] at H
   by_cases c7 : x16_2 = true
   ·subst c7
    have H1 : (some (0, 1)) = some (r1, r2) := by rw [if_pos rfl] at H; exact H
    clear H
    have H := H1
    clear H1
    simp only [Option.some.injEq, Prod.mk.injEq] at H
    obtain ⟨rfl, rfl⟩ := H
    go_wp2
    go_ret2
    exact ⟨by first | rfl | (simp; done) | (simp [*]; done), by repeat (first | exact Drawn0.refl _ | apply Drawn0.step)⟩
   ·replace c7 := Bool.eq_false_iff.mpr c7
    subst c7
    have H1 : (if a0 = 1 then (some (wrap64 (10 + (wrap64 (2 * a1))), 0)) else (if a0 = 2 then (some (wrap64 (9 + (wrap64 (2 * a1))), 0)) else (if a1 = 0 then (some (8, 0)) else (some (16, 0))))) = some (r1, r2) := by rw [if_neg (show ¬ (false = true) by decide)] at H; exact H
    clear H
    have H := H1
    clear H1
    by_cases c8 : a0 = 1
    ·rw [if_pos c8] at H
     have c8b0 : (a0 == 1) = true := beq_iff_eq.mpr c8
     have c8b1 : (a0 != 1) = false := bne_eq_false_iff_eq.mpr c8
     clear c8
     simp only [Option.some.injEq, Prod.mk.injEq] at H
     obtain ⟨rfl, rfl⟩ := H
     go_wp2
     go_ret2
     exact ⟨by first | rfl | (simp; done) | (simp [*]; done), by repeat (first | exact Drawn0.refl _ | apply Drawn0.step)⟩
    ·rw [if_neg c8] at H
     have c8b0 : (a0 == 1) = false := beq_eq_false_iff_ne.mpr c8
     have c8b1 : (a0 != 1) = true := bne_iff_ne.mpr c8
     by_cases c9 : a0 = 2
     ·rw [if_pos c9] at H
      have c9b0 : (a0 == 2) = true := beq_iff_eq.mpr c9
      have c9b1 : (a0 != 2) = false := bne_eq_false_iff_eq.mpr c9
      clear c9
      simp only [Option.some.injEq, Prod.mk.injEq] at H
      obtain ⟨rfl, rfl⟩ := H
      go_wp2
      go_ret2
      exact ⟨by first | rfl | (simp; done) | (simp [*]; done), by repeat (first | exact Drawn0.refl _ | apply Drawn0.step)⟩
     ·rw [if_neg c9] at H
      have c9b0 : (a0 == 2) = false := beq_eq_false_iff_ne.mpr c9
      have c9b1 : (a0 != 2) = true := bne_iff_ne.mpr c9
      by_cases c10 : a1 = 0
      ·rw [if_pos c10] at H
       have c10b0 : (a1 == 0) = true := beq_iff_eq.mpr c10
       have c10b1 : (a1 != 0) = false := bne_eq_false_iff_eq.mpr c10
       clear c10
       simp only [Option.some.injEq, Prod.mk.injEq] at H
       obtain ⟨rfl, rfl⟩ := H
       go_wp2
       go_ret2
       exact ⟨by first | rfl | (simp; done) | (simp [*]; done), by repeat (first | exact Drawn0.refl _ | apply Drawn0.step)⟩
      ·rw [if_neg c10] at H
       have c10b0 : (a1 == 0) = false := beq_eq_false_iff_ne.mpr c10
       have c10b1 : (a1 != 0) = true := bne_iff_ne.mpr c10
       simp only [Option.some.injEq, Prod.mk.injEq] at H
       obtain ⟨rfl, rfl⟩ := H
       go_wp2
       go_ret2
       exact ⟨by first | rfl | (simp; done) | (simp [*]; done), by repeat (first | exact Drawn0.refl _ | apply Drawn0.step)⟩

end Go.Proofs.Ytclbjddcenkidaa.PS
namespace Go.Proofs.Ytclbjddcenkidaa.PS
open Go.RowKit Go.Proofs.YtclbjddcenkidaaW.PrintWords Go.Proofs.YtclbjddcenkidaaW.PrintLast Go.Proofs.YtclbjddcenkidaaW.PrintMore
attribute [local go_sem] max2_int min2_int max_two min_two max_three min_three max_four min_four   -- for this text's walks alone

def barscanref16_most.f (k : Nat) (a0 : Int) (a1 : Int) : Option (Int) := (barscanref16_CountBits.f k a0 a1).bind fun bt186 => (if 0 ≤ (IntKind.u64.wrap (bt186.1)) then (some (wrap64 ((shl .i64 1 (IntKind.u64.wrap (bt186.1))) - 1))) else (none))
theorem barscanref16_most.mono : ∀ a0 a1 k, LeO (barscanref16_most.f k a0 a1) (barscanref16_most.f (k + 1) a0 a1) := by
 intro a0 a1 k
 unfold barscanref16_most.f
 repeat' first
   | (with_reducible exact barscanref16_CountBits.mono _ _ _)
   | (with_reducible exact LeO.refl _)
   | (with_reducible exact LeO.none _)
   | (with_reducible refine LeO.ite ?_ ?_)
   | (with_reducible refine LeO.bind ?_ (fun _ => ?_))
   | exact barscanref16_CountBits.mono _ _ _
   | exact LeO.none _
   | refine LeO.ite ?_ ?_
   | refine LeO.bind ?_ (fun _ => ?_)
set_option maxHeartbeats 8000000 in
set_option maxRecDepth 100000 in
theorem barscanref16_most.calls (k : Nat) (a0 : Int) (a1 : Int) (r : Int) (w : World) (h : barscanref16_most.f k a0 a1 = some r) :
  Calls Try.prog 74 #[.int .i64 a0, .int .i64 a1] w fun e w' => e = .returned (.int .i64 r) ∧ Drawn0 w w' := by
 have H : ((barscanref16_CountBits.f k a0 a1).bind fun bt186 => (if 0 ≤ (IntKind.u64.wrap (bt186.1)) then (some (wrap64 ((shl .i64 1 (IntKind.u64.wrap (bt186.1))) - 1))) else (none))) = some r := h
 clear h
 replace H := Option.bind_eq_some_iff.mp H
 obtain ⟨⟨t186, t187⟩, A30, H⟩ := H
 replace H : (if 0 ≤ (IntKind.u64.wrap (t186)) then (some (wrap64 ((shl .i64 1 (IntKind.u64.wrap (t186))) - 1))) else (none)) = some r := H
 have A3 := Aside0.mk A30
 clear A30
 obtain ⟨ji4, hji4⟩ : ∃ j_ : Int, (IntKind.u64.wrap (t186)) = j_ := ⟨_, rfl⟩
 replace H : (if 0 ≤ (ji4) then (some (wrap64 ((shl .i64 1 (ji4)) - 1))) else (none)) = some r := by first | (rw [hji4] at H; exact H) | (simp only [hji4] at H ⊢; exact H)
 (try rw [hji4] at A3)
 by_cases c5 : 0 ≤ (ji4)
 ·rw [if_pos c5] at H
  have c5b0 := eq_true c5
  have c5b1 : decide (0 ≤ (ji4)) = true := decide_eq_true c5
  clear c5
  obtain ⟨ji6, hji6⟩ : ∃ j_ : Int, (shl .i64 1 (ji4)) = j_ := ⟨_, rfl⟩
  replace H : (some (wrap64 ((ji6) - 1))) = some r := by first | (rw [hji6] at H; exact H) | (simp only [hji6] at H ⊢; exact H)
  (try rw [hji6] at A3)
  have hji6_ : (IntKind.i64.wrap (1 * 2 ^ min (ji4).toNat 64)) = ji6 := hji6
  have hji6z : (ji4) ≤ 64 → (IntKind.i64.wrap (1 * 2 ^ (ji4).toNat)) = ji6 := shl_small hji6
  have hji6u : (IntKind.i64.wrap (2 ^ min (ji4).toNat 64)) = ji6 := by have h_ := hji6_; rw [Int.one_mul] at h_; exact h_
  have hji6v : (ji4) ≤ 64 → (IntKind.i64.wrap (2 ^ (ji4).toNat)) = ji6 := fun hle_ => by have h_ := hji6z hle_; rw [Int.one_mul] at h_; exact h_
  have hji6y : (wrap64 (1 * 2 ^ min (ji4).toNat 64)) = ji6 := (i64_w _).symm.trans hji6_
  have hji6x : (ji4) ≤ 64 → (wrap64 (1 * 2 ^ (ji4).toNat)) = ji6 := fun h_ => (i64_w _).symm.trans (hji6z h_)
  obtain rfl := Option.some.inj H
  go_enter Try.func74, Try.ntmps74
  go_wp2_with (first | ((with_reducible refine gate_callee (f := 85) rfl ?_); refine goesL_ (some 10) rfl rfl Try.func85 (by kernel_rfl) rfl #[.int .i64 a0, .int .i64 a1] rfl (by (try simp only [List.map_toArray, List.map_cons, List.map_nil]); first | done | rfl | (simp only [List.length_drop, List.length_take]; rfl)) ?_; (with_reducible refine (barscanref16_CountBits.calls k a0 a1 t186 t187 _ A3.out).mono ?_); rintro e w' ⟨rfl, ⟨nd, rfl⟩⟩; refine ⟨_, rfl, ?_⟩))
  go_ret
  exact ⟨by first | rfl | (simp; done) | (simp only [← hji4, ← hji6] <;> (first | rfl | simp)) | (simp [*]; done), by repeat (first | exact Drawn0.refl _ | apply Drawn0.step)⟩
 ·rw [if_neg c5] at H
  exact absurd H (by simp)

end Go.Proofs.Ytclbjddcenkidaa.PS
namespace Go.Proofs.Ytclbjddcenkidaa.PS
open Go.RowKit Go.Proofs.YtclbjddcenkidaaW.PrintWords Go.Proofs.YtclbjddcenkidaaW.PrintLast Go.Proofs.YtclbjddcenkidaaW.PrintMore
attribute [local go_sem] max2_int min2_int max_two min_two max_three min_three max_four min_four   -- for this text's walks alone

def barscanref16_place.l0 : Nat → Int → Int → Option (Int)
 | 0, _, _ => none
 | k + 1, x0, x3 => if x3 < 45 then (if 0 ≤ x3 then (if (bt (⟨#[48, 49, 50, 51, 52, 53, 54, 55, 56, 57, 65, 66, 67, 68, 69, 70, 71, 72, 73, 74, 75, 76, 77, 78, 79, 80, 81, 82, 83, 84, 85, 86, 87, 88, 89, 90, 32, 36, 37, 42, 43, 45, 46, 47, 58]⟩ : ByteArray) x3) = x0 then (some x3) else (barscanref16_place.l0 k x0 (wrap64 (x3 + 1)))) else (none)) else (some (-1))
def barscanref16_place.f (k : Nat) (a0 : Int) : Option (Int) := barscanref16_place.l0 k a0 0
theorem barscanref16_place.mono_l : ∀ k, (∀ y0 y1, LeO (barscanref16_place.l0 k y0 y1) (barscanref16_place.l0 (k + 1) y0 y1))
 | 0 => fun _ _ r h => by simp [barscanref16_place.l0] at h
 | k + 1 => by
  have ih0 := barscanref16_place.mono_l k
  ·intro y0 y1
   unfold barscanref16_place.l0
   repeat' first
   | (with_reducible exact ih0 _ _)
   | (with_reducible exact LeO.refl _)
   | (with_reducible exact LeO.none _)
   | (with_reducible refine LeO.ite ?_ ?_)
   | (with_reducible refine LeO.bind ?_ (fun _ => ?_))
   | exact ih0 _ _
   | exact LeO.none _
   | refine LeO.ite ?_ ?_
   | refine LeO.bind ?_ (fun _ => ?_)
theorem barscanref16_place.mono : ∀ a0 k, LeO (barscanref16_place.f k a0) (barscanref16_place.f (k + 1) a0) := by
 intro a0 k
 have ih0 := barscanref16_place.mono_l k
 unfold barscanref16_place.f
 repeat' first
   | (with_reducible exact ih0 _ _)
   | (with_reducible exact LeO.refl _)
   | (with_reducible exact LeO.none _)
   | (with_reducible refine LeO.ite ?_ ?_)
   | (with_reducible refine LeO.bind ?_ (fun _ => ?_))
   | exact ih0 _ _
   | exact LeO.none _
   | refine LeO.ite ?_ ?_
   | refine LeO.bind ?_ (fun _ => ?_)
set_option maxHeartbeats 8000000 in
set_option maxRecDepth 100000 in
theorem barscanref16_place.calls (k : Nat) (a0 : Int) (r : Int) (w : World) (h : barscanref16_place.f k a0 = some r) :
  Calls Try.prog 86 #[.int .u8 a0] w fun e w' => e = .returned (.int .i64 r) ∧ Drawn0 w w' := by
 have H : (barscanref16_place.l0 k a0 0) = some r := h
 clear h
 have H' := Aside0.mk H
 clear H
 go_enter Try.func86, Try.ntmps86
 go_wp2
 go_loopg [3] k (fun kq v3 w' => ∃ (x3_1 : Int), v3 = .int .i64 x3_1 ∧ Aside0 (barscanref16_place.l0 kq a0 x3_1 = some r) ∧ Aside0 (kq ≤ k) ∧ Drawn0 w w')
 case atStart => exact ⟨(0), (by first | rfl | (simp; done) | (simp [*]; done)), H', ⟨Nat.le_refl _⟩, by repeat (first | exact Drawn0.refl _ | apply Drawn0.step)⟩
 case round =>
  clear H'
  obtain ⟨x3_1, rfl, HA, HK1, ⟨m1, rfl⟩⟩ := hrel
  cases gk with
  | zero => exact absurd HA.out (by simp [barscanref16_place.l0])
  | succ k1 =>
   have H := HA.out
   clear HA
   simp only [barscanref16_place.l0] at H
   by_cases c2 : x3_1 < 45
   ·rw [if_pos c2] at H
    have c2b0 : decide (x3_1 < 45) = true := decide_eq_true c2
    clear c2
    by_cases c3 : 0 ≤ x3_1
    ·rw [if_pos c3] at H
     have c3b0 : decide (0 ≤ x3_1) = true := decide_eq_true c3
     clear c3
     by_cases c5 : (bt (⟨#[48, 49, 50, 51, 52, 53, 54, 55, 56, 57, 65, 66, 67, 68, 69, 70, 71, 72, 73, 74, 75, 76, 77, 78, 79, 80, 81, 82, 83, 84, 85, 86, 87, 88, 89, 90, 32, 36, 37, 42, 43, 45, 46, 47, 58]⟩ : ByteArray) x3_1) = a0
     ·rw [if_pos c5] at H
      have c5b0 : ((bt (⟨#[48, 49, 50, 51, 52, 53, 54, 55, 56, 57, 65, 66, 67, 68, 69, 70, 71, 72, 73, 74, 75, 76, 77, 78, 79, 80, 81, 82, 83, 84, 85, 86, 87, 88, 89, 90, 32, 36, 37, 42, 43, 45, 46, 47, 58]⟩ : ByteArray) x3_1) == a0) = true := beq_iff_eq.mpr c5
      have c5b1 : ((bt (⟨#[48, 49, 50, 51, 52, 53, 54, 55, 56, 57, 65, 66, 67, 68, 69, 70, 71, 72, 73, 74, 75, 76, 77, 78, 79, 80, 81, 82, 83, 84, 85, 86, 87, 88, 89, 90, 32, 36, 37, 42, 43, 45, 46, 47, 58]⟩ : ByteArray) x3_1) != a0) = false := bne_eq_false_iff_eq.mpr c5
      clear c5
      obtain rfl := Option.some.inj H
      have p4 : 0 ≤ (x3_1 : Int) := of_decide_eq_true (by first | (with_reducible assumption) | assumption)
      have q4 : x3_1 < (45 : Int) := of_decide_eq_true (by first | (with_reducible assumption) | assumption)
      have hx4 := bt_at (⟨#[48, 49, 50, 51, 52, 53, 54, 55, 56, 57, 65, 66, 67, 68, 69, 70, 71, 72, 73, 74, 75, 76, 77, 78, 79, 80, 81, 82, 83, 84, 85, 86, 87, 88, 89, 90, 32, 36, 37, 42, 43, 45, 46, 47, 58]⟩ : ByteArray) x3_1
      replace p4 := eq_true p4
      replace q4 := eq_true q4
      go_wp2
      go_ret
      exact ⟨by first | rfl | (simp; done) | (simp [*]; done), by repeat (first | exact Drawn0.refl _ | apply Drawn0.step)⟩
     ·rw [if_neg c5] at H
      have c5b0 : ((bt (⟨#[48, 49, 50, 51, 52, 53, 54, 55, 56, 57, 65, 66, 67, 68, 69, 70, 71, 72, 73, 74, 75, 76, 77, 78, 79, 80, 81, 82, 83, 84, 85, 86, 87, 88, 89, 90, 32, 36, 37, 42, 43, 45, 46, 47, 58]⟩ : ByteArray) x3_1) == a0) = false := beq_eq_false_iff_ne.mpr c5
      have c5b1 : ((bt (⟨#[48, 49, 50, 51, 52, 53, 54, 55, 56, 57, 65, 66, 67, 68, 69, 70, 71, 72, 73, 74, 75, 76, 77, 78, 79, 80, 81, 82, 83, 84, 85, 86, 87, 88, 89, 90, 32, 36, 37, 42, 43, 45, 46, 47, 58]⟩ : ByteArray) x3_1) != a0) = true := bne_iff_ne.mpr c5
      have H' := Aside0.mk H
      clear H
      have p4 : 0 ≤ (x3_1 : Int) := of_decide_eq_true (by first | (with_reducible assumption) | assumption)
      have q4 : x3_1 < (45 : Int) := of_decide_eq_true (by first | (with_reducible assumption) | assumption)
      have hx4 := bt_at (⟨#[48, 49, 50, 51, 52, 53, 54, 55, 56, 57, 65, 66, 67, 68, 69, 70, 71, 72, 73, 74, 75, 76, 77, 78, 79, 80, 81, 82, 83, 84, 85, 86, 87, 88, 89, 90, 32, 36, 37, 42, 43, 45, 46, 47, 58]⟩ : ByteArray) x3_1
      replace p4 := eq_true p4
      replace q4 := eq_true q4
      go_wp2
      go_roundg k1
      case measure => have := HK1.out; omega
      case rel => exact ⟨(wrap64 (x3_1 + 1)), (by first | rfl | (simp; done) | (simp [*]; done)), H', ⟨by have := HK1.out; omega⟩, by repeat (first | exact Drawn0.refl _ | apply Drawn0.step)⟩
    ·rw [if_neg c3] at H
     exact absurd H (by simp)
   ·rw [if_neg c2] at H
    have c2b0 : decide (x3_1 < 45) = false := decide_eq_false c2
    clear c2
    obtain rfl := Option.some.inj H
    go_wp2
    go_ret
    exact ⟨by first | rfl | (simp; done) | (simp [*]; done), by repeat (first | exact Drawn0.refl _ | apply Drawn0.step)⟩

end Go.Proofs.Ytclbjddcenkidaa.PS
namespace Go.Proofs.Ytclbjddcenkidaa.PS
open Go.RowKit Go.Proofs.YtclbjddcenkidaaW.PrintWords Go.Proofs.YtclbjddcenkidaaW.PrintLast Go.Proofs.YtclbjddcenkidaaW.PrintMore
attribute [local go_sem] max2_int min2_int max_two min_two max_three min_three max_four min_four   -- for this text's walks alone

def barscanref16_Fits.f (k : Nat) (a0 : Int) (a1 : Int) : Option (Bool) := if a0 = 1 then (if a1 ≥ 48 then (some (decide (a1 ≤ 57))) else (some false)) else (if a0 = 2 then ((barscanref16_place.f k a1).bind fun t188 => (some (decide (t188 ≥ 0)))) else (some (a0 == 4)))
theorem barscanref16_Fits.mono : ∀ a0 a1 k, LeO (barscanref16_Fits.f k a0 a1) (barscanref16_Fits.f (k + 1) a0 a1) := by
 intro a0 a1 k
 unfold barscanref16_Fits.f
 repeat' first
   | (with_reducible exact barscanref16_place.mono _ _)
   | (with_reducible exact LeO.refl _)
   | (with_reducible exact LeO.none _)
   | (with_reducible refine LeO.ite ?_ ?_)
   | (with_reducible refine LeO.bind ?_ (fun _ => ?_))
   | exact barscanref16_place.mono _ _
   | exact LeO.none _
   | refine LeO.ite ?_ ?_
   | refine LeO.bind ?_ (fun _ => ?_)
set_option maxHeartbeats 8000000 in
set_option maxRecDepth 100000 in
theorem barscanref16_Fits.calls (k : Nat) (a0 : Int) (a1 : Int) (r : Bool) (w : World) (h : barscanref16_Fits.f k a0 a1 = some r) :
  Calls Try.prog 75 #[.int .i64 a0, .int .u8 a1] w fun e w' => e = .returned (.bool r) ∧ Drawn0 w w' := by
 have H : (if a0 = 1 then (if a1 ≥ 48 then (some (decide (a1 ≤ 57))) else (some false)) else (if a0 = 2 then ((barscanref16_place.f k a1).bind fun t188 => (some (decide (t188 ≥ 0)))) else (some (a0 == 4)))) = some r := h
 clear h
 by_cases c3 : a0 = 1
 ·rw [if_pos c3] at H
  have c3b0 : (a0 == 1) = true := beq_iff_eq.mpr c3
  have c3b1 : (a0 != 1) = false := bne_eq_false_iff_eq.mpr c3
  clear c3
  by_cases c4 : a1 ≥ 48
  ·rw [if_pos c4] at H
   have c4b0 : decide (48 ≤ a1) = true := decide_eq_true c4
   clear c4
   obtain rfl := Option.some.inj H
   go_enter Try.func75, Try.ntmps75
   go_wp2
   go_ret
   exact ⟨by first | rfl | (simp; done) | (simp [*]; done), by repeat (first | exact Drawn0.refl _ | apply Drawn0.step)⟩
  ·rw [if_neg c4] at H
   have c4b0 : decide (48 ≤ a1) = false := decide_eq_false c4
   clear c4
   obtain rfl := Option.some.inj H
   go_enter Try.func75, Try.ntmps75
   go_wp2
   go_ret
   exact ⟨by first | rfl | (simp; done) | (simp [*]; done), by repeat (first | exact Drawn0.refl _ | apply Drawn0.step)⟩
 ·rw [if_neg c3] at H
  have c3b0 : (a0 == 1) = false := beq_eq_false_iff_ne.mpr c3
  have c3b1 : (a0 != 1) = true := bne_iff_ne.mpr c3
  by_cases c5 : a0 = 2
  ·rw [if_pos c5] at H
   have c5b0 : (a0 == 2) = true := beq_iff_eq.mpr c5
   have c5b1 : (a0 != 2) = false := bne_eq_false_iff_eq.mpr c5
   clear c5
   replace H := Option.bind_eq_some_iff.mp H
   obtain ⟨t188, A60, H⟩ := H
   replace H : (some (decide (t188 ≥ 0))) = some r := H
   have A6 := Aside0.mk A60
   clear A60
   obtain rfl := Option.some.inj H
   go_enter Try.func75, Try.ntmps75
   go_wp2_with (first | ((with_reducible refine gate_callee (f := 86) rfl ?_); refine goesL_ (some 16) rfl rfl Try.func86 (by kernel_rfl) rfl #[.int .u8 a1] rfl (by (try simp only [List.map_toArray, List.map_cons, List.map_nil]); first | done | rfl | (simp only [List.length_drop, List.length_take]; rfl)) ?_; (with_reducible refine (barscanref16_place.calls k a1 t188 _ A6.out).mono ?_); rintro e w' ⟨rfl, ⟨nd, rfl⟩⟩; refine ⟨_, rfl, ?_⟩))
   go_ret
   exact ⟨by first | rfl | (simp; done) | (simp [*]; done), by repeat (first | exact Drawn0.refl _ | apply Drawn0.step)⟩
  ·rw [if_neg c5] at H
   have c5b0 : (a0 == 2) = false := beq_eq_false_iff_ne.mpr c5
   have c5b1 : (a0 != 2) = true := bne_iff_ne.mpr c5
   obtain rfl := Option.some.inj H
   go_enter Try.func75, Try.ntmps75
   go_wp2
   go_ret
   exact ⟨by first | rfl | (simp; done) | (simp [*]; done), by repeat (first | exact Drawn0.refl _ | apply Drawn0.step)⟩

end Go.Proofs.Ytclbjddcenkidaa.PS
namespace Go.Proofs.Ytclbjddcenkidaa.PS
open Go.RowKit Go.Proofs.YtclbjddcenkidaaW.PrintWords Go.Proofs.YtclbjddcenkidaaW.PrintLast Go.Proofs.YtclbjddcenkidaaW.PrintMore
attribute [local go_sem] max2_int min2_int max_two min_two max_three min_three max_four min_four   -- for this text's walks alone

def barscanref16_Data.f (a0 : Int) (a1 : Int) : Option (Int) := if a0 = 1 then (some (wrap64 ((wrap64 ((wrap64 ((wrap64 (Int.tdiv a1 3)) * 10)) + (wrap64 ((Int.tmod a1 3) * 3)))) + (wrap64 (Int.tdiv (wrap64 ((Int.tmod a1 3) + 1)) 2))))) else (if a0 = 2 then (some (wrap64 ((wrap64 ((wrap64 (Int.tdiv a1 2)) * 11)) + (wrap64 ((Int.tmod a1 2) * 6))))) else (some (wrap64 (8 * a1))))
set_option maxHeartbeats 8000000 in
set_option maxRecDepth 100000 in
theorem barscanref16_Data.calls (a0 : Int) (a1 : Int) (r : Int) (w : World) (h : barscanref16_Data.f a0 a1 = some r) :
  Calls Try.prog 87 #[.int .i64 a0, .int .i64 a1] w fun e w' => e = .returned (.int .i64 r) ∧ Drawn0 w w' := by
 have H : (if a0 = 1 then (some (wrap64 ((wrap64 ((wrap64 ((wrap64 (Int.tdiv a1 3)) * 10)) + (wrap64 ((Int.tmod a1 3) * 3)))) + (wrap64 (Int.tdiv (wrap64 ((Int.tmod a1 3) + 1)) 2))))) else (if a0 = 2 then (some (wrap64 ((wrap64 ((wrap64 (Int.tdiv a1 2)) * 11)) + (wrap64 ((Int.tmod a1 2) * 6))))) else (some (wrap64 (8 * a1))))) = some r := h
 clear h
 by_cases c3 : a0 = 1
 ·rw [if_pos c3] at H
  have c3b0 : (a0 == 1) = true := beq_iff_eq.mpr c3
  have c3b1 : (a0 != 1) = false := bne_eq_false_iff_eq.mpr c3
  clear c3
  obtain rfl := Option.some.inj H
  go_enter Try.func87, Try.ntmps87
  go_wp2
  go_ret
  exact ⟨by first | rfl | (simp; done) | (simp [*]; done), by repeat (first | exact Drawn0.refl _ | apply Drawn0.step)⟩
 ·rw [if_neg c3] at H
  have c3b0 : (a0 == 1) = false := beq_eq_false_iff_ne.mpr c3
  have c3b1 : (a0 != 1) = true := bne_iff_ne.mpr c3
  by_cases c4 : a0 = 2
  ·rw [if_pos c4] at H
   have c4b0 : (a0 == 2) = true := beq_iff_eq.mpr c4
   have c4b1 : (a0 != 2) = false := bne_eq_false_iff_eq.mpr c4
   clear c4
   obtain rfl := Option.some.inj H
   go_enter Try.func87, Try.ntmps87
   go_wp2
   go_ret
   exact ⟨by first | rfl | (simp; done) | (simp [*]; done), by repeat (first | exact Drawn0.refl _ | apply Drawn0.step)⟩
  ·rw [if_neg c4] at H
   have c4b0 : (a0 == 2) = false := beq_eq_false_iff_ne.mpr c4
   have c4b1 : (a0 != 2) = true := bne_iff_ne.mpr c4
   obtain rfl := Option.some.inj H
   go_enter Try.func87, Try.ntmps87
   go_wp2
   go_ret
   exact ⟨by first | rfl | (simp; done) | (simp [*]; done), by repeat (first | exact Drawn0.refl _ | apply Drawn0.step)⟩

end Go.Proofs.Ytclbjddcenkidaa.PS
namespace Go.Proofs.Ytclbjddcenkidaa.PS
open Go.RowKit Go.Proofs.YtclbjddcenkidaaW.PrintWords Go.Proofs.YtclbjddcenkidaaW.PrintLast Go.Proofs.YtclbjddcenkidaaW.PrintMore
attribute [local go_sem] max2_int min2_int max_two min_two max_three min_three max_four min_four   -- for this text's walks alone

def barscanref16_size.f (k : Nat) (a0 : Int) (a1 : Int) (a2 : Int) : Option (Int) := (barscanref16_CountBits.f k a0 a1).bind fun bt189 => ((barscanref16_Data.f a0 a2).bind fun t191 => (some (wrap64 ((wrap64 (4 + bt189.1)) + t191))))
theorem barscanref16_size.mono : ∀ a0 a1 a2 k, LeO (barscanref16_size.f k a0 a1 a2) (barscanref16_size.f (k + 1) a0 a1 a2) := by
 intro a0 a1 a2 k
 unfold barscanref16_size.f
 repeat' first
   | (with_reducible exact barscanref16_CountBits.mono _ _ _)
   | (with_reducible exact LeO.refl _)
   | (with_reducible exact LeO.none _)
   | (with_reducible refine LeO.ite ?_ ?_)
   | (with_reducible refine LeO.bind ?_ (fun _ => ?_))
   | exact barscanref16_CountBits.mono _ _ _
   | exact LeO.none _
   | refine LeO.ite ?_ ?_
   | refine LeO.bind ?_ (fun _ => ?_)
set_option maxHeartbeats 8000000 in
set_option maxRecDepth 100000 in
theorem barscanref16_size.calls (k : Nat) (a0 : Int) (a1 : Int) (a2 : Int) (r : Int) (w : World) (h : barscanref16_size.f k a0 a1 a2 = some r) :
  Calls Try.prog 76 #[.int .i64 a0, .int .i64 a1, .int .i64 a2] w fun e w' => e = .returned (.int .i64 r) ∧ Drawn0 w w' := by
 have H : ((barscanref16_CountBits.f k a0 a1).bind fun bt189 => ((barscanref16_Data.f a0 a2).bind fun t191 => (some (wrap64 ((wrap64 (4 + bt189.1)) + t191))))) = some r := h
 clear h
 replace H := Option.bind_eq_some_iff.mp H
 obtain ⟨⟨t189, t190⟩, A40, H⟩ := H
 replace H : ((barscanref16_Data.f a0 a2).bind fun t191 => (some (wrap64 ((wrap64 (4 + t189)) + t191)))) = some r := H
 have A4 := Aside0.mk A40
 clear A40
 replace H := Option.bind_eq_some_iff.mp H
 obtain ⟨t191, A50, H⟩ := H
 replace H : (some (wrap64 ((wrap64 (4 + t189)) + t191))) = some r := H
 have A5 := Aside0.mk A50
 clear A50
 obtain rfl := Option.some.inj H
 go_enter Try.func76, Try.ntmps76
 go_wp2_with (first | ((with_reducible refine gate_callee (f := 85) rfl ?_); refine goesL_ (some 12) rfl rfl Try.func85 (by kernel_rfl) rfl #[.int .i64 a0, .int .i64 a1] rfl (by (try simp only [List.map_toArray, List.map_cons, List.map_nil]); first | done | rfl | (simp only [List.length_drop, List.length_take]; rfl)) ?_; (with_reducible refine (barscanref16_CountBits.calls k a0 a1 t189 t190 _ A4.out).mono ?_); rintro e w' ⟨rfl, ⟨nd, rfl⟩⟩; refine ⟨_, rfl, ?_⟩) | ((with_reducible refine gate_callee (f := 87) rfl ?_); refine goesL_ (some 19) rfl rfl Try.func87 (by kernel_rfl) rfl #[.int .i64 a0, .int .i64 a2] rfl (by (try simp only [List.map_toArray, List.map_cons, List.map_nil]); first | done | rfl | (simp only [List.length_drop, List.length_take]; rfl)) ?_; (with_reducible refine (barscanref16_Data.calls a0 a2 t191 _ A5.out).mono ?_); rintro e w' ⟨rfl, ⟨nd, rfl⟩⟩; refine ⟨_, rfl, ?_⟩))
 go_ret
 exact ⟨by first | rfl | (simp; done) | (simp [*]; done), by repeat (first | exact Drawn0.refl _ | apply Drawn0.step)⟩

end Go.Proofs.Ytclbjddcenkidaa.PS
