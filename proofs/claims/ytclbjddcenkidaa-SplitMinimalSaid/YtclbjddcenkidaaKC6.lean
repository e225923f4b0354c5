-- Texts of this claim, merged by the prover's program (wip/tools/trim.py); theorems that no proof uses are left out.
import Derived.Test.YtclbjddcenkidaaKC5
import Derived.Test.YtclbjddcenkidaaKC2
import Derived.Test.YtclbjddcenkidaaKC4
set_option linter.unusedVariables false
set_option linter.unusedSimpArgs false
namespace Go.Proofs.Ytclbjddcenkidaa.PS
open Go.RowKit Go.Proofs.YtclbjddcenkidaaW.PrintWords Go.Proofs.YtclbjddcenkidaaW.PrintLast Go.Proofs.YtclbjddcenkidaaW.PrintMore
attribute [local go_sem] max2_int min2_int max_two min_two max_three min_three max_four min_four   -- for this text's walks alone

mutual
def barscanref16_Best.j0 : Nat → List Int → Int → Bool → Option ((List (S54)) × Int × Int)
 | 0, _, _, _ => none
 | k + 1, x0, x1, x18 => if x18 = true then (some (([] : List (S54)), 0, 1)) else (if (x0.length : Int) > 4096 then (some (([] : List (S54)), 0, 4)) else (barscanref16_Best.l0 k x0 x1 ([] : List (S98)) 0))
def barscanref16_Best.l0 : Nat → List Int → Int → List (S98) → Int → Option ((List (S54)) × Int × Int)
 | 0, _, _, _, _ => none
 | k + 1, x0, x1, x7, x8 => if x8 ≤ (x0.length : Int) then (if x7.length < 4398046511104 then (barscanref16_Best.l0 k x0 x1 (x7 ++ [(⟨0, 0, 0, 0⟩ : S98)]) (wrap64 (x8 + 1))) else (none)) else (barscanref16_Best.l1 k x0 x1 x7 (wrap64 ((x0.length : Int) - 1)))
def barscanref16_Best.l1 : Nat → List Int → Int → List (S98) → Int → Option ((List (S54)) × Int × Int)
 | 0, _, _, _, _ => none
 | k + 1, x0, x1, x7, x9 => if x9 ≥ 0 then ((barscanref16_first.f k x0 x9 x1 x7).bind fun bt211 => (if 0 ≤ x9 then (if x9 < (x7.length : Int) then (barscanref16_Best.l1 k x0 x1 (x7.set (x9 : Int).toNat (⟨bt211.1, bt211.2.1, bt211.2.2.1, bt211.2.2.2⟩ : S98)) (wrap64 (x9 - 1))) else (none)) else (none))) else (barscanref16_Best.l2 k x0 x7 ([] : List (S54)) 0)
def barscanref16_Best.l2 : Nat → List Int → List (S98) → List (S54) → Int → Option ((List (S54)) × Int × Int)
 | 0, _, _, _, _ => none
 | k + 1, x0, x7, x10, x11 => if x11 < (x0.length : Int) then (if 0 ≤ x11 then (if x11 < (x7.length : Int) then (if x11 ≤ (wrap64 (x11 + ((rd_T98 x7 x11).f2))) then (if (wrap64 (x11 + ((rd_T98 x7 x11).f2))) ≤ (x0.length : Int) then (if ([] : List Int).length + ((x0.take ((wrap64 (x11 + ((rd_T98 x7 x11).f2))) : Int).toNat).drop (x11 : Int).toNat).length < 140737488355328 then (if x10.length < 4398046511104 then (barscanref16_Best.l2 k x0 x7 (x10 ++ [(⟨(rd_T98 x7 x11).f3, (([] : List Int) ++ ((x0.take ((wrap64 (x11 + ((rd_T98 x7 x11).f2))) : Int).toNat).drop (x11 : Int).toNat))⟩ : S54)]) (wrap64 (x11 + ((rd_T98 x7 x11).f2)))) else (none)) else (none)) else (none)) else (none)) else (none)) else (none)) else (if 0 < (x7.length : Int) then (some (x10, (rd_T98 x7 0).f0, 0)) else (none))
end
def barscanref16_Best.f (k : Nat) (l0 : List Int) (a1 : Int) : Option ((List (S54)) × Int × Int) := if a1 < 0 then (barscanref16_Best.j0 k l0 a1 true) else (barscanref16_Best.j0 k l0 a1 (decide (a1 > 2)))
theorem barscanref16_Best.mono_l : ∀ k, (∀ y0 y1 y2, LeO (barscanref16_Best.j0 k y0 y1 y2) (barscanref16_Best.j0 (k + 1) y0 y1 y2)) ∧ (∀ y0 y1 y2 y3, LeO (barscanref16_Best.l0 k y0 y1 y2 y3) (barscanref16_Best.l0 (k + 1) y0 y1 y2 y3)) ∧ (∀ y0 y1 y2 y3, LeO (barscanref16_Best.l1 k y0 y1 y2 y3) (barscanref16_Best.l1 (k + 1) y0 y1 y2 y3)) ∧ (∀ y0 y1 y2 y3, LeO (barscanref16_Best.l2 k y0 y1 y2 y3) (barscanref16_Best.l2 (k + 1) y0 y1 y2 y3))
 | 0 => ⟨fun _ _ _ r h => by simp [barscanref16_Best.j0] at h, fun _ _ _ _ r h => by simp [barscanref16_Best.l0] at h, fun _ _ _ _ r h => by simp [barscanref16_Best.l1] at h, fun _ _ _ _ r h => by simp [barscanref16_Best.l2] at h⟩
 | k + 1 => by
  obtain ⟨ih0, ih1, ih2, ih3⟩ := barscanref16_Best.mono_l k
  refine ⟨?_, ?_, ?_, ?_⟩
  ·intro y0 y1 y2
   unfold barscanref16_Best.j0
   repeat' first
   | (with_reducible exact ih0 _ _ _)
   | (with_reducible exact ih1 _ _ _ _)
   | (with_reducible exact ih2 _ _ _ _)
   | (with_reducible exact ih3 _ _ _ _)
   | (with_reducible exact barscanref16_first.mono _ _ _ _ _)
   | (with_reducible exact LeO.refl _)
   | (with_reducible exact LeO.none _)
   | (with_reducible refine LeO.ite ?_ ?_)
   | (with_reducible refine LeO.bind ?_ (fun _ => ?_))
   | exact ih0 _ _ _
   | exact ih1 _ _ _ _
   | exact ih2 _ _ _ _
   | exact ih3 _ _ _ _
   | exact barscanref16_first.mono _ _ _ _ _
   | exact LeO.none _
   | refine LeO.ite ?_ ?_
   | refine LeO.bind ?_ (fun _ => ?_)
  ·intro y0 y1 y2 y3
   unfold barscanref16_Best.l0
   repeat' first
   | (with_reducible exact ih0 _ _ _)
   | (with_reducible exact ih1 _ _ _ _)
   | (with_reducible exact ih2 _ _ _ _)
   | (with_reducible exact ih3 _ _ _ _)
   | (with_reducible exact barscanref16_first.mono _ _ _ _ _)
   | (with_reducible exact LeO.refl _)
   | (with_reducible exact LeO.none _)
   | (with_reducible refine LeO.ite ?_ ?_)
   | (with_reducible refine LeO.bind ?_ (fun _ => ?_))
   | exact ih0 _ _ _
   | exact ih1 _ _ _ _
   | exact ih2 _ _ _ _
   | exact ih3 _ _ _ _
   | exact barscanref16_first.mono _ _ _ _ _
   | exact LeO.none _
   | refine LeO.ite ?_ ?_
   | refine LeO.bind ?_ (fun _ => ?_)
  ·intro y0 y1 y2 y3
   unfold barscanref16_Best.l1
   repeat' first
   | (with_reducible exact ih0 _ _ _)
   | (with_reducible exact ih1 _ _ _ _)
   | (with_reducible exact ih2 _ _ _ _)
   | (with_reducible exact ih3 _ _ _ _)
   | (with_reducible exact barscanref16_first.mono _ _ _ _ _)
   | (with_reducible exact LeO.refl _)
   | (with_reducible exact LeO.none _)
   | (with_reducible refine LeO.ite ?_ ?_)
   | (with_reducible refine LeO.bind ?_ (fun _ => ?_))
   | exact ih0 _ _ _
   | exact ih1 _ _ _ _
   | exact ih2 _ _ _ _
   | exact ih3 _ _ _ _
   | exact barscanref16_first.mono _ _ _ _ _
   | exact LeO.none _
   | refine LeO.ite ?_ ?_
   | refine LeO.bind ?_ (fun _ => ?_)
  ·intro y0 y1 y2 y3
   unfold barscanref16_Best.l2
   repeat' first
   | (with_reducible exact ih0 _ _ _)
   | (with_reducible exact ih1 _ _ _ _)
   | (with_reducible exact ih2 _ _ _ _)
   | (with_reducible exact ih3 _ _ _ _)
   | (with_reducible exact barscanref16_first.mono _ _ _ _ _)
   | (with_reducible exact LeO.refl _)
   | (with_reducible exact LeO.none _)
   | (with_reducible refine LeO.ite ?_ ?_)
   | (with_reducible refine LeO.bind ?_ (fun _ => ?_))
   | exact ih0 _ _ _
   | exact ih1 _ _ _ _
   | exact ih2 _ _ _ _
   | exact ih3 _ _ _ _
   | exact barscanref16_first.mono _ _ _ _ _
   | exact LeO.none _
   | refine LeO.ite ?_ ?_
   | refine LeO.bind ?_ (fun _ => ?_)
theorem barscanref16_Best.mono : ∀ a0 a1 k, LeO (barscanref16_Best.f k a0 a1) (barscanref16_Best.f (k + 1) a0 a1) := by
 intro a0 a1 k
 obtain ⟨ih0, ih1, ih2, ih3⟩ := barscanref16_Best.mono_l k
 unfold barscanref16_Best.f
 repeat' first
   | (with_reducible exact ih0 _ _ _)
   | (with_reducible exact ih1 _ _ _ _)
   | (with_reducible exact ih2 _ _ _ _)
   | (with_reducible exact ih3 _ _ _ _)
   | (with_reducible exact barscanref16_first.mono _ _ _ _ _)
   | (with_reducible exact LeO.refl _)
   | (with_reducible exact LeO.none _)
   | (with_reducible refine LeO.ite ?_ ?_)
   | (with_reducible refine LeO.bind ?_ (fun _ => ?_))
   | exact ih0 _ _ _
   | exact ih1 _ _ _ _
   | exact ih2 _ _ _ _
   | exact ih3 _ _ _ _
   | exact barscanref16_first.mono _ _ _ _ _
   | exact LeO.none _
   | refine LeO.ite ?_ ?_
   | refine LeO.bind ?_ (fun _ => ?_)
set_option maxHeartbeats 8000000 in
set_option maxRecDepth 100000 in
theorem barscanref16_Best.calls (k : Nat) (A0 : Option Addr) (c0 : Nat) (l0 : List Int) (a1 : Int) (r1 : List (S54)) (r2 : Int) (r3 : Int) (w : World) (hr0 : Kd.C (Kd.int .u8) w A0 l0.length l0) (hc0 : l0.length ≤ c0) (h : barscanref16_Best.f k l0 a1 = some (r1, r2, r3)) :
  Calls Try.prog 43 #[.slice A0 l0.length c0, .int .i64 a1] w fun e w' => ∃ v0_ : Value, e = .returned (.tuple #[v0_, .int .i64 r2, .int .i64 r3]) ∧ Kd.S k54 54 w' w.heap.size (fun _ => True) v0_ r1 ∧ Below w.heap.size w w' := by
 have hu98 := Try.underlying98
 have hu54 := Try.underlying54
 have HR0 := Aside0.mk hr0
 have HC0 := Aside0.mk hc0
 clear hr0 hc0
 have HB := Aside0.mk (Below.refl w.heap.size w)
 have H : (if a1 < 0 then (barscanref16_Best.j0 k l0 a1 true) else (barscanref16_Best.j0 k l0 a1 (decide (a1 > 2)))) = some (r1, r2, r3) := h
 clear h
 have HC3 := Aside0.mk H
 clear H
 go_enter Try.func43, Try.ntmps43
 go_upto_region 1 with (fail)
 repeat (go_quiet (fail); go_upto_region 1 with (fail))
 go_cut [18] (fun v18 wc => ∃ (kq : Nat) (x18_2 : Bool), v18 = .bool x18_2 ∧ Aside0 (barscanref16_Best.j0 kq l0 a1 x18_2 = some (r1, r2, r3)) ∧ Aside0 (kq ≤ k) ∧ Aside0 (Below w.heap.size w wc))
 case first =>
  have H := HC3.out
  clear HC3
  by_cases c4 : a1 < 0
  ·rw [if_pos c4] at H
   have c4b0 : decide (a1 < 0) = true := decide_eq_true c4
   clear c4
   (first | rw [c4b0] | (simp only [i64_w, i32_w]; rw [c4b0]) | skip)
   have H' := Aside0.mk H
   clear H
   go_wp2
   repeat (go_quiet (fail); try go_wp2)
   go_meet
   case rel => exact ⟨_, (true), (by first | rfl | (simp; done) | (simp [*]; done)), H', ⟨by first | omega | exact Nat.le_refl _⟩, ⟨by repeat (first | (with_reducible first | exact HB.out | apply below_alloc | apply pw_below_drewN | apply below_drew1) | exact HB.out)⟩⟩
  ·rw [if_neg c4] at H
   have c4b0 : decide (a1 < 0) = false := decide_eq_false c4
   clear c4
   (first | rw [c4b0] | (simp only [i64_w, i32_w]; rw [c4b0]) | skip)
   have H' := Aside0.mk H
   clear H
   go_wp2
   repeat (go_quiet (fail); try go_wp2)
   go_meet
   case rel => exact ⟨_, (decide (a1 > 2)), (by first | rfl | (simp; done) | (simp [*]; done)), H', ⟨by first | omega | exact Nat.le_refl _⟩, ⟨by repeat (first | (with_reducible first | exact HB.out | apply below_alloc | apply pw_below_drewN | apply below_drew1) | exact HB.out)⟩⟩
 case rest =>
  clear HC3
  try clear p2
  try clear c4
  try clear c4b0
  obtain ⟨kq, x18_2, rfl, HA, HJ2, HB⟩ := hcut
  cases kq with
  | zero => exact absurd HA.out (by simp [barscanref16_Best.j0])
  | succ kj2 =>
   have H := HA.out
   clear HA
   simp only [barscanref16_Best.j0] at H
   by_cases c5 : x18_2 = true
   ·subst c5
    have H1 : (some (([] : List (S54)), 0, 1)) = some (r1, r2, r3) := by rw [if_pos rfl] at H; exact H
    clear H
    have H := H1
    clear H1
    simp only [Option.some.injEq, Prod.mk.injEq] at H
    obtain ⟨rfl, rfl, rfl⟩ := H
    go_wp2
    repeat (go_quiet (fail); try go_wp2)
    go_ret3
    exact ⟨_, by first | rfl | (simp [errW_none, errW_some] <;> rfl) | (simp [*, errW_none, errW_some] <;> rfl), by first | exact Kd.S_nil _ _ _ _ _ | exact Kd.N_nil _ _ _ _ _ | exact Kd.V_nil _ _ _ _ _ | exact Kd.Q_nil _ _ _ _ _ | exact Kd.R_nil _ _ _ _ _, by repeat (first | (with_reducible first | exact HB.out | apply below_alloc | apply pw_below_drewN | apply below_drew1) | exact HB.out)⟩
   ·replace c5 := Bool.eq_false_iff.mpr c5
    subst c5
    have H1 : (if (l0.length : Int) > 4096 then (some (([] : List (S54)), 0, 4)) else (barscanref16_Best.l0 kj2 l0 a1 ([] : List (S98)) 0)) = some (r1, r2, r3) := by rw [if_neg (show ¬ (false = true) by decide)] at H; exact H
    clear H
    have H := H1
    clear H1
    by_cases c6 : (l0.length : Int) > 4096
    ·rw [if_pos c6] at H
     have c6b0 : decide (4096 < (l0.length : Int)) = true := decide_eq_true c6
     have c6b1 : decide (4096 < l0.length) = true := decide_eq_true (by omega)
     clear c6
     simp only [Option.some.injEq, Prod.mk.injEq] at H
     obtain ⟨rfl, rfl, rfl⟩ := H
     go_wp2
     repeat (go_quiet (fail); try go_wp2)
     go_ret3
     exact ⟨_, by first | rfl | (simp [errW_none, errW_some] <;> rfl) | (simp [*, errW_none, errW_some] <;> rfl), by first | exact Kd.S_nil _ _ _ _ _ | exact Kd.N_nil _ _ _ _ _ | exact Kd.V_nil _ _ _ _ _ | exact Kd.Q_nil _ _ _ _ _ | exact Kd.R_nil _ _ _ _ _, by repeat (first | (with_reducible first | exact HB.out | apply below_alloc | apply pw_below_drewN | apply below_drew1) | exact HB.out)⟩
    ·rw [if_neg c6] at H
     have c6b0 : decide (4096 < (l0.length : Int)) = false := decide_eq_false c6
     have c6b1 : decide (4096 < l0.length) = false := decide_eq_false (by omega)
     clear c6
     have H' := Aside0.mk H
     clear H
     go_wp2
     repeat (go_quiet (fail); try go_wp2)
     go_loopg [7, 8] kj2 (fun kq v7 v8 w' => ∃ (x7_2 : List (S98)) (x8_2 : Int), v8 = .int .i64 x8_2 ∧ Aside0 (barscanref16_Best.l0 kq l0 a1 x7_2 x8_2 = some (r1, r2, r3)) ∧ Aside0 (kq ≤ kj2) ∧ Aside0 (Kd.R k98 98 w' w.heap.size (fun _ => True) v7 x7_2) ∧ Aside0 (Below w.heap.size w w'))
     case atStart => exact ⟨(([] : List (S98))), (0), (by first | rfl | (simp; done) | (simp [*]; done)), H', ⟨Nat.le_refl _⟩, ⟨by first | exact Kd.R_nil _ _ _ _ _ | exact Kd.N_nil _ _ _ _ _ | exact Kd.V_nil _ _ _ _ _ | exact Kd.Q_nil _ _ _ _ _ | exact Kd.S_nil _ _ _ _ _⟩, ⟨by repeat (first | (with_reducible first | exact HB.out | apply below_alloc | apply pw_below_drewN | apply below_drew1) | exact HB.out)⟩⟩
     case round =>
      clear H'
      try clear p2
      try clear c4
      try clear c4b0
      try clear c5
      try clear c6
      try clear c6b0
      try clear c6b1
      try clear p2
      obtain ⟨x7_2, x8_2, rfl, HA, HK2, HO_7, HB⟩ := hrel
      cases gk with
      | zero => exact absurd HA.out (by simp [barscanref16_Best.l0])
      | succ k2 =>
       have H := HA.out
       clear HA
       simp only [barscanref16_Best.l0] at H
       by_cases c7 : x8_2 ≤ (l0.length : Int)
       ·rw [if_pos c7] at H
        have c7b0 : decide (x8_2 ≤ (l0.length : Int)) = true := decide_eq_true c7
        clear c7
        by_cases c8 : x7_2.length < 4398046511104
        ·rw [if_pos c8] at H
         have LMc8 := Aside0.mk c8
         clear c8
         obtain ⟨y208, hy208⟩ : ∃ y_ : List (S98), y_ = (x7_2 ++ [(⟨0, 0, 0, 0⟩ : S98)]) := ⟨_, rfl⟩
         replace H : (barscanref16_Best.l0 k2 l0 a1 y208 (wrap64 (x8_2 + 1))) = some (r1, r2, r3) := by first | (rw [hy208]; with_reducible exact H) | (have H2_ := (Option.bind_some _ _).symm.trans H; rw [hy208]; with_reducible exact H2_) | (have H2_ := (Option.bind_some _ _).symm.trans H; with_reducible exact H2_) | with_reducible exact H | (rw [hy208]; exact H) | exact H
         have Ny208 := Aside0.mk hy208
         clear hy208
         have H' := Aside0.mk H
         clear H
         go_wp2_with (first | ((with_reducible refine gate_builtin (b := .append) (xs := #[.tmp 28, .tmp 30]) rfl ?_); at_builtin; refine Kd.R_append k98 (w0 := w) w.heap.size rfl (.tmp 28) (.tmp 30) 96 98 (.agg #[(.int .i64 0), (.int .i64 0), (.int .i64 0), (.int .i64 0)]) 32 rfl Try.underlying96 info98 rfl (by decide) (by omega) u7 x7_2 (⟨0, 0, 0, 0⟩ : S98) [.int .i64 0, .int .i64 0, .int .i64 0, .int .i64 0] (fun _ => True) (fun _ => False) rfl rfl ?aP (fun _ hk => hk.elim) ?aF ?aO ?aB ?aS ?aL ?_; (case aP => exact k98_mkM _ _ _ (⟨0, 0, 0, 0⟩ : S98)); (case aB => exact (by repeat (first | (with_reducible first | exact HB.out | apply below_alloc | apply pw_below_drewN | apply below_drew1) | exact HB.out))); (case aF => exact (fun _ _ => trivial)); (case aO => exact (by (with_reducible repeat (first | apply Kd.R_alloc | apply Kd.R_drewN | apply Kd.R_drew)); exact HO_7.out)); (case aS => exact (below_size (by repeat (first | (with_reducible first | exact HB.out | apply below_alloc | apply pw_below_drewN | apply below_drew1) | exact HB.out)))); (case aL => have := LMc8.out; omega); intro v209 w9 ho hb hg hat; rw [← Ny208.out] at ho; have n0_ := Aside0.mk (hb); have n1_ := Aside0.mk (ho); clear HB; clear HO_7; have HB := n0_; have HO210 := n1_; clear n0_ n1_; clear ho hb hg hat))
         repeat (go_quiet (first | ((with_reducible refine gate_builtin (b := .append) (xs := #[.tmp 28, .tmp 30]) rfl ?_); at_builtin; refine Kd.R_append k98 (w0 := w) w.heap.size rfl (.tmp 28) (.tmp 30) 96 98 (.agg #[(.int .i64 0), (.int .i64 0), (.int .i64 0), (.int .i64 0)]) 32 rfl Try.underlying96 info98 rfl (by decide) (by omega) u7 x7_2 (⟨0, 0, 0, 0⟩ : S98) [.int .i64 0, .int .i64 0, .int .i64 0, .int .i64 0] (fun _ => True) (fun _ => False) rfl rfl ?aP (fun _ hk => hk.elim) ?aF ?aO ?aB ?aS ?aL ?_; (case aP => exact k98_mkM _ _ _ (⟨0, 0, 0, 0⟩ : S98)); (case aB => exact (by repeat (first | (with_reducible first | exact HB.out | apply below_alloc | apply pw_below_drewN | apply below_drew1) | exact HB.out))); (case aF => exact (fun _ _ => trivial)); (case aO => exact (by (with_reducible repeat (first | apply Kd.R_alloc | apply Kd.R_drewN | apply Kd.R_drew)); exact HO_7.out)); (case aS => exact (below_size (by repeat (first | (with_reducible first | exact HB.out | apply below_alloc | apply pw_below_drewN | apply below_drew1) | exact HB.out)))); (case aL => have := LMc8.out; omega); intro v209 w9 ho hb hg hat; rw [← Ny208.out] at ho; have n0_ := Aside0.mk (hb); have n1_ := Aside0.mk (ho); clear HB; clear HO_7; have HB := n0_; have HO210 := n1_; clear n0_ n1_; clear ho hb hg hat)); try go_wp2_with (first | ((with_reducible refine gate_builtin (b := .append) (xs := #[.tmp 28, .tmp 30]) rfl ?_); at_builtin; refine Kd.R_append k98 (w0 := w) w.heap.size rfl (.tmp 28) (.tmp 30) 96 98 (.agg #[(.int .i64 0), (.int .i64 0), (.int .i64 0), (.int .i64 0)]) 32 rfl Try.underlying96 info98 rfl (by decide) (by omega) u7 x7_2 (⟨0, 0, 0, 0⟩ : S98) [.int .i64 0, .int .i64 0, .int .i64 0, .int .i64 0] (fun _ => True) (fun _ => False) rfl rfl ?aP (fun _ hk => hk.elim) ?aF ?aO ?aB ?aS ?aL ?_; (case aP => exact k98_mkM _ _ _ (⟨0, 0, 0, 0⟩ : S98)); (case aB => exact (by repeat (first | (with_reducible first | exact HB.out | apply below_alloc | apply pw_below_drewN | apply below_drew1) | exact HB.out))); (case aF => exact (fun _ _ => trivial)); (case aO => exact (by (with_reducible repeat (first | apply Kd.R_alloc | apply Kd.R_drewN | apply Kd.R_drew)); exact HO_7.out)); (case aS => exact (below_size (by repeat (first | (with_reducible first | exact HB.out | apply below_alloc | apply pw_below_drewN | apply below_drew1) | exact HB.out)))); (case aL => have := LMc8.out; omega); intro v209 w9 ho hb hg hat; rw [← Ny208.out] at ho; have n0_ := Aside0.mk (hb); have n1_ := Aside0.mk (ho); clear HB; clear HO_7; have HB := n0_; have HO210 := n1_; clear n0_ n1_; clear ho hb hg hat)))
         go_roundg k2
         case measure => have := HJ2.out; have := HK2.out; omega
         case rel => exact ⟨(y208), (wrap64 (x8_2 + 1)), (by first | rfl | (simp; done) | (simp [*]; done)), H', ⟨by have := HJ2.out; have := HK2.out; omega⟩, ⟨by (with_reducible repeat (first | apply Kd.R_alloc | apply Kd.R_drewN | apply Kd.R_drew)); exact HO210.out⟩, ⟨by repeat (first | (with_reducible first | exact HB.out | apply below_alloc | apply pw_below_drewN | apply below_drew1) | exact HB.out)⟩⟩
        ·rw [if_neg c8] at H
         exact absurd H (by simp)
       ·rw [if_neg c7] at H
        have c7b0 : decide (x8_2 ≤ (l0.length : Int)) = false := decide_eq_false c7
        clear c7
        have H' := Aside0.mk H
        clear H
        go_wp2
        repeat (go_quiet (fail); try go_wp2)
        go_loopg [9] k2 (fun kq v9 w' => ∃ (x7_3 : List (S98)) (x9_3 : Int), v9 = .int .i64 x9_3 ∧ Aside0 (barscanref16_Best.l1 kq l0 a1 x7_3 x9_3 = some (r1, r2, r3)) ∧ Aside0 (kq ≤ k2) ∧ Aside0 (Kd.R k98 98 w' w.heap.size (fun _ => True) u7 x7_3) ∧ Aside0 (Below w.heap.size w w'))
        case atStart => exact ⟨(x7_2), (wrap64 ((l0.length : Int) - 1)), (by first | rfl | (simp; done) | (simp [*]; done)), H', ⟨Nat.le_refl _⟩, ⟨by (with_reducible repeat (first | apply Kd.R_alloc | apply Kd.R_drewN | apply Kd.R_drew)); exact HO_7.out⟩, ⟨by repeat (first | (with_reducible first | exact HB.out | apply below_alloc | apply pw_below_drewN | apply below_drew1) | exact HB.out)⟩⟩
        case round =>
         clear H'
         try clear p2
         try clear c4
         try clear c4b0
         try clear c5
         try clear c6
         try clear c6b0
         try clear c6b1
         try clear p6
         try clear c7
         try clear c7b0
         try clear c8
         try clear p2
         obtain ⟨x7_3, x9_3, rfl, HA, HK3, HO_7, HB⟩ := hrel
         cases gk with
         | zero => exact absurd HA.out (by simp [barscanref16_Best.l1])
         | succ k3 =>
          have H := HA.out
          clear HA
          simp only [barscanref16_Best.l1] at H
          by_cases c10 : x9_3 ≥ 0
          ·rw [if_pos c10] at H
           have c10b0 : decide (0 ≤ x9_3) = true := decide_eq_true c10
           clear c10
           replace H := Option.bind_eq_some_iff.mp H
           obtain ⟨⟨t211, t212, t213, t214⟩, A110, H⟩ := H
           replace H : (if 0 ≤ x9_3 then (if x9_3 < (x7_3.length : Int) then (barscanref16_Best.l1 k3 l0 a1 (x7_3.set (x9_3 : Int).toNat (⟨t211, t212, t213, t214⟩ : S98)) (wrap64 (x9_3 - 1))) else (none)) else (none)) = some (r1, r2, r3) := H
           have A11 := Aside0.mk A110
           clear A110
           by_cases c12 : 0 ≤ x9_3
           ·rw [if_pos c12] at H
            have c12b0 : decide (0 ≤ x9_3) = true := decide_eq_true c12
            clear c12
            by_cases c13 : x9_3 < (x7_3.length : Int)
            ·rw [if_pos c13] at H
             have c13b0 : decide (x9_3 < (x7_3.length : Int)) = true := decide_eq_true c13
             clear c13
             obtain ⟨y215, hy215⟩ : ∃ y_ : List (S98), y_ = (x7_3.set (x9_3 : Int).toNat (⟨t211, t212, t213, t214⟩ : S98)) := ⟨_, rfl⟩
             replace H : (barscanref16_Best.l1 k3 l0 a1 y215 (wrap64 (x9_3 - 1))) = some (r1, r2, r3) := by first | (rw [hy215]; with_reducible exact H) | (have H2_ := (Option.bind_some _ _).symm.trans H; rw [hy215]; with_reducible exact H2_) | (have H2_ := (Option.bind_some _ _).symm.trans H; with_reducible exact H2_) | with_reducible exact H | (rw [hy215]; exact H) | exact H
             have Ny215 := Aside0.mk hy215
             clear hy215
             have H' := Aside0.mk H
             clear H
             obtain ⟨Ao15, co15, eo15⟩ := Kd.R_slice HO_7.out
             subst eo15
             go_wp2_with (first | (go_at_call 61; (with_reducible refine (barscanref16_first.calls k3 _ _ l0 x9_3 a1 _ _ x7_3 t211 t212 t213 t214 _ ?side1 ?side2 ?side3 ?side4 A11.out).mono ?_); (case side1 => repeat (first | exact (Kd.C_below HR0.out HB.out) | (with_reducible refine Kd.C_alloc ?_ _) | (with_reducible refine Kd.C_drewN ?_ _) | (with_reducible refine Kd.C_drew ?_))); (case side2 => exact HC0.out); (case side3 => repeat (first | exact (Kd.R_reads' HO_7.out).2.2 | (with_reducible refine Kd.C_alloc ?_ _) | (with_reducible refine Kd.C_drewN ?_ _) | (with_reducible refine Kd.C_drew ?_))); (case side4 => exact (Kd.R_reads' HO_7.out).2.1); rintro e w16 ⟨rfl, hb⟩; have n0_ := Aside0.mk (Kd.R_below (by (with_reducible repeat (first | apply Kd.R_alloc | apply Kd.R_drewN | apply Kd.R_drew)); exact HO_7.out) hb); have n1_ := Aside0.mk (below_step (by repeat (first | (with_reducible first | exact HB.out | apply below_alloc | apply pw_below_drewN | apply below_drew1) | exact HB.out)) hb); clear HO_7; clear HB; have HO_7 := n0_; have HB := n1_; clear n0_ n1_; (try clear hb); (try clear hb2); (try clear hk); (try clear hi); have p14 : 0 ≤ (x9_3 : Int) := of_decide_eq_true (by first | (with_reducible assumption) | assumption); have q14 : (x9_3 : Int) < ((x7_3.length : Int) : Int) := of_decide_eq_true (by first | (with_reducible assumption) | assumption); obtain ⟨go14, co14, eo14, gb14, gl14, cl14, HG14⟩ := Kd.R_form HO_7.out (by omega); (first | cases eo14 | (injection eo14 with ea_ en_ ec_; (first | subst ea_ | (injection ea_ with ea_; subst ea_)); subst ec_; clear en_)); have GB14 := Aside0.mk gb14; have GG14 := Aside0.mk HG14; clear gb14 gl14 HG14; obtain ⟨ce14, hcl14, hM14, hcc14, hfr14⟩ := Kd.R_elem HO_7.out z98 (x9_3 : Int) p14 q14; obtain rfl := k98_openM hM14; have hx14_0 : w16.cell? ⟨go14, (x9_3 : Int).toNat * 4, none⟩ = some (.int .i64 ((rd_T98 x7_3 x9_3).f0)) := hcc14 0 _ rfl; have hx14_1 : w16.cell? ⟨go14, (x9_3 : Int).toNat * 4 + 1, none⟩ = some (.int .i64 ((rd_T98 x7_3 x9_3).f1)) := hcc14 1 _ rfl; have hx14_2 : w16.cell? ⟨go14, (x9_3 : Int).toNat * 4 + 2, none⟩ = some (.int .i64 ((rd_T98 x7_3 x9_3).f2)) := hcc14 2 _ rfl; have hx14_3 : w16.cell? ⟨go14, (x9_3 : Int).toNat * 4 + 3, none⟩ = some (.int .i64 ((rd_T98 x7_3 x9_3).f3)) := hcc14 3 _ rfl; have hf14_0 : w16.frozen? ⟨go14, (x9_3 : Int).toNat * 4, none⟩ = false := hfr14 0; have hf14_1 : w16.frozen? ⟨go14, (x9_3 : Int).toNat * 4 + 1, none⟩ = false := hfr14 1; have hf14_2 : w16.frozen? ⟨go14, (x9_3 : Int).toNat * 4 + 2, none⟩ = false := hfr14 2; have hf14_3 : w16.frozen? ⟨go14, (x9_3 : Int).toNat * 4 + 3, none⟩ = false := hfr14 3; clear hcl14 hcc14 hfr14 hM14; replace p14 := eq_true p14; replace q14 := eq_true q14; have HX17 := Aside0.mk (show Kd.R k98 98 w16 w.heap.size (fun _ => True) (.slice (some ⟨go14, 0, none⟩) x7_3.length co15) x7_3 from (by (with_reducible repeat (first | apply Kd.R_alloc | apply Kd.R_drewN | apply Kd.R_drew)); exact HO_7.out)); obtain ⟨ce17, hcl17, hM17, hcc17, hfr17⟩ := Kd.R_elem HX17.out z98 (x9_3 : Int) (of_decide_eq_true (by first | (with_reducible assumption) | assumption)) (by have h_ : (x9_3 : Int) < ((x7_3.length : Int) : Int) := of_decide_eq_true (by first | (with_reducible assumption) | assumption); first | exact h_ | (have e_ := (Kd.R_reads' HO_7.out).1; omega) | simpa using h_); obtain rfl := k98_openM hM17; have HP17 := Kd.R_seg HX17.out (x9_3 : Int) (of_decide_eq_true (by first | (with_reducible assumption) | assumption)) (by have h_ : (x9_3 : Int) < ((x7_3.length : Int) : Int) := of_decide_eq_true (by first | (with_reducible assumption) | assumption); first | exact h_ | (have e_ := (Kd.R_reads' HO_7.out).1; omega) | simpa using h_) (seg := [.int .i64 t211, .int .i64 t212, .int .i64 t213, .int .i64 t214]) (j := 0) hcl17 hcc17 (show 4 ≤ 4 from by decide) (x' := (⟨t211, t212, t213, t214⟩ : S98)) (k98_mkM _ _ _ (⟨t211, t212, t213, t214⟩ : S98) ) (fun _ hk => hk); have hx17_0 := hcc17 0 _ rfl; (try simp only [show (k98).sz = 4 from rfl, Nat.mul_one, Nat.add_zero] at hx17_0); have hf17_0 := hfr17 0; (try simp only [show (k98).sz = 4 from rfl, Nat.mul_one, Nat.add_zero] at hf17_0); have hx17_1 := hcc17 1 _ rfl; (try simp only [show (k98).sz = 4 from rfl, Nat.mul_one, Nat.add_zero] at hx17_1); have hf17_1 := hfr17 1; (try simp only [show (k98).sz = 4 from rfl, Nat.mul_one, Nat.add_zero] at hf17_1); have hx17_2 := hcc17 2 _ rfl; (try simp only [show (k98).sz = 4 from rfl, Nat.mul_one, Nat.add_zero] at hx17_2); have hf17_2 := hfr17 2; (try simp only [show (k98).sz = 4 from rfl, Nat.mul_one, Nat.add_zero] at hf17_2); have hx17_3 := hcc17 3 _ rfl; (try simp only [show (k98).sz = 4 from rfl, Nat.mul_one, Nat.add_zero] at hx17_3); have hf17_3 := hfr17 3; (try simp only [show (k98).sz = 4 from rfl, Nat.mul_one, Nat.add_zero] at hf17_3); clear hcl17 hcc17 hfr17 hM17) | ((with_reducible refine gate_store (t := 98) (p := 46) rfl ?_); (try (rw [drewN_self w16]; generalize hq_ : World.drewN w16 _ = w16; have n0_ := Aside0.mk (Kd.R_at hq_ HO_7.out); have n1_ := Aside0.mk (below_at hq_ HB.out); clear hq_ HO_7 HB; have HO_7 := n0_; have HB := n1_; clear n0_ n1_; (try (have HX17 := Aside0.mk (show Kd.R k98 98 w16 w.heap.size (fun _ => True) (.slice (some ⟨go14, 0, none⟩) x7_3.length co15) x7_3 from (by (with_reducible repeat (first | apply Kd.R_alloc | apply Kd.R_drewN | apply Kd.R_drew)); exact HO_7.out)))); (try (obtain ⟨ce17, hcl17, hM17, hcc17, hfr17⟩ := Kd.R_elem HX17.out z98 (x9_3 : Int) (of_decide_eq_true (by first | (with_reducible assumption) | assumption)) (by have h_ : (x9_3 : Int) < ((x7_3.length : Int) : Int) := of_decide_eq_true (by first | (with_reducible assumption) | assumption); first | exact h_ | (have e_ := (Kd.R_reads' HO_7.out).1; omega) | simpa using h_))); (try (obtain rfl := k98_openM hM17)); (try (have HP17 := Kd.R_seg HX17.out (x9_3 : Int) (of_decide_eq_true (by first | (with_reducible assumption) | assumption)) (by have h_ : (x9_3 : Int) < ((x7_3.length : Int) : Int) := of_decide_eq_true (by first | (with_reducible assumption) | assumption); first | exact h_ | (have e_ := (Kd.R_reads' HO_7.out).1; omega) | simpa using h_) (seg := [.int .i64 t211, .int .i64 t212, .int .i64 t213, .int .i64 t214]) (j := 0) hcl17 hcc17 (show 4 ≤ 4 from by decide) (x' := (⟨t211, t212, t213, t214⟩ : S98)) (k98_mkM _ _ _ (⟨t211, t212, t213, t214⟩ : S98) ) (fun _ hk => hk))); (try (have hx17_0 := hcc17 0 _ rfl)); (try (try simp only [show (k98).sz = 4 from rfl, Nat.mul_one, Nat.add_zero] at hx17_0)); (try (have hf17_0 := hfr17 0)); (try (try simp only [show (k98).sz = 4 from rfl, Nat.mul_one, Nat.add_zero] at hf17_0)); (try (have hx17_1 := hcc17 1 _ rfl)); (try (try simp only [show (k98).sz = 4 from rfl, Nat.mul_one, Nat.add_zero] at hx17_1)); (try (have hf17_1 := hfr17 1)); (try (try simp only [show (k98).sz = 4 from rfl, Nat.mul_one, Nat.add_zero] at hf17_1)); (try (have hx17_2 := hcc17 2 _ rfl)); (try (try simp only [show (k98).sz = 4 from rfl, Nat.mul_one, Nat.add_zero] at hx17_2)); (try (have hf17_2 := hfr17 2)); (try (try simp only [show (k98).sz = 4 from rfl, Nat.mul_one, Nat.add_zero] at hf17_2)); (try (have hx17_3 := hcc17 3 _ rfl)); (try (try simp only [show (k98).sz = 4 from rfl, Nat.mul_one, Nat.add_zero] at hx17_3)); (try (have hf17_3 := hfr17 3)); (try (try simp only [show (k98).sz = 4 from rfl, Nat.mul_one, Nat.add_zero] at hf17_3)); (try (clear hcl17 hcc17 hfr17 hM17)))); refine store_event (t := 98) (p := 46) (v := ?vo_w18) (w1 := ((((w16.setCell ⟨go14, (x9_3 : Int).toNat * 4, none⟩ (.int .i64 t211)).setCell ⟨go14, (x9_3 : Int).toNat * 4 + 1, none⟩ (.int .i64 t212)).setCell ⟨go14, (x9_3 : Int).toNat * 4 + 2, none⟩ (.int .i64 t213)).setCell ⟨go14, (x9_3 : Int).toNat * 4 + 3, none⟩ (.int .i64 t214))) ?hg ?ho ?hn ?hr ?_; (case ho => rfl); (case hg => rfl); (case hn => rfl); (case hr => first | (go_simp; done) | (go_simp; rfl)); intro w18 hw; have hg : w16.grownBy w18 (some go14) := (by rw [hw]; exact HP17.2); have hp_ : Kd.R k98 98 w18 w.heap.size (fun _ => True) (.slice (some ⟨go14, 0, none⟩) x7_3.length co15) y215 := (by rw [hw, Ny215.out]; exact HP17.1); clear HP17; have n0_ := Aside0.mk (hp_); have n1_ := Aside0.mk ((by rw [hw]; exact below_set (below_set (below_set (below_set (HB.out) GB14.out) GB14.out) GB14.out) GB14.out : Below w.heap.size w w18)); clear HO_7; clear HB; have HO_7 := n0_; have HB := n1_; clear n0_ n1_; clear hg hw hp_))
             repeat (go_quiet (first | (go_at_call 61; (with_reducible refine (barscanref16_first.calls k3 _ _ l0 x9_3 a1 _ _ x7_3 t211 t212 t213 t214 _ ?side1 ?side2 ?side3 ?side4 A11.out).mono ?_); (case side1 => repeat (first | exact (Kd.C_below HR0.out HB.out) | (with_reducible refine Kd.C_alloc ?_ _) | (with_reducible refine Kd.C_drewN ?_ _) | (with_reducible refine Kd.C_drew ?_))); (case side2 => exact HC0.out); (case side3 => repeat (first | exact (Kd.R_reads' HO_7.out).2.2 | (with_reducible refine Kd.C_alloc ?_ _) | (with_reducible refine Kd.C_drewN ?_ _) | (with_reducible refine Kd.C_drew ?_))); (case side4 => exact (Kd.R_reads' HO_7.out).2.1); rintro e w16 ⟨rfl, hb⟩; have n0_ := Aside0.mk (Kd.R_below (by (with_reducible repeat (first | apply Kd.R_alloc | apply Kd.R_drewN | apply Kd.R_drew)); exact HO_7.out) hb); have n1_ := Aside0.mk (below_step (by repeat (first | (with_reducible first | exact HB.out | apply below_alloc | apply pw_below_drewN | apply below_drew1) | exact HB.out)) hb); clear HO_7; clear HB; have HO_7 := n0_; have HB := n1_; clear n0_ n1_; (try clear hb); (try clear hb2); (try clear hk); (try clear hi); have p14 : 0 ≤ (x9_3 : Int) := of_decide_eq_true (by first | (with_reducible assumption) | assumption); have q14 : (x9_3 : Int) < ((x7_3.length : Int) : Int) := of_decide_eq_true (by first | (with_reducible assumption) | assumption); obtain ⟨go14, co14, eo14, gb14, gl14, cl14, HG14⟩ := Kd.R_form HO_7.out (by omega); (first | cases eo14 | (injection eo14 with ea_ en_ ec_; (first | subst ea_ | (injection ea_ with ea_; subst ea_)); subst ec_; clear en_)); have GB14 := Aside0.mk gb14; have GG14 := Aside0.mk HG14; clear gb14 gl14 HG14; obtain ⟨ce14, hcl14, hM14, hcc14, hfr14⟩ := Kd.R_elem HO_7.out z98 (x9_3 : Int) p14 q14; obtain rfl := k98_openM hM14; have hx14_0 : w16.cell? ⟨go14, (x9_3 : Int).toNat * 4, none⟩ = some (.int .i64 ((rd_T98 x7_3 x9_3).f0)) := hcc14 0 _ rfl; have hx14_1 : w16.cell? ⟨go14, (x9_3 : Int).toNat * 4 + 1, none⟩ = some (.int .i64 ((rd_T98 x7_3 x9_3).f1)) := hcc14 1 _ rfl; have hx14_2 : w16.cell? ⟨go14, (x9_3 : Int).toNat * 4 + 2, none⟩ = some (.int .i64 ((rd_T98 x7_3 x9_3).f2)) := hcc14 2 _ rfl; have hx14_3 : w16.cell? ⟨go14, (x9_3 : Int).toNat * 4 + 3, none⟩ = some (.int .i64 ((rd_T98 x7_3 x9_3).f3)) := hcc14 3 _ rfl; have hf14_0 : w16.frozen? ⟨go14, (x9_3 : Int).toNat * 4, none⟩ = false := hfr14 0; have hf14_1 : w16.frozen? ⟨go14, (x9_3 : Int).toNat * 4 + 1, none⟩ = false := hfr14 1; have hf14_2 : w16.frozen? ⟨go14, (x9_3 : Int).toNat * 4 + 2, none⟩ = false := hfr14 2; have hf14_3 : w16.frozen? ⟨go14, (x9_3 : Int).toNat * 4 + 3, none⟩ = false := hfr14 3; clear hcl14 hcc14 hfr14 hM14; replace p14 := eq_true p14; replace q14 := eq_true q14; have HX17 := Aside0.mk (show Kd.R k98 98 w16 w.heap.size (fun _ => True) (.slice (some ⟨go14, 0, none⟩) x7_3.length co15) x7_3 from (by (with_reducible repeat (first | apply Kd.R_alloc | apply Kd.R_drewN | apply Kd.R_drew)); exact HO_7.out)); obtain ⟨ce17, hcl17, hM17, hcc17, hfr17⟩ := Kd.R_elem HX17.out z98 (x9_3 : Int) (of_decide_eq_true (by first | (with_reducible assumption) | assumption)) (by have h_ : (x9_3 : Int) < ((x7_3.length : Int) : Int) := of_decide_eq_true (by first | (with_reducible assumption) | assumption); first | exact h_ | (have e_ := (Kd.R_reads' HO_7.out).1; omega) | simpa using h_); obtain rfl := k98_openM hM17; have HP17 := Kd.R_seg HX17.out (x9_3 : Int) (of_decide_eq_true (by first | (with_reducible assumption) | assumption)) (by have h_ : (x9_3 : Int) < ((x7_3.length : Int) : Int) := of_decide_eq_true (by first | (with_reducible assumption) | assumption); first | exact h_ | (have e_ := (Kd.R_reads' HO_7.out).1; omega) | simpa using h_) (seg := [.int .i64 t211, .int .i64 t212, .int .i64 t213, .int .i64 t214]) (j := 0) hcl17 hcc17 (show 4 ≤ 4 from by decide) (x' := (⟨t211, t212, t213, t214⟩ : S98)) (k98_mkM _ _ _ (⟨t211, t212, t213, t214⟩ : S98) ) (fun _ hk => hk); have hx17_0 := hcc17 0 _ rfl; (try simp only [show (k98).sz = 4 from rfl, Nat.mul_one, Nat.add_zero] at hx17_0); have hf17_0 := hfr17 0; (try simp only [show (k98).sz = 4 from rfl, Nat.mul_one, Nat.add_zero] at hf17_0); have hx17_1 := hcc17 1 _ rfl; (try simp only [show (k98).sz = 4 from rfl, Nat.mul_one, Nat.add_zero] at hx17_1); have hf17_1 := hfr17 1; (try simp only [show (k98).sz = 4 from rfl, Nat.mul_one, Nat.add_zero] at hf17_1); have hx17_2 := hcc17 2 _ rfl; (try simp only [show (k98).sz = 4 from rfl, Nat.mul_one, Nat.add_zero] at hx17_2); have hf17_2 := hfr17 2; (try simp only [show (k98).sz = 4 from rfl, Nat.mul_one, Nat.add_zero] at hf17_2); have hx17_3 := hcc17 3 _ rfl; (try simp only [show (k98).sz = 4 from rfl, Nat.mul_one, Nat.add_zero] at hx17_3); have hf17_3 := hfr17 3; (try simp only [show (k98).sz = 4 from rfl, Nat.mul_one, Nat.add_zero] at hf17_3); clear hcl17 hcc17 hfr17 hM17) | ((with_reducible refine gate_store (t := 98) (p := 46) rfl ?_); (try (rw [drewN_self w16]; generalize hq_ : World.drewN w16 _ = w16; have n0_ := Aside0.mk (Kd.R_at hq_ HO_7.out); have n1_ := Aside0.mk (below_at hq_ HB.out); clear hq_ HO_7 HB; have HO_7 := n0_; have HB := n1_; clear n0_ n1_; (try (have HX17 := Aside0.mk (show Kd.R k98 98 w16 w.heap.size (fun _ => True) (.slice (some ⟨go14, 0, none⟩) x7_3.length co15) x7_3 from (by (with_reducible repeat (first | apply Kd.R_alloc | apply Kd.R_drewN | apply Kd.R_drew)); exact HO_7.out)))); (try (obtain ⟨ce17, hcl17, hM17, hcc17, hfr17⟩ := Kd.R_elem HX17.out z98 (x9_3 : Int) (of_decide_eq_true (by first | (with_reducible assumption) | assumption)) (by have h_ : (x9_3 : Int) < ((x7_3.length : Int) : Int) := of_decide_eq_true (by first | (with_reducible assumption) | assumption); first | exact h_ | (have e_ := (Kd.R_reads' HO_7.out).1; omega) | simpa using h_))); (try (obtain rfl := k98_openM hM17)); (try (have HP17 := Kd.R_seg HX17.out (x9_3 : Int) (of_decide_eq_true (by first | (with_reducible assumption) | assumption)) (by have h_ : (x9_3 : Int) < ((x7_3.length : Int) : Int) := of_decide_eq_true (by first | (with_reducible assumption) | assumption); first | exact h_ | (have e_ := (Kd.R_reads' HO_7.out).1; omega) | simpa using h_) (seg := [.int .i64 t211, .int .i64 t212, .int .i64 t213, .int .i64 t214]) (j := 0) hcl17 hcc17 (show 4 ≤ 4 from by decide) (x' := (⟨t211, t212, t213, t214⟩ : S98)) (k98_mkM _ _ _ (⟨t211, t212, t213, t214⟩ : S98) ) (fun _ hk => hk))); (try (have hx17_0 := hcc17 0 _ rfl)); (try (try simp only [show (k98).sz = 4 from rfl, Nat.mul_one, Nat.add_zero] at hx17_0)); (try (have hf17_0 := hfr17 0)); (try (try simp only [show (k98).sz = 4 from rfl, Nat.mul_one, Nat.add_zero] at hf17_0)); (try (have hx17_1 := hcc17 1 _ rfl)); (try (try simp only [show (k98).sz = 4 from rfl, Nat.mul_one, Nat.add_zero] at hx17_1)); (try (have hf17_1 := hfr17 1)); (try (try simp only [show (k98).sz = 4 from rfl, Nat.mul_one, Nat.add_zero] at hf17_1)); (try (have hx17_2 := hcc17 2 _ rfl)); (try (try simp only [show (k98).sz = 4 from rfl, Nat.mul_one, Nat.add_zero] at hx17_2)); (try (have hf17_2 := hfr17 2)); (try (try simp only [show (k98).sz = 4 from rfl, Nat.mul_one, Nat.add_zero] at hf17_2)); (try (have hx17_3 := hcc17 3 _ rfl)); (try (try simp only [show (k98).sz = 4 from rfl, Nat.mul_one, Nat.add_zero] at hx17_3)); (try (have hf17_3 := hfr17 3)); (try (try simp only [show (k98).sz = 4 from rfl, Nat.mul_one, Nat.add_zero] at hf17_3)); (try (clear hcl17 hcc17 hfr17 hM17)))); refine store_event (t := 98) (p := 46) (v := ?vo_w18) (w1 := ((((w16.setCell ⟨go14, (x9_3 : Int).toNat * 4, none⟩ (.int .i64 t211)).setCell ⟨go14, (x9_3 : Int).toNat * 4 + 1, none⟩ (.int .i64 t212)).setCell ⟨go14, (x9_3 : Int).toNat * 4 + 2, none⟩ (.int .i64 t213)).setCell ⟨go14, (x9_3 : Int).toNat * 4 + 3, none⟩ (.int .i64 t214))) ?hg ?ho ?hn ?hr ?_; (case ho => rfl); (case hg => rfl); (case hn => rfl); (case hr => first | (go_simp; done) | (go_simp; rfl)); intro w18 hw; have hg : w16.grownBy w18 (some go14) := (by rw [hw]; exact HP17.2); have hp_ : Kd.R k98 98 w18 w.heap.size (fun _ => True) (.slice (some ⟨go14, 0, none⟩) x7_3.length co15) y215 := (by rw [hw, Ny215.out]; exact HP17.1); clear HP17; have n0_ := Aside0.mk (hp_); have n1_ := Aside0.mk ((by rw [hw]; exact below_set (below_set (below_set (below_set (HB.out) GB14.out) GB14.out) GB14.out) GB14.out : Below w.heap.size w w18)); clear HO_7; clear HB; have HO_7 := n0_; have HB := n1_; clear n0_ n1_; clear hg hw hp_)); try go_wp2_with (first | (go_at_call 61; (with_reducible refine (barscanref16_first.calls k3 _ _ l0 x9_3 a1 _ _ x7_3 t211 t212 t213 t214 _ ?side1 ?side2 ?side3 ?side4 A11.out).mono ?_); (case side1 => repeat (first | exact (Kd.C_below HR0.out HB.out) | (with_reducible refine Kd.C_alloc ?_ _) | (with_reducible refine Kd.C_drewN ?_ _) | (with_reducible refine Kd.C_drew ?_))); (case side2 => exact HC0.out); (case side3 => repeat (first | exact (Kd.R_reads' HO_7.out).2.2 | (with_reducible refine Kd.C_alloc ?_ _) | (with_reducible refine Kd.C_drewN ?_ _) | (with_reducible refine Kd.C_drew ?_))); (case side4 => exact (Kd.R_reads' HO_7.out).2.1); rintro e w16 ⟨rfl, hb⟩; have n0_ := Aside0.mk (Kd.R_below (by (with_reducible repeat (first | apply Kd.R_alloc | apply Kd.R_drewN | apply Kd.R_drew)); exact HO_7.out) hb); have n1_ := Aside0.mk (below_step (by repeat (first | (with_reducible first | exact HB.out | apply below_alloc | apply pw_below_drewN | apply below_drew1) | exact HB.out)) hb); clear HO_7; clear HB; have HO_7 := n0_; have HB := n1_; clear n0_ n1_; (try clear hb); (try clear hb2); (try clear hk); (try clear hi); have p14 : 0 ≤ (x9_3 : Int) := of_decide_eq_true (by first | (with_reducible assumption) | assumption); have q14 : (x9_3 : Int) < ((x7_3.length : Int) : Int) := of_decide_eq_true (by first | (with_reducible assumption) | assumption); obtain ⟨go14, co14, eo14, gb14, gl14, cl14, HG14⟩ := Kd.R_form HO_7.out (by omega); (first | cases eo14 | (injection eo14 with ea_ en_ ec_; (first | subst ea_ | (injection ea_ with ea_; subst ea_)); subst ec_; clear en_)); have GB14 := Aside0.mk gb14; have GG14 := Aside0.mk HG14; clear gb14 gl14 HG14; obtain ⟨ce14, hcl14, hM14, hcc14, hfr14⟩ := Kd.R_elem HO_7.out z98 (x9_3 : Int) p14 q14; obtain rfl := k98_openM hM14; have hx14_0 : w16.cell? ⟨go14, (x9_3 : Int).toNat * 4, none⟩ = some (.int .i64 ((rd_T98 x7_3 x9_3).f0)) := hcc14 0 _ rfl; have hx14_1 : w16.cell? ⟨go14, (x9_3 : Int).toNat * 4 + 1, none⟩ = some (.int .i64 ((rd_T98 x7_3 x9_3).f1)) := hcc14 1 _ rfl; have hx14_2 : w16.cell? ⟨go14, (x9_3 : Int).toNat * 4 + 2, none⟩ = some (.int .i64 ((rd_T98 x7_3 x9_3).f2)) := hcc14 2 _ rfl; have hx14_3 : w16.cell? ⟨go14, (x9_3 : Int).toNat * 4 + 3, none⟩ = some (.int .i64 ((rd_T98 x7_3 x9_3).f3)) := hcc14 3 _ rfl; have hf14_0 : w16.frozen? ⟨go14, (x9_3 : Int).toNat * 4, none⟩ = false := hfr14 0; have hf14_1 : w16.frozen? ⟨go14, (x9_3 : Int).toNat * 4 + 1, none⟩ = false := hfr14 1; have hf14_2 : w16.frozen? ⟨go14, (x9_3 : Int).toNat * 4 + 2, none⟩ = false := hfr14 2; have hf14_3 : w16.frozen? ⟨go14, (x9_3 : Int).toNat * 4 + 3, none⟩ = false := hfr14 3; clear hcl14 hcc14 hfr14 hM14; replace p14 := eq_true p14; replace q14 := eq_true q14; have HX17 := Aside0.mk (show Kd.R k98 98 w16 w.heap.size (fun _ => True) (.slice (some ⟨go14, 0, none⟩) x7_3.length co15) x7_3 from (by (with_reducible repeat (first | apply Kd.R_alloc | apply Kd.R_drewN | apply Kd.R_drew)); exact HO_7.out)); obtain ⟨ce17, hcl17, hM17, hcc17, hfr17⟩ := Kd.R_elem HX17.out z98 (x9_3 : Int) (of_decide_eq_true (by first | (with_reducible assumption) | assumption)) (by have h_ : (x9_3 : Int) < ((x7_3.length : Int) : Int) := of_decide_eq_true (by first | (with_reducible assumption) | assumption); first | exact h_ | (have e_ := (Kd.R_reads' HO_7.out).1; omega) | simpa using h_); obtain rfl := k98_openM hM17; have HP17 := Kd.R_seg HX17.out (x9_3 : Int) (of_decide_eq_true (by first | (with_reducible assumption) | assumption)) (by have h_ : (x9_3 : Int) < ((x7_3.length : Int) : Int) := of_decide_eq_true (by first | (with_reducible assumption) | assumption); first | exact h_ | (have e_ := (Kd.R_reads' HO_7.out).1; omega) | simpa using h_) (seg := [.int .i64 t211, .int .i64 t212, .int .i64 t213, .int .i64 t214]) (j := 0) hcl17 hcc17 (show 4 ≤ 4 from by decide) (x' := (⟨t211, t212, t213, t214⟩ : S98)) (k98_mkM _ _ _ (⟨t211, t212, t213, t214⟩ : S98) ) (fun _ hk => hk); have hx17_0 := hcc17 0 _ rfl; (try simp only [show (k98).sz = 4 from rfl, Nat.mul_one, Nat.add_zero] at hx17_0); have hf17_0 := hfr17 0; (try simp only [show (k98).sz = 4 from rfl, Nat.mul_one, Nat.add_zero] at hf17_0); have hx17_1 := hcc17 1 _ rfl; (try simp only [show (k98).sz = 4 from rfl, Nat.mul_one, Nat.add_zero] at hx17_1); have hf17_1 := hfr17 1; (try simp only [show (k98).sz = 4 from rfl, Nat.mul_one, Nat.add_zero] at hf17_1); have hx17_2 := hcc17 2 _ rfl; (try simp only [show (k98).sz = 4 from rfl, Nat.mul_one, Nat.add_zero] at hx17_2); have hf17_2 := hfr17 2; (try simp only [show (k98).sz = 4 from rfl, Nat.mul_one, Nat.add_zero] at hf17_2); have hx17_3 := hcc17 3 _ rfl; (try simp only [show (k98).sz = 4 from rfl, Nat.mul_one, Nat.add_zero] at hx17_3); have hf17_3 := hfr17 3; (try simp only [show (k98).sz = 4 from rfl, Nat.mul_one, Nat.add_zero] at hf17_3); clear hcl17 hcc17 hfr17 hM17) | ((with_reducible refine gate_store (t := 98) (p := 46) rfl ?_); (try (rw [drewN_self w16]; generalize hq_ : World.drewN w16 _ = w16; have n0_ := Aside0.mk (Kd.R_at hq_ HO_7.out); have n1_ := Aside0.mk (below_at hq_ HB.out); clear hq_ HO_7 HB; have HO_7 := n0_; have HB := n1_; clear n0_ n1_; (try (have HX17 := Aside0.mk (show Kd.R k98 98 w16 w.heap.size (fun _ => True) (.slice (some ⟨go14, 0, none⟩) x7_3.length co15) x7_3 from (by (with_reducible repeat (first | apply Kd.R_alloc | apply Kd.R_drewN | apply Kd.R_drew)); exact HO_7.out)))); (try (obtain ⟨ce17, hcl17, hM17, hcc17, hfr17⟩ := Kd.R_elem HX17.out z98 (x9_3 : Int) (of_decide_eq_true (by first | (with_reducible assumption) | assumption)) (by have h_ : (x9_3 : Int) < ((x7_3.length : Int) : Int) := of_decide_eq_true (by first | (with_reducible assumption) | assumption); first | exact h_ | (have e_ := (Kd.R_reads' HO_7.out).1; omega) | simpa using h_))); (try (obtain rfl := k98_openM hM17)); (try (have HP17 := Kd.R_seg HX17.out (x9_3 : Int) (of_decide_eq_true (by first | (with_reducible assumption) | assumption)) (by have h_ : (x9_3 : Int) < ((x7_3.length : Int) : Int) := of_decide_eq_true (by first | (with_reducible assumption) | assumption); first | exact h_ | (have e_ := (Kd.R_reads' HO_7.out).1; omega) | simpa using h_) (seg := [.int .i64 t211, .int .i64 t212, .int .i64 t213, .int .i64 t214]) (j := 0) hcl17 hcc17 (show 4 ≤ 4 from by decide) (x' := (⟨t211, t212, t213, t214⟩ : S98)) (k98_mkM _ _ _ (⟨t211, t212, t213, t214⟩ : S98) ) (fun _ hk => hk))); (try (have hx17_0 := hcc17 0 _ rfl)); (try (try simp only [show (k98).sz = 4 from rfl, Nat.mul_one, Nat.add_zero] at hx17_0)); (try (have hf17_0 := hfr17 0)); (try (try simp only [show (k98).sz = 4 from rfl, Nat.mul_one, Nat.add_zero] at hf17_0)); (try (have hx17_1 := hcc17 1 _ rfl)); (try (try simp only [show (k98).sz = 4 from rfl, Nat.mul_one, Nat.add_zero] at hx17_1)); (try (have hf17_1 := hfr17 1)); (try (try simp only [show (k98).sz = 4 from rfl, Nat.mul_one, Nat.add_zero] at hf17_1)); (try (have hx17_2 := hcc17 2 _ rfl)); (try (try simp only [show (k98).sz = 4 from rfl, Nat.mul_one, Nat.add_zero] at hx17_2)); (try (have hf17_2 := hfr17 2)); (try (try simp only [show (k98).sz = 4 from rfl, Nat.mul_one, Nat.add_zero] at hf17_2)); (try (have hx17_3 := hcc17 3 _ rfl)); (try (try simp only [show (k98).sz = 4 from rfl, Nat.mul_one, Nat.add_zero] at hx17_3)); (try (have hf17_3 := hfr17 3)); (try (try simp only [show (k98).sz = 4 from rfl, Nat.mul_one, Nat.add_zero] at hf17_3)); (try (clear hcl17 hcc17 hfr17 hM17)))); refine store_event (t := 98) (p := 46) (v := ?vo_w18) (w1 := ((((w16.setCell ⟨go14, (x9_3 : Int).toNat * 4, none⟩ (.int .i64 t211)).setCell ⟨go14, (x9_3 : Int).toNat * 4 + 1, none⟩ (.int .i64 t212)).setCell ⟨go14, (x9_3 : Int).toNat * 4 + 2, none⟩ (.int .i64 t213)).setCell ⟨go14, (x9_3 : Int).toNat * 4 + 3, none⟩ (.int .i64 t214))) ?hg ?ho ?hn ?hr ?_; (case ho => rfl); (case hg => rfl); (case hn => rfl); (case hr => first | (go_simp; done) | (go_simp; rfl)); intro w18 hw; have hg : w16.grownBy w18 (some go14) := (by rw [hw]; exact HP17.2); have hp_ : Kd.R k98 98 w18 w.heap.size (fun _ => True) (.slice (some ⟨go14, 0, none⟩) x7_3.length co15) y215 := (by rw [hw, Ny215.out]; exact HP17.1); clear HP17; have n0_ := Aside0.mk (hp_); have n1_ := Aside0.mk ((by rw [hw]; exact below_set (below_set (below_set (below_set (HB.out) GB14.out) GB14.out) GB14.out) GB14.out : Below w.heap.size w w18)); clear HO_7; clear HB; have HO_7 := n0_; have HB := n1_; clear n0_ n1_; clear hg hw hp_)))
             go_roundg k3
             case measure => have := HJ2.out; have := HK2.out; have := HK3.out; omega
             case rel => exact ⟨(y215), (wrap64 (x9_3 - 1)), (by first | rfl | (simp; done) | (simp [*]; done)), H', ⟨by have := HJ2.out; have := HK2.out; have := HK3.out; omega⟩, ⟨by (with_reducible repeat (first | apply Kd.R_alloc | apply Kd.R_drewN | apply Kd.R_drew)); exact HO_7.out⟩, ⟨by repeat (first | (with_reducible first | exact HB.out | apply below_alloc | apply pw_below_drewN | apply below_drew1) | exact HB.out)⟩⟩
            ·rw [if_neg c13] at H
             exact absurd H (by simp)
           ·rw [if_neg c12] at H
            exact absurd H (by simp)
          ·rw [if_neg c10] at H
           have c10b0 : decide (0 ≤ x9_3) = false := decide_eq_false c10
           clear c10
           have H' := Aside0.mk H
           clear H
           go_wp2
           repeat (go_quiet (fail); try go_wp2)
           go_loopg [10, 11] k3 (fun kq v10 v11 w' => ∃ (x10_4 : List (S54)) (x11_4 : Int), v11 = .int .i64 x11_4 ∧ Aside0 (barscanref16_Best.l2 kq l0 x7_3 x10_4 x11_4 = some (r1, r2, r3)) ∧ Aside0 (kq ≤ k3) ∧ Aside0 (Kd.R k98 98 w' w.heap.size (fun _ => True) u7 x7_3) ∧ Aside0 (Kd.S k54 54 w' w.heap.size (fun _ => True) v10 x10_4) ∧ Aside0 (Below w.heap.size w w'))
           case atStart => exact ⟨(([] : List (S54))), (0), (by first | rfl | (simp; done) | (simp [*]; done)), H', ⟨Nat.le_refl _⟩, ⟨by (with_reducible repeat (first | apply Kd.R_alloc | apply Kd.R_drewN | apply Kd.R_drew)); exact HO_7.out⟩, ⟨by first | exact Kd.S_nil _ _ _ _ _ | exact Kd.N_nil _ _ _ _ _ | exact Kd.V_nil _ _ _ _ _ | exact Kd.Q_nil _ _ _ _ _ | exact Kd.R_nil _ _ _ _ _⟩, ⟨by repeat (first | (with_reducible first | exact HB.out | apply below_alloc | apply pw_below_drewN | apply below_drew1) | exact HB.out)⟩⟩
           case round =>
            clear H'
            try clear c1
            try clear p1
            try clear q1
            try clear hx1
            try clear p2
            try clear c4
            try clear c4b0
            try clear c5
            try clear c6
            try clear c6b0
            try clear c6b1
            try clear p6
            try clear c7
            try clear c7b0
            try clear c8
            try clear c10
            try clear c10b0
            try clear c12
            try clear c12b0
            try clear c13
            try clear c13b0
            try clear c14
            try clear p14
            try clear q14
            try clear hx14
            try clear hf14
            try clear c17
            try clear hx17
            try clear hf17
            try clear hx14_0
            try clear hx14_1
            try clear hx14_2
            try clear hx14_3
            try clear hx17_0
            try clear hx17_1
            try clear hx17_2
            try clear hx17_3
            try clear p14
            try clear p2
            try clear p6
            try clear q14
            obtain ⟨x10_4, x11_4, rfl, HA, HK4, HO_7, HO_10, HB⟩ := hrel
            cases gk with
            | zero => exact absurd HA.out (by simp [barscanref16_Best.l2])
            | succ k4 =>
             have H := HA.out
             clear HA
             simp only [barscanref16_Best.l2] at H
             by_cases c19 : x11_4 < (l0.length : Int)
             ·rw [if_pos c19] at H
              have c19b0 : decide (x11_4 < (l0.length : Int)) = true := decide_eq_true c19
              clear c19
              by_cases c20 : 0 ≤ x11_4
              ·rw [if_pos c20] at H
               have c20b0 : decide (0 ≤ x11_4) = true := decide_eq_true c20
               clear c20
               by_cases c21 : x11_4 < (x7_3.length : Int)
               ·rw [if_pos c21] at H
                have c21b0 : decide (x11_4 < (x7_3.length : Int)) = true := decide_eq_true c21
                clear c21
                have c22b0 := eq_true (of_decide_eq_true (by first | (with_reducible assumption) | assumption) : 0 ≤ x11_4)
                by_cases c23 : x11_4 ≤ (wrap64 (x11_4 + ((rd_T98 x7_3 x11_4).f2)))
                ·rw [if_pos c23] at H
                 have c23b0 := eq_true c23
                 have c23b1 : decide (x11_4 ≤ (wrap64 (x11_4 + ((rd_T98 x7_3 x11_4).f2)))) = true := decide_eq_true c23
                 by_cases c24 : (wrap64 (x11_4 + ((rd_T98 x7_3 x11_4).f2))) ≤ (l0.length : Int)
                 ·rw [if_pos c24] at H
                  have c24b0 := eq_true c24
                  have c24b1 : decide ((wrap64 (x11_4 + ((rd_T98 x7_3 x11_4).f2))) ≤ (l0.length : Int)) = true := decide_eq_true c24
                  by_cases c25 : ([] : List Int).length + ((l0.take ((wrap64 (x11_4 + ((rd_T98 x7_3 x11_4).f2))) : Int).toNat).drop (x11_4 : Int).toNat).length < 140737488355328
                  ·rw [if_pos c25] at H
                   have LMc25 := Aside0.mk c25
                   clear c25
                   obtain ⟨y218, hy218⟩ : ∃ y_ : List Int, y_ = (([] : List Int) ++ ((l0.take ((wrap64 (x11_4 + ((rd_T98 x7_3 x11_4).f2))) : Int).toNat).drop (x11_4 : Int).toNat)) := ⟨_, rfl⟩
                   replace H : (if x10_4.length < 4398046511104 then (barscanref16_Best.l2 k4 l0 x7_3 (x10_4 ++ [(⟨(rd_T98 x7_3 x11_4).f3, y218⟩ : S54)]) (wrap64 (x11_4 + ((rd_T98 x7_3 x11_4).f2)))) else (none)) = some (r1, r2, r3) := by first | (rw [hy218]; with_reducible exact H) | (have H2_ := (Option.bind_some _ _).symm.trans H; rw [hy218]; with_reducible exact H2_) | (have H2_ := (Option.bind_some _ _).symm.trans H; with_reducible exact H2_) | with_reducible exact H | (rw [hy218]; exact H) | exact H
                   have Ny218 := Aside0.mk hy218
                   clear hy218
                   by_cases c26 : x10_4.length < 4398046511104
                   ·rw [if_pos c26] at H
                    have LMc26 := Aside0.mk c26
                    clear c26
                    obtain ⟨y222, hy222⟩ : ∃ y_ : List (S54), y_ = (x10_4 ++ [(⟨(rd_T98 x7_3 x11_4).f3, y218⟩ : S54)]) := ⟨_, rfl⟩
                    replace H : (barscanref16_Best.l2 k4 l0 x7_3 y222 (wrap64 (x11_4 + ((rd_T98 x7_3 x11_4).f2)))) = some (r1, r2, r3) := by first | (rw [hy222]; with_reducible exact H) | (have H2_ := (Option.bind_some _ _).symm.trans H; rw [hy222]; with_reducible exact H2_) | (have H2_ := (Option.bind_some _ _).symm.trans H; with_reducible exact H2_) | with_reducible exact H | (rw [hy222]; exact H) | exact H
                    have Ny222 := Aside0.mk hy222
                    clear hy222
                    have H' := Aside0.mk H
                    clear H
                    obtain ⟨Ao27, co27, eo27⟩ := Kd.R_slice HO_7.out
                    subst eo27
                    have p216 : 0 ≤ (x11_4 : Int) := of_decide_eq_true (by first | (with_reducible assumption) | assumption)
                    have q216 : x11_4 < (x7_3.length : Int) := of_decide_eq_true (by first | (with_reducible assumption) | assumption)
                    obtain ⟨ad216, e216, hx216_0, hx216_1, hx216_2, hx216_3⟩ := at_T98 (Kd.R_reads' HO_7.out).2.2 x11_4 p216 q216
                    cases e216
                    replace p216 := eq_true p216
                    replace q216 := eq_true q216
                    obtain ⟨i028, hi028, _, hsz28, _⟩ := info_parts info5
                    obtain ⟨A28, hcut28, hA28, hC28⟩ := print_mid_of (P := Try.prog) (Value.int .u8) 0 22 5 .i64 .i64 Try.underlying22 hi028 hsz28 A0 c0 l0 x11_4 (wrap64 (x11_4 + ((rd_T98 x7_3 x11_4).f2))) (of_decide_eq_true (by first | (with_reducible assumption) | assumption)) (by first | omega | exact of_decide_eq_true (by first | (with_reducible assumption) | assumption)) (of_decide_eq_true (by first | (with_reducible assumption) | assumption)) HC0.out
                    have HR217 := Aside0.mk (Kd.C_of_reads (h1 := fun _ => rfl) (hA28 _ (Kd.reads_of_C HR0.out)))
                    have HC217 := Aside0.mk hC28
                    clear hA28 hC28 hi028 hsz28
                    go_wp2_with (first | ((with_reducible refine gate_builtin (b := .append) (xs := #[.tmp 51, .tmp 61]) rfl ?_); at_builtin; refine Kd.R_append_rows (Kd.int .u8) (w0 := w) w.heap.size rfl (.tmp 51) (.tmp 61) 22 5 (.int .u8 0) 1 rfl Try.underlying22 info5 rfl (by decide) (by omega) (.slice none 0 0) ([] : List Int) ((l0.take ((wrap64 (x11_4 + ((rd_T98 x7_3 x11_4).f2))) : Int).toNat).drop (x11_4 : Int).toNat) _ _ _ (fun _ => True) (fun _ => False) rfl rfl ?aO ?aR (fun _ _ h => h) (fun _ h => h.elim) ?aF ?aB ?aS ?aL ?_; (case aR => first | (rw [← show ((l0.take ((wrap64 (x11_4 + ((rd_T98 x7_3 x11_4).f2))) : Int).toNat).drop (x11_4 : Int).toNat).length = ((wrap64 (x11_4 + ((rd_T98 x7_3 x11_4).f2))).toNat - x11_4.toNat) from (by rw [List.length_drop, List.length_take]; have h_ : ((wrap64 (x11_4 + ((rd_T98 x7_3 x11_4).f2))) : Int) ≤ (l0.length : Int) := of_decide_eq_true (by first | (with_reducible assumption) | assumption); omega)]; repeat (first | exact (Kd.C_below HR217.out HB.out) | (with_reducible refine Kd.C_alloc ?_ _) | (with_reducible refine Kd.C_drewN ?_ _) | (with_reducible refine Kd.C_drew ?_))) | (repeat (first | exact (Kd.C_below HR217.out HB.out) | (with_reducible refine Kd.C_alloc ?_ _) | (with_reducible refine Kd.C_drewN ?_ _) | (with_reducible refine Kd.C_drew ?_)))); (case aB => exact (by repeat (first | (with_reducible first | exact HB.out | apply below_alloc | apply pw_below_drewN | apply below_drew1) | exact HB.out))); (case aF => exact (fun _ _ => trivial)); (case aO => exact ((Kd.R_nil _ _ _ _ (fun _ => True)))); (case aS => exact (below_size (by repeat (first | (with_reducible first | exact HB.out | apply below_alloc | apply pw_below_drewN | apply below_drew1) | exact HB.out)))); (case aL => have := LMc25.out; have hlx_ := (show ((l0.take ((wrap64 (x11_4 + ((rd_T98 x7_3 x11_4).f2))) : Int).toNat).drop (x11_4 : Int).toNat).length = ((wrap64 (x11_4 + ((rd_T98 x7_3 x11_4).f2))).toNat - x11_4.toNat) from (by rw [List.length_drop, List.length_take]; have h_ : ((wrap64 (x11_4 + ((rd_T98 x7_3 x11_4).f2))) : Int) ≤ (l0.length : Int) := of_decide_eq_true (by first | (with_reducible assumption) | assumption); omega)); omega); intro v219 w29 ho hb hg hat; rw [← Ny218.out] at ho; have n0_ := Aside0.mk (Kd.R_grown (by (with_reducible repeat (first | apply Kd.R_alloc | apply Kd.R_drewN | apply Kd.R_drew)); exact HO_7.out) hg (fun _ _ => by simp [Value.ownBlock])); have n1_ := Aside0.mk (Kd.S_after (Kd.S_apart_nil (by (with_reducible repeat (first | apply Kd.S_alloc | apply Kd.S_drewN | apply Kd.S_drew)); exact HO_10.out)) hg hat); have n2_ := Aside0.mk (hb); have n3_ := Aside0.mk (ho); clear HO_7; clear HO_10; clear HB; have HO_7 := n0_; have HO_10 := n1_; have HB := n2_; have HO220 := n3_; clear n0_ n1_ n2_ n3_; clear ho hb hg hat; have p221 : 0 ≤ (x11_4 : Int) := of_decide_eq_true (by first | (with_reducible assumption) | assumption); have q221 : x11_4 < (x7_3.length : Int) := of_decide_eq_true (by first | (with_reducible assumption) | assumption); obtain ⟨ad221, e221, hx221_0, hx221_1, hx221_2, hx221_3⟩ := at_T98 (Kd.R_reads' HO_7.out).2.2 x11_4 p221 q221; obtain rfl : ad216 = ad221 := (by injection e221); replace p221 := eq_true p221; replace q221 := eq_true q221; obtain ⟨Ao30, co30, eo30⟩ := Kd.R_slice HO220.out; subst eo30) | ((with_reducible refine gate_builtin (b := .append) (xs := #[.tmp 63, .tmp 71]) rfl ?_); at_builtin; refine Kd.S_append k54 (w0 := w) w.heap.size rfl (.tmp 63) (.tmp 71) 38 54 (.agg #[(.int .i64 0), (.slice none 0 0)]) 32 rfl Try.underlying38 info54 rfl (by decide) (by omega) u10 x10_4 (⟨(rd_T98 x7_3 x11_4).f3, y218⟩ : S54) [.int .i64 ((rd_T98 x7_3 x11_4).f3), .slice Ao30 y218.length co30] (fun _ => True) (fun k_ => some k_ = (.slice Ao30 y218.length co30 : Value).ownBlock) rfl rfl ?aP (fun k_ hk_ => ((Kd.R_mono (ok' := fun k_ => ((fun _ => True)) k_ ∧ some k_ ≠ (u10 : Value).ownBlock) (Kd.R_apart' (HO220.out) (Kd.S_typed HO_10.out) (by decide)) (fun k_ hk => ⟨trivial, hk.2⟩))).1 k_ hk_.symm) ?aF ?aO ?aB ?aS ?aL ?_; (case aP => exact k54_mkM _ _ _ (⟨(rd_T98 x7_3 x11_4).f3, y218⟩ : S54) (Kd.R_mono (Kd.R_tight rfl (Kd.R_mono (ok' := fun k_ => ((fun _ => True)) k_ ∧ some k_ ≠ (u10 : Value).ownBlock) (Kd.R_apart' (HO220.out) (Kd.S_typed HO_10.out) (by decide)) (fun k_ hk => ⟨trivial, hk.2⟩))) (fun _ h_ => h_))); (case aB => exact (by repeat (first | (with_reducible first | exact HB.out | apply below_alloc | apply pw_below_drewN | apply below_drew1) | exact HB.out))); (case aF => exact (fun _ _ => trivial)); (case aO => exact (by (with_reducible repeat (first | apply Kd.S_alloc | apply Kd.S_drewN | apply Kd.S_drew)); exact Kd.S_mono HO_10.out (fun k_ hk => ⟨trivial, fun e_ => hk.2 e_⟩))); (case aS => exact (below_size (by repeat (first | (with_reducible first | exact HB.out | apply below_alloc | apply pw_below_drewN | apply below_drew1) | exact HB.out)))); (case aL => have := LMc26.out; omega); intro v223 w31 ho hb hg hat; rw [← Ny222.out] at ho; have n0_ := Aside0.mk (Kd.R_over' (by (with_reducible repeat (first | apply Kd.R_alloc | apply Kd.R_drewN | apply Kd.R_drew)); exact HO_7.out) (Kd.S_typed (by (with_reducible repeat (first | apply Kd.S_alloc | apply Kd.S_drewN | apply Kd.S_drew)); exact HO_10.out)) (by decide) hg); have n1_ := Aside0.mk (hb); have n2_ := Aside0.mk (ho); clear HO_7; clear HB; clear HO_10; clear HO220; have HO_7 := n0_; have HB := n1_; have HO224 := n2_; clear n0_ n1_ n2_; clear ho hb hg hat; have p225 : 0 ≤ (x11_4 : Int) := of_decide_eq_true (by first | (with_reducible assumption) | assumption); have q225 : x11_4 < (x7_3.length : Int) := of_decide_eq_true (by first | (with_reducible assumption) | assumption); obtain ⟨ad225, e225, hx225_0, hx225_1, hx225_2, hx225_3⟩ := at_T98 (Kd.R_reads' HO_7.out).2.2 x11_4 p225 q225; obtain rfl : ad216 = ad225 := (by injection e225); replace p225 := eq_true p225; replace q225 := eq_true q225))
                    repeat (go_quiet (first | ((with_reducible refine gate_builtin (b := .append) (xs := #[.tmp 51, .tmp 61]) rfl ?_); at_builtin; refine Kd.R_append_rows (Kd.int .u8) (w0 := w) w.heap.size rfl (.tmp 51) (.tmp 61) 22 5 (.int .u8 0) 1 rfl Try.underlying22 info5 rfl (by decide) (by omega) (.slice none 0 0) ([] : List Int) ((l0.take ((wrap64 (x11_4 + ((rd_T98 x7_3 x11_4).f2))) : Int).toNat).drop (x11_4 : Int).toNat) _ _ _ (fun _ => True) (fun _ => False) rfl rfl ?aO ?aR (fun _ _ h => h) (fun _ h => h.elim) ?aF ?aB ?aS ?aL ?_; (case aR => first | (rw [← show ((l0.take ((wrap64 (x11_4 + ((rd_T98 x7_3 x11_4).f2))) : Int).toNat).drop (x11_4 : Int).toNat).length = ((wrap64 (x11_4 + ((rd_T98 x7_3 x11_4).f2))).toNat - x11_4.toNat) from (by rw [List.length_drop, List.length_take]; have h_ : ((wrap64 (x11_4 + ((rd_T98 x7_3 x11_4).f2))) : Int) ≤ (l0.length : Int) := of_decide_eq_true (by first | (with_reducible assumption) | assumption); omega)]; repeat (first | exact (Kd.C_below HR217.out HB.out) | (with_reducible refine Kd.C_alloc ?_ _) | (with_reducible refine Kd.C_drewN ?_ _) | (with_reducible refine Kd.C_drew ?_))) | (repeat (first | exact (Kd.C_below HR217.out HB.out) | (with_reducible refine Kd.C_alloc ?_ _) | (with_reducible refine Kd.C_drewN ?_ _) | (with_reducible refine Kd.C_drew ?_)))); (case aB => exact (by repeat (first | (with_reducible first | exact HB.out | apply below_alloc | apply pw_below_drewN | apply below_drew1) | exact HB.out))); (case aF => exact (fun _ _ => trivial)); (case aO => exact ((Kd.R_nil _ _ _ _ (fun _ => True)))); (case aS => exact (below_size (by repeat (first | (with_reducible first | exact HB.out | apply below_alloc | apply pw_below_drewN | apply below_drew1) | exact HB.out)))); (case aL => have := LMc25.out; have hlx_ := (show ((l0.take ((wrap64 (x11_4 + ((rd_T98 x7_3 x11_4).f2))) : Int).toNat).drop (x11_4 : Int).toNat).length = ((wrap64 (x11_4 + ((rd_T98 x7_3 x11_4).f2))).toNat - x11_4.toNat) from (by rw [List.length_drop, List.length_take]; have h_ : ((wrap64 (x11_4 + ((rd_T98 x7_3 x11_4).f2))) : Int) ≤ (l0.length : Int) := of_decide_eq_true (by first | (with_reducible assumption) | assumption); omega)); omega); intro v219 w29 ho hb hg hat; rw [← Ny218.out] at ho; have n0_ := Aside0.mk (Kd.R_grown (by (with_reducible repeat (first | apply Kd.R_alloc | apply Kd.R_drewN | apply Kd.R_drew)); exact HO_7.out) hg (fun _ _ => by simp [Value.ownBlock])); have n1_ := Aside0.mk (Kd.S_after (Kd.S_apart_nil (by (with_reducible repeat (first | apply Kd.S_alloc | apply Kd.S_drewN | apply Kd.S_drew)); exact HO_10.out)) hg hat); have n2_ := Aside0.mk (hb); have n3_ := Aside0.mk (ho); clear HO_7; clear HO_10; clear HB; have HO_7 := n0_; have HO_10 := n1_; have HB := n2_; have HO220 := n3_; clear n0_ n1_ n2_ n3_; clear ho hb hg hat; have p221 : 0 ≤ (x11_4 : Int) := of_decide_eq_true (by first | (with_reducible assumption) | assumption); have q221 : x11_4 < (x7_3.length : Int) := of_decide_eq_true (by first | (with_reducible assumption) | assumption); obtain ⟨ad221, e221, hx221_0, hx221_1, hx221_2, hx221_3⟩ := at_T98 (Kd.R_reads' HO_7.out).2.2 x11_4 p221 q221; obtain rfl : ad216 = ad221 := (by injection e221); replace p221 := eq_true p221; replace q221 := eq_true q221; obtain ⟨Ao30, co30, eo30⟩ := Kd.R_slice HO220.out; subst eo30) | ((with_reducible refine gate_builtin (b := .append) (xs := #[.tmp 63, .tmp 71]) rfl ?_); at_builtin; refine Kd.S_append k54 (w0 := w) w.heap.size rfl (.tmp 63) (.tmp 71) 38 54 (.agg #[(.int .i64 0), (.slice none 0 0)]) 32 rfl Try.underlying38 info54 rfl (by decide) (by omega) u10 x10_4 (⟨(rd_T98 x7_3 x11_4).f3, y218⟩ : S54) [.int .i64 ((rd_T98 x7_3 x11_4).f3), .slice Ao30 y218.length co30] (fun _ => True) (fun k_ => some k_ = (.slice Ao30 y218.length co30 : Value).ownBlock) rfl rfl ?aP (fun k_ hk_ => ((Kd.R_mono (ok' := fun k_ => ((fun _ => True)) k_ ∧ some k_ ≠ (u10 : Value).ownBlock) (Kd.R_apart' (HO220.out) (Kd.S_typed HO_10.out) (by decide)) (fun k_ hk => ⟨trivial, hk.2⟩))).1 k_ hk_.symm) ?aF ?aO ?aB ?aS ?aL ?_; (case aP => exact k54_mkM _ _ _ (⟨(rd_T98 x7_3 x11_4).f3, y218⟩ : S54) (Kd.R_mono (Kd.R_tight rfl (Kd.R_mono (ok' := fun k_ => ((fun _ => True)) k_ ∧ some k_ ≠ (u10 : Value).ownBlock) (Kd.R_apart' (HO220.out) (Kd.S_typed HO_10.out) (by decide)) (fun k_ hk => ⟨trivial, hk.2⟩))) (fun _ h_ => h_))); (case aB => exact (by repeat (first | (with_reducible first | exact HB.out | apply below_alloc | apply pw_below_drewN | apply below_drew1) | exact HB.out))); (case aF => exact (fun _ _ => trivial)); (case aO => exact (by (with_reducible repeat (first | apply Kd.S_alloc | apply Kd.S_drewN | apply Kd.S_drew)); exact Kd.S_mono HO_10.out (fun k_ hk => ⟨trivial, fun e_ => hk.2 e_⟩))); (case aS => exact (below_size (by repeat (first | (with_reducible first | exact HB.out | apply below_alloc | apply pw_below_drewN | apply below_drew1) | exact HB.out)))); (case aL => have := LMc26.out; omega); intro v223 w31 ho hb hg hat; rw [← Ny222.out] at ho; have n0_ := Aside0.mk (Kd.R_over' (by (with_reducible repeat (first | apply Kd.R_alloc | apply Kd.R_drewN | apply Kd.R_drew)); exact HO_7.out) (Kd.S_typed (by (with_reducible repeat (first | apply Kd.S_alloc | apply Kd.S_drewN | apply Kd.S_drew)); exact HO_10.out)) (by decide) hg); have n1_ := Aside0.mk (hb); have n2_ := Aside0.mk (ho); clear HO_7; clear HB; clear HO_10; clear HO220; have HO_7 := n0_; have HB := n1_; have HO224 := n2_; clear n0_ n1_ n2_; clear ho hb hg hat; have p225 : 0 ≤ (x11_4 : Int) := of_decide_eq_true (by first | (with_reducible assumption) | assumption); have q225 : x11_4 < (x7_3.length : Int) := of_decide_eq_true (by first | (with_reducible assumption) | assumption); obtain ⟨ad225, e225, hx225_0, hx225_1, hx225_2, hx225_3⟩ := at_T98 (Kd.R_reads' HO_7.out).2.2 x11_4 p225 q225; obtain rfl : ad216 = ad225 := (by injection e225); replace p225 := eq_true p225; replace q225 := eq_true q225)); try go_wp2_with (first | ((with_reducible refine gate_builtin (b := .append) (xs := #[.tmp 51, .tmp 61]) rfl ?_); at_builtin; refine Kd.R_append_rows (Kd.int .u8) (w0 := w) w.heap.size rfl (.tmp 51) (.tmp 61) 22 5 (.int .u8 0) 1 rfl Try.underlying22 info5 rfl (by decide) (by omega) (.slice none 0 0) ([] : List Int) ((l0.take ((wrap64 (x11_4 + ((rd_T98 x7_3 x11_4).f2))) : Int).toNat).drop (x11_4 : Int).toNat) _ _ _ (fun _ => True) (fun _ => False) rfl rfl ?aO ?aR (fun _ _ h => h) (fun _ h => h.elim) ?aF ?aB ?aS ?aL ?_; (case aR => first | (rw [← show ((l0.take ((wrap64 (x11_4 + ((rd_T98 x7_3 x11_4).f2))) : Int).toNat).drop (x11_4 : Int).toNat).length = ((wrap64 (x11_4 + ((rd_T98 x7_3 x11_4).f2))).toNat - x11_4.toNat) from (by rw [List.length_drop, List.length_take]; have h_ : ((wrap64 (x11_4 + ((rd_T98 x7_3 x11_4).f2))) : Int) ≤ (l0.length : Int) := of_decide_eq_true (by first | (with_reducible assumption) | assumption); omega)]; repeat (first | exact (Kd.C_below HR217.out HB.out) | (with_reducible refine Kd.C_alloc ?_ _) | (with_reducible refine Kd.C_drewN ?_ _) | (with_reducible refine Kd.C_drew ?_))) | (repeat (first | exact (Kd.C_below HR217.out HB.out) | (with_reducible refine Kd.C_alloc ?_ _) | (with_reducible refine Kd.C_drewN ?_ _) | (with_reducible refine Kd.C_drew ?_)))); (case aB => exact (by repeat (first | (with_reducible first | exact HB.out | apply below_alloc | apply pw_below_drewN | apply below_drew1) | exact HB.out))); (case aF => exact (fun _ _ => trivial)); (case aO => exact ((Kd.R_nil _ _ _ _ (fun _ => True)))); (case aS => exact (below_size (by repeat (first | (with_reducible first | exact HB.out | apply below_alloc | apply pw_below_drewN | apply below_drew1) | exact HB.out)))); (case aL => have := LMc25.out; have hlx_ := (show ((l0.take ((wrap64 (x11_4 + ((rd_T98 x7_3 x11_4).f2))) : Int).toNat).drop (x11_4 : Int).toNat).length = ((wrap64 (x11_4 + ((rd_T98 x7_3 x11_4).f2))).toNat - x11_4.toNat) from (by rw [List.length_drop, List.length_take]; have h_ : ((wrap64 (x11_4 + ((rd_T98 x7_3 x11_4).f2))) : Int) ≤ (l0.length : Int) := of_decide_eq_true (by first | (with_reducible assumption) | assumption); omega)); omega); intro v219 w29 ho hb hg hat; rw [← Ny218.out] at ho; have n0_ := Aside0.mk (Kd.R_grown (by (with_reducible repeat (first | apply Kd.R_alloc | apply Kd.R_drewN | apply Kd.R_drew)); exact HO_7.out) hg (fun _ _ => by simp [Value.ownBlock])); have n1_ := Aside0.mk (Kd.S_after (Kd.S_apart_nil (by (with_reducible repeat (first | apply Kd.S_alloc | apply Kd.S_drewN | apply Kd.S_drew)); exact HO_10.out)) hg hat); have n2_ := Aside0.mk (hb); have n3_ := Aside0.mk (ho); clear HO_7; clear HO_10; clear HB; have HO_7 := n0_; have HO_10 := n1_; have HB := n2_; have HO220 := n3_; clear n0_ n1_ n2_ n3_; clear ho hb hg hat; have p221 : 0 ≤ (x11_4 : Int) := of_decide_eq_true (by first | (with_reducible assumption) | assumption); have q221 : x11_4 < (x7_3.length : Int) := of_decide_eq_true (by first | (with_reducible assumption) | assumption); obtain ⟨ad221, e221, hx221_0, hx221_1, hx221_2, hx221_3⟩ := at_T98 (Kd.R_reads' HO_7.out).2.2 x11_4 p221 q221; obtain rfl : ad216 = ad221 := (by injection e221); replace p221 := eq_true p221; replace q221 := eq_true q221; obtain ⟨Ao30, co30, eo30⟩ := Kd.R_slice HO220.out; subst eo30) | ((with_reducible refine gate_builtin (b := .append) (xs := #[.tmp 63, .tmp 71]) rfl ?_); at_builtin; refine Kd.S_append k54 (w0 := w) w.heap.size rfl (.tmp 63) (.tmp 71) 38 54 (.agg #[(.int .i64 0), (.slice none 0 0)]) 32 rfl Try.underlying38 info54 rfl (by decide) (by omega) u10 x10_4 (⟨(rd_T98 x7_3 x11_4).f3, y218⟩ : S54) [.int .i64 ((rd_T98 x7_3 x11_4).f3), .slice Ao30 y218.length co30] (fun _ => True) (fun k_ => some k_ = (.slice Ao30 y218.length co30 : Value).ownBlock) rfl rfl ?aP (fun k_ hk_ => ((Kd.R_mono (ok' := fun k_ => ((fun _ => True)) k_ ∧ some k_ ≠ (u10 : Value).ownBlock) (Kd.R_apart' (HO220.out) (Kd.S_typed HO_10.out) (by decide)) (fun k_ hk => ⟨trivial, hk.2⟩))).1 k_ hk_.symm) ?aF ?aO ?aB ?aS ?aL ?_; (case aP => exact k54_mkM _ _ _ (⟨(rd_T98 x7_3 x11_4).f3, y218⟩ : S54) (Kd.R_mono (Kd.R_tight rfl (Kd.R_mono (ok' := fun k_ => ((fun _ => True)) k_ ∧ some k_ ≠ (u10 : Value).ownBlock) (Kd.R_apart' (HO220.out) (Kd.S_typed HO_10.out) (by decide)) (fun k_ hk => ⟨trivial, hk.2⟩))) (fun _ h_ => h_))); (case aB => exact (by repeat (first | (with_reducible first | exact HB.out | apply below_alloc | apply pw_below_drewN | apply below_drew1) | exact HB.out))); (case aF => exact (fun _ _ => trivial)); (case aO => exact (by (with_reducible repeat (first | apply Kd.S_alloc | apply Kd.S_drewN | apply Kd.S_drew)); exact Kd.S_mono HO_10.out (fun k_ hk => ⟨trivial, fun e_ => hk.2 e_⟩))); (case aS => exact (below_size (by repeat (first | (with_reducible first | exact HB.out | apply below_alloc | apply pw_below_drewN | apply below_drew1) | exact HB.out)))); (case aL => have := LMc26.out; omega); intro v223 w31 ho hb hg hat; rw [← Ny222.out] at ho; have n0_ := Aside0.mk (Kd.R_over' (by (with_reducible repeat (first | apply Kd.R_alloc | apply Kd.R_drewN | apply Kd.R_drew)); exact HO_7.out) (Kd.S_typed (by (with_reducible repeat (first | apply Kd.S_alloc | apply Kd.S_drewN | apply Kd.S_drew)); exact HO_10.out)) (by decide) hg); have n1_ := Aside0.mk (hb); have n2_ := Aside0.mk (ho); clear HO_7; clear HB; clear HO_10; clear HO220; have HO_7 := n0_; have HB := n1_; have HO224 := n2_; clear n0_ n1_ n2_; clear ho hb hg hat; have p225 : 0 ≤ (x11_4 : Int) := of_decide_eq_true (by first | (with_reducible assumption) | assumption); have q225 : x11_4 < (x7_3.length : Int) := of_decide_eq_true (by first | (with_reducible assumption) | assumption); obtain ⟨ad225, e225, hx225_0, hx225_1, hx225_2, hx225_3⟩ := at_T98 (Kd.R_reads' HO_7.out).2.2 x11_4 p225 q225; obtain rfl : ad216 = ad225 := (by injection e225); replace p225 := eq_true p225; replace q225 := eq_true q225)))
                    go_roundg k4
                    case measure => have := HJ2.out; have := HK2.out; have := HK3.out; have := HK4.out; omega
                    case rel => exact ⟨(y222), (wrap64 (x11_4 + ((rd_T98 x7_3 x11_4).f2))), (by first | rfl | (simp; done) | (simp [*]; done)), H', ⟨by have := HJ2.out; have := HK2.out; have := HK3.out; have := HK4.out; omega⟩, ⟨by (with_reducible repeat (first | apply Kd.R_alloc | apply Kd.R_drewN | apply Kd.R_drew)); exact HO_7.out⟩, ⟨by (with_reducible repeat (first | apply Kd.S_alloc | apply Kd.S_drewN | apply Kd.S_drew)); exact HO224.out⟩, ⟨by repeat (first | (with_reducible first | exact HB.out | apply below_alloc | apply pw_below_drewN | apply below_drew1) | exact HB.out)⟩⟩
                   ·rw [if_neg c26] at H
                    exact absurd H (by simp)
                  ·rw [if_neg c25] at H
                   exact absurd H (by simp)
                 ·rw [if_neg c24] at H
                  exact absurd H (by simp)
                ·rw [if_neg c23] at H
                 exact absurd H (by simp)
               ·rw [if_neg c21] at H
                exact absurd H (by simp)
              ·rw [if_neg c20] at H
               exact absurd H (by simp)
             ·rw [if_neg c19] at H
              have c19b0 : decide (x11_4 < (l0.length : Int)) = false := decide_eq_false c19
              clear c19
              by_cases c32 : 0 < (x7_3.length : Int)
              ·rw [if_pos c32] at H
               have c32b0 : decide (0 < (x7_3.length : Int)) = true := decide_eq_true c32
               have c32b1 : decide (0 < x7_3.length) = true := decide_eq_true (by omega)
               clear c32
               simp only [Option.some.injEq, Prod.mk.injEq] at H
               obtain ⟨rfl, rfl, rfl⟩ := H
               obtain ⟨Ao33, co33, eo33⟩ := Kd.R_slice HO_7.out
               subst eo33
               have p226 : 0 ≤ (0 : Int) := (by omega)
               have q226 : 0 < (x7_3.length : Int) := of_decide_eq_true (by first | (with_reducible assumption) | assumption)
               obtain ⟨ad226, e226, hx226_0, hx226_1, hx226_2, hx226_3⟩ := at_T98 (Kd.R_reads' HO_7.out).2.2 0 p226 q226
               cases e226
               have qi226 : (0 < x7_3.length) = True := eq_true (by omega)
               (try rw [show ((0 : Int)).toNat = 0 from rfl] at hx226_0)
               (try rw [show 0 * 4 = 0 from rfl] at hx226_0)
               (try rw [Addr.add_zero'] at hx226_0)
               (try rw [show ((0 : Int)).toNat = 0 from rfl] at hx226_1)
               (try rw [show 0 * 4 = 0 from rfl] at hx226_1)
               (try rw [Addr.add_zero'] at hx226_1)
               (try rw [show ((0 : Int)).toNat = 0 from rfl] at hx226_2)
               (try rw [show 0 * 4 = 0 from rfl] at hx226_2)
               (try rw [Addr.add_zero'] at hx226_2)
               (try rw [show ((0 : Int)).toNat = 0 from rfl] at hx226_3)
               (try rw [show 0 * 4 = 0 from rfl] at hx226_3)
               (try rw [Addr.add_zero'] at hx226_3)
               replace p226 := eq_true p226
               replace q226 := eq_true q226
               go_wp2
               repeat (go_quiet (fail); try go_wp2)
               go_ret3
               exact ⟨_, by first | rfl | (simp [errW_none, errW_some] <;> rfl) | (simp [*, errW_none, errW_some] <;> rfl), by (with_reducible repeat (first | apply Kd.S_alloc | apply Kd.S_drewN | apply Kd.S_drew)); exact HO_10.out, by repeat (first | (with_reducible first | exact HB.out | apply below_alloc | apply pw_below_drewN | apply below_drew1) | exact HB.out)⟩
              ·rw [if_neg c32] at H
               exact absurd H (by simp)

end Go.Proofs.Ytclbjddcenkidaa.PS
namespace Go.Proofs.Ytclbjddcenkidaa.PS
open Go.RowKit Go.Proofs.YtclbjddcenkidaaW.PrintWords Go.Proofs.YtclbjddcenkidaaW.PrintLast Go.Proofs.YtclbjddcenkidaaW.PrintMore
attribute [local go_sem] max2_int min2_int max_two min_two max_three min_three max_four min_four   -- for this text's walks alone

def barscanref17_right.j0 : Nat → Int → Bool → Option (Int)
 | 0, _, _ => none
 | k + 1, x1, x10 => if x10 = true then (some 14) else (if x1 < 1 then (some 15) else (if x1 > 4 then (some 15) else (some 0)))
def barscanref17_right.f (k : Nat) (a0 : Int) (a1 : Int) : Option (Int) := if a0 < 1 then (barscanref17_right.j0 k a1 true) else (barscanref17_right.j0 k a1 (decide (a0 > 40)))
theorem barscanref17_right.mono_l : ∀ k, (∀ y0 y1, LeO (barscanref17_right.j0 k y0 y1) (barscanref17_right.j0 (k + 1) y0 y1))
 | 0 => fun _ _ r h => by simp [barscanref17_right.j0] at h
 | k + 1 => by
  have ih0 := barscanref17_right.mono_l k
  ·intro y0 y1
   unfold barscanref17_right.j0
   repeat' first
   | (with_reducible exact ih0 _ _)
   | (with_reducible exact LeO.refl _)
   | (with_reducible exact LeO.none _)
   | (with_reducible refine LeO.ite ?_ ?_)
   | (with_reducible refine LeO.bind ?_ (fun _ => ?_))
   | exact ih0 _ _
   | exact LeO.none _
   | refine LeO.ite ?_ ?_
   | refine LeO.bind ?_ (fun _ => ?_)
theorem barscanref17_right.mono : ∀ a0 a1 k, LeO (barscanref17_right.f k a0 a1) (barscanref17_right.f (k + 1) a0 a1) := by
 intro a0 a1 k
 have ih0 := barscanref17_right.mono_l k
 unfold barscanref17_right.f
 repeat' first
   | (with_reducible exact ih0 _ _)
   | (with_reducible exact LeO.refl _)
   | (with_reducible exact LeO.none _)
   | (with_reducible refine LeO.ite ?_ ?_)
   | (with_reducible refine LeO.bind ?_ (fun _ => ?_))
   | exact ih0 _ _
   | exact LeO.none _
   | refine LeO.ite ?_ ?_
   | refine LeO.bind ?_ (fun _ => ?_)
set_option maxHeartbeats 8000000 in
set_option maxRecDepth 100000 in
theorem barscanref17_right.calls (k : Nat) (a0 : Int) (a1 : Int) (r : Int) (w : World) (h : barscanref17_right.f k a0 a1 = some r) :
  Calls Try.prog 78 #[.int .i64 a0, .int .i64 a1] w fun e w' => e = .returned (.int .i64 r) ∧ Drawn0 w w' := by
 have H : (if a0 < 1 then (barscanref17_right.j0 k a1 true) else (barscanref17_right.j0 k a1 (decide (a0 > 40)))) = some r := h
 clear h
 have HC3 := Aside0.mk H
 clear H
 go_enter Try.func78, Try.ntmps78
 go_upto_region 1 with (fail)
 go_cut [10] (fun v10 wc => ∃ (kq : Nat) (x10_2 : Bool), v10 = .bool x10_2 ∧ Aside0 (barscanref17_right.j0 kq a1 x10_2 = some r) ∧ Aside0 (kq ≤ k) ∧ Drawn0 w wc)
 case first =>
  have H := HC3.out
  clear HC3
  by_cases c4 : a0 < 1
  ·rw [if_pos c4] at H
   have c4b0 : decide (a0 < 1) = true := decide_eq_true c4
   clear c4
   (first | rw [c4b0] | (simp only [i64_w, i32_w]; rw [c4b0]) | skip)
   have H' := Aside0.mk H
   clear H
   go_wp2
   go_meet
   case rel => exact ⟨_, (true), (by first | rfl | (simp; done) | (simp [*]; done)), H', ⟨by first | omega | exact Nat.le_refl _⟩, by repeat (first | exact Drawn0.refl _ | apply Drawn0.step)⟩
  ·rw [if_neg c4] at H
   have c4b0 : decide (a0 < 1) = false := decide_eq_false c4
   clear c4
   (first | rw [c4b0] | (simp only [i64_w, i32_w]; rw [c4b0]) | skip)
   have H' := Aside0.mk H
   clear H
   go_wp2
   go_meet
   case rel => exact ⟨_, (decide (a0 > 40)), (by first | rfl | (simp; done) | (simp [*]; done)), H', ⟨by first | omega | exact Nat.le_refl _⟩, by repeat (first | exact Drawn0.refl _ | apply Drawn0.step)⟩
 case rest =>
  clear HC3
  try clear p2
  try clear c4
  try clear c4b0
  obtain ⟨kq, x10_2, rfl, HA, HJ2, ⟨mc2, rfl⟩⟩ := hcut
  cases kq with
  | zero => exact absurd HA.out (by simp [barscanref17_right.j0])
  | succ kj2 =>
   have H := HA.out
   clear HA
   simp only [barscanref17_right.j0] at H
   by_cases c5 : x10_2 = true
   ·subst c5
    have H1 : (some 14) = some r := by rw [if_pos rfl] at H; exact H
    clear H
    have H := H1
    clear H1
    obtain rfl := Option.some.inj H
    go_wp2
    go_ret
    exact ⟨by first | rfl | (simp; done) | (simp [*]; done), by repeat (first | exact Drawn0.refl _ | apply Drawn0.step)⟩
   ·replace c5 := Bool.eq_false_iff.mpr c5
    subst c5
    have H1 : (if a1 < 1 then (some 15) else (if a1 > 4 then (some 15) else (some 0))) = some r := by rw [if_neg (show ¬ (false = true) by decide)] at H; exact H
    clear H
    have H := H1
    clear H1
    by_cases c6 : a1 < 1
    ·rw [if_pos c6] at H
     have c6b0 : decide (a1 < 1) = true := decide_eq_true c6
     clear c6
     obtain rfl := Option.some.inj H
     go_wp2
     go_ret
     exact ⟨by first | rfl | (simp; done) | (simp [*]; done), by repeat (first | exact Drawn0.refl _ | apply Drawn0.step)⟩
    ·rw [if_neg c6] at H
     have c6b0 : decide (a1 < 1) = false := decide_eq_false c6
     clear c6
     by_cases c7 : a1 > 4
     ·rw [if_pos c7] at H
      have c7b0 : decide (4 < a1) = true := decide_eq_true c7
      clear c7
      obtain rfl := Option.some.inj H
      go_wp2
      go_ret
      exact ⟨by first | rfl | (simp; done) | (simp [*]; done), by repeat (first | exact Drawn0.refl _ | apply Drawn0.step)⟩
     ·rw [if_neg c7] at H
      have c7b0 : decide (4 < a1) = false := decide_eq_false c7
      clear c7
      obtain rfl := Option.some.inj H
      go_wp2
      go_ret
      exact ⟨by first | rfl | (simp; done) | (simp [*]; done), by repeat (first | exact Drawn0.refl _ | apply Drawn0.step)⟩

end Go.Proofs.Ytclbjddcenkidaa.PS
namespace Go.Proofs.Ytclbjddcenkidaa.PS
open Go.RowKit Go.Proofs.YtclbjddcenkidaaW.PrintWords Go.Proofs.YtclbjddcenkidaaW.PrintLast Go.Proofs.YtclbjddcenkidaaW.PrintMore
attribute [local go_sem] max2_int min2_int max_two min_two max_three min_three max_four min_four   -- for this text's walks alone

def barscanref17_blocks.f (a0 : Int) : Option (List Int) := if a0 = 1 then (some (([1, 1, 1, 1, 1, 2, 2, 2, 2, 4, 4, 4, 4, 4, 6, 6, 6, 6, 7, 8, 8, 9, 9, 10, 12, 12, 12, 13, 14, 15, 16, 17, 18, 19, 19, 20, 21, 22, 24, 25] : List Int))) else (if a0 = 2 then (some (([1, 1, 1, 2, 2, 4, 4, 4, 5, 5, 5, 8, 9, 9, 10, 10, 11, 13, 14, 16, 17, 17, 18, 20, 21, 23, 25, 26, 28, 29, 31, 33, 35, 37, 38, 40, 43, 45, 47, 49] : List Int))) else (if a0 = 3 then (some (([1, 1, 2, 2, 4, 4, 6, 6, 8, 8, 8, 10, 12, 16, 12, 17, 16, 18, 21, 20, 23, 23, 25, 27, 29, 34, 34, 35, 38, 40, 43, 45, 48, 51, 53, 56, 59, 62, 65, 68] : List Int))) else (some (([1, 1, 2, 4, 4, 4, 5, 6, 8, 8, 11, 11, 16, 16, 18, 16, 19, 21, 25, 25, 25, 34, 30, 32, 35, 37, 40, 42, 45, 48, 51, 54, 57, 60, 63, 66, 70, 74, 77, 81] : List Int)))))
set_option maxHeartbeats 8000000 in
set_option maxRecDepth 100000 in
theorem barscanref17_blocks.calls (a0 : Int) (r : List Int) (w : World) (h : barscanref17_blocks.f a0 = some r) :
  Calls Try.prog 79 #[.int .i64 a0] w fun e w' => ∃ v0_ : Value, e = .returned (v0_) ∧ Kd.R (Kd.int .i64) 3 w' w.heap.size (fun _ => True) v0_ r ∧ Below w.heap.size w w' := by
 have HB := Aside0.mk (Below.refl w.heap.size w)
 have H : (if a0 = 1 then (some (([1, 1, 1, 1, 1, 2, 2, 2, 2, 4, 4, 4, 4, 4, 6, 6, 6, 6, 7, 8, 8, 9, 9, 10, 12, 12, 12, 13, 14, 15, 16, 17, 18, 19, 19, 20, 21, 22, 24, 25] : List Int))) else (if a0 = 2 then (some (([1, 1, 1, 2, 2, 4, 4, 4, 5, 5, 5, 8, 9, 9, 10, 10, 11, 13, 14, 16, 17, 17, 18, 20, 21, 23, 25, 26, 28, 29, 31, 33, 35, 37, 38, 40, 43, 45, 47, 49] : List Int))) else (if a0 = 3 then (some (([1, 1, 2, 2, 4, 4, 6, 6, 8, 8, 8, 10, 12, 16, 12, 17, 16, 18, 21, 20, 23, 23, 25, 27, 29, 34, 34, 35, 38, 40, 43, 45, 48, 51, 53, 56, 59, 62, 65, 68] : List Int))) else (some (([1, 1, 2, 4, 4, 4, 5, 6, 8, 8, 11, 11, 16, 16, 18, 16, 19, 21, 25, 25, 25, 34, 30, 32, 35, 37, 40, 42, 45, 48, 51, 54, 57, 60, 63, 66, 70, 74, 77, 81] : List Int)))))) = some r := h
 clear h
 by_cases c2 : a0 = 1
 ·rw [if_pos c2] at H
  have c2b0 : (a0 == 1) = true := beq_iff_eq.mpr c2
  have c2b1 : (a0 != 1) = false := bne_eq_false_iff_eq.mpr c2
  clear c2
  obtain ⟨y227, hy227⟩ : ∃ y_ : List Int, y_ = (([1, 1, 1, 1, 1, 2, 2, 2, 2, 4, 4, 4, 4, 4, 6, 6, 6, 6, 7, 8, 8, 9, 9, 10, 12, 12, 12, 13, 14, 15, 16, 17, 18, 19, 19, 20, 21, 22, 24, 25] : List Int)) := ⟨_, rfl⟩
  replace H : (some y227) = some r := by first | (rw [hy227]; with_reducible exact H) | (have H2_ := (Option.bind_some _ _).symm.trans H; rw [hy227]; with_reducible exact H2_) | (have H2_ := (Option.bind_some _ _).symm.trans H; with_reducible exact H2_) | with_reducible exact H | (rw [hy227]; exact H) | exact H
  have Ny227 := Aside0.mk hy227
  clear hy227
  obtain rfl := Option.some.inj H
  go_enter Try.func79, Try.ntmps79
  go_wp2_with (first | ((with_reducible refine gate_dst (N := 6) rfl ?_); refine Kd.R_lit (Kd.int .i64) _ 3 ?hg (N := 6) ?hd (xs := ([1, 1, 1, 1, 1, 2, 2, 2, 2, 4, 4, 4, 4, 4, 6, 6, 6, 6, 7, 8, 8, 9, 9, 10, 12, 12, 12, 13, 14, 15, 16, 17, 18, 19, 19, 20, 21, 22, 24, 25] : List Int)) (inner := [.int .i64 1, .int .i64 1, .int .i64 1, .int .i64 1, .int .i64 1, .int .i64 2, .int .i64 2, .int .i64 2, .int .i64 2, .int .i64 4, .int .i64 4, .int .i64 4, .int .i64 4, .int .i64 4, .int .i64 6, .int .i64 6, .int .i64 6, .int .i64 6, .int .i64 7, .int .i64 8, .int .i64 8, .int .i64 9, .int .i64 9, .int .i64 10, .int .i64 12, .int .i64 12, .int .i64 12, .int .i64 13, .int .i64 14, .int .i64 15, .int .i64 16, .int .i64 17, .int .i64 18, .int .i64 19, .int .i64 19, .int .i64 20, .int .i64 21, .int .i64 22, .int .i64 24, .int .i64 25]) (ok := fun _ => True) (okp := fun _ => True) ?hr ?hp (fun _ hk => hk) trivial (Below.refl _ _) (Nat.le_refl _) (by simp) ?_; (case hd => rfl); (case hg => rfl); (case hr => first | (go_simp; done) | (go_simp; rfl)); (case hp => exact (Reps.one (show Kd.M (Kd.int .i64) _ _ _ 1 [.int .i64 1] from rfl) (Reps.one (show Kd.M (Kd.int .i64) _ _ _ 1 [.int .i64 1] from rfl) (Reps.one (show Kd.M (Kd.int .i64) _ _ _ 1 [.int .i64 1] from rfl) (Reps.one (show Kd.M (Kd.int .i64) _ _ _ 1 [.int .i64 1] from rfl) (Reps.one (show Kd.M (Kd.int .i64) _ _ _ 1 [.int .i64 1] from rfl) (Reps.one (show Kd.M (Kd.int .i64) _ _ _ 2 [.int .i64 2] from rfl) (Reps.one (show Kd.M (Kd.int .i64) _ _ _ 2 [.int .i64 2] from rfl) (Reps.one (show Kd.M (Kd.int .i64) _ _ _ 2 [.int .i64 2] from rfl) (Reps.one (show Kd.M (Kd.int .i64) _ _ _ 2 [.int .i64 2] from rfl) (Reps.one (show Kd.M (Kd.int .i64) _ _ _ 4 [.int .i64 4] from rfl) (Reps.one (show Kd.M (Kd.int .i64) _ _ _ 4 [.int .i64 4] from rfl) (Reps.one (show Kd.M (Kd.int .i64) _ _ _ 4 [.int .i64 4] from rfl) (Reps.one (show Kd.M (Kd.int .i64) _ _ _ 4 [.int .i64 4] from rfl) (Reps.one (show Kd.M (Kd.int .i64) _ _ _ 4 [.int .i64 4] from rfl) (Reps.one (show Kd.M (Kd.int .i64) _ _ _ 6 [.int .i64 6] from rfl) (Reps.one (show Kd.M (Kd.int .i64) _ _ _ 6 [.int .i64 6] from rfl) (Reps.one (show Kd.M (Kd.int .i64) _ _ _ 6 [.int .i64 6] from rfl) (Reps.one (show Kd.M (Kd.int .i64) _ _ _ 6 [.int .i64 6] from rfl) (Reps.one (show Kd.M (Kd.int .i64) _ _ _ 7 [.int .i64 7] from rfl) (Reps.one (show Kd.M (Kd.int .i64) _ _ _ 8 [.int .i64 8] from rfl) (Reps.one (show Kd.M (Kd.int .i64) _ _ _ 8 [.int .i64 8] from rfl) (Reps.one (show Kd.M (Kd.int .i64) _ _ _ 9 [.int .i64 9] from rfl) (Reps.one (show Kd.M (Kd.int .i64) _ _ _ 9 [.int .i64 9] from rfl) (Reps.one (show Kd.M (Kd.int .i64) _ _ _ 10 [.int .i64 10] from rfl) (Reps.one (show Kd.M (Kd.int .i64) _ _ _ 12 [.int .i64 12] from rfl) (Reps.one (show Kd.M (Kd.int .i64) _ _ _ 12 [.int .i64 12] from rfl) (Reps.one (show Kd.M (Kd.int .i64) _ _ _ 12 [.int .i64 12] from rfl) (Reps.one (show Kd.M (Kd.int .i64) _ _ _ 13 [.int .i64 13] from rfl) (Reps.one (show Kd.M (Kd.int .i64) _ _ _ 14 [.int .i64 14] from rfl) (Reps.one (show Kd.M (Kd.int .i64) _ _ _ 15 [.int .i64 15] from rfl) (Reps.one (show Kd.M (Kd.int .i64) _ _ _ 16 [.int .i64 16] from rfl) (Reps.one (show Kd.M (Kd.int .i64) _ _ _ 17 [.int .i64 17] from rfl) (Reps.one (show Kd.M (Kd.int .i64) _ _ _ 18 [.int .i64 18] from rfl) (Reps.one (show Kd.M (Kd.int .i64) _ _ _ 19 [.int .i64 19] from rfl) (Reps.one (show Kd.M (Kd.int .i64) _ _ _ 19 [.int .i64 19] from rfl) (Reps.one (show Kd.M (Kd.int .i64) _ _ _ 20 [.int .i64 20] from rfl) (Reps.one (show Kd.M (Kd.int .i64) _ _ _ 21 [.int .i64 21] from rfl) (Reps.one (show Kd.M (Kd.int .i64) _ _ _ 22 [.int .i64 22] from rfl) (Reps.one (show Kd.M (Kd.int .i64) _ _ _ 24 [.int .i64 24] from rfl) (Reps.one (show Kd.M (Kd.int .i64) _ _ _ 25 [.int .i64 25] from rfl) (Reps.none _ _)))))))))))))))))))))))))))))))))))))))))); intro v228 w3 ho4 hb hg_ hnew_; clear hg_ hnew_; (first | rw [← Ny227.out] at ho4 | (simp only [Int.reduceToNat] at ho4; rw [← Ny227.out] at ho4)); have n0_ := Aside0.mk (Kd.R_lower ho4 (below_size (by repeat (first | (with_reducible first | exact HB.out | apply below_alloc | apply pw_below_drewN | apply below_drew1) | exact HB.out)))); have n1_ := Aside0.mk (below_step (by repeat (first | (with_reducible first | exact HB.out | apply below_alloc | apply pw_below_drewN | apply below_drew1) | exact HB.out)) hb); clear HB; have HO229 := n0_; have HB := n1_; clear n0_ n1_; clear hb ho4))
  go_ret
  exact ⟨_, by first | rfl | (simp [errW_none, errW_some] <;> rfl) | (simp [*, errW_none, errW_some] <;> rfl), by (with_reducible repeat (first | apply Kd.R_alloc | apply Kd.R_drewN | apply Kd.R_drew)); exact HO229.out, by repeat (first | (with_reducible first | exact HB.out | apply below_alloc | apply pw_below_drewN | apply below_drew1) | exact HB.out)⟩
 ·rw [if_neg c2] at H
  have c2b0 : (a0 == 1) = false := beq_eq_false_iff_ne.mpr c2
  have c2b1 : (a0 != 1) = true := bne_iff_ne.mpr c2
  by_cases c5 : a0 = 2
  ·rw [if_pos c5] at H
   have c5b0 : (a0 == 2) = true := beq_iff_eq.mpr c5
   have c5b1 : (a0 != 2) = false := bne_eq_false_iff_eq.mpr c5
   clear c5
   obtain ⟨y230, hy230⟩ : ∃ y_ : List Int, y_ = (([1, 1, 1, 2, 2, 4, 4, 4, 5, 5, 5, 8, 9, 9, 10, 10, 11, 13, 14, 16, 17, 17, 18, 20, 21, 23, 25, 26, 28, 29, 31, 33, 35, 37, 38, 40, 43, 45, 47, 49] : List Int)) := ⟨_, rfl⟩
   replace H : (some y230) = some r := by first | (rw [hy230]; with_reducible exact H) | (have H2_ := (Option.bind_some _ _).symm.trans H; rw [hy230]; with_reducible exact H2_) | (have H2_ := (Option.bind_some _ _).symm.trans H; with_reducible exact H2_) | with_reducible exact H | (rw [hy230]; exact H) | exact H
   have Ny230 := Aside0.mk hy230
   clear hy230
   obtain rfl := Option.some.inj H
   go_enter Try.func79, Try.ntmps79
   go_wp2_with (first | ((with_reducible refine gate_dst (N := 9) rfl ?_); refine Kd.R_lit (Kd.int .i64) _ 3 ?hg (N := 9) ?hd (xs := ([1, 1, 1, 2, 2, 4, 4, 4, 5, 5, 5, 8, 9, 9, 10, 10, 11, 13, 14, 16, 17, 17, 18, 20, 21, 23, 25, 26, 28, 29, 31, 33, 35, 37, 38, 40, 43, 45, 47, 49] : List Int)) (inner := [.int .i64 1, .int .i64 1, .int .i64 1, .int .i64 2, .int .i64 2, .int .i64 4, .int .i64 4, .int .i64 4, .int .i64 5, .int .i64 5, .int .i64 5, .int .i64 8, .int .i64 9, .int .i64 9, .int .i64 10, .int .i64 10, .int .i64 11, .int .i64 13, .int .i64 14, .int .i64 16, .int .i64 17, .int .i64 17, .int .i64 18, .int .i64 20, .int .i64 21, .int .i64 23, .int .i64 25, .int .i64 26, .int .i64 28, .int .i64 29, .int .i64 31, .int .i64 33, .int .i64 35, .int .i64 37, .int .i64 38, .int .i64 40, .int .i64 43, .int .i64 45, .int .i64 47, .int .i64 49]) (ok := fun _ => True) (okp := fun _ => True) ?hr ?hp (fun _ hk => hk) trivial (Below.refl _ _) (Nat.le_refl _) (by simp) ?_; (case hd => rfl); (case hg => rfl); (case hr => first | (go_simp; done) | (go_simp; rfl)); (case hp => exact (Reps.one (show Kd.M (Kd.int .i64) _ _ _ 1 [.int .i64 1] from rfl) (Reps.one (show Kd.M (Kd.int .i64) _ _ _ 1 [.int .i64 1] from rfl) (Reps.one (show Kd.M (Kd.int .i64) _ _ _ 1 [.int .i64 1] from rfl) (Reps.one (show Kd.M (Kd.int .i64) _ _ _ 2 [.int .i64 2] from rfl) (Reps.one (show Kd.M (Kd.int .i64) _ _ _ 2 [.int .i64 2] from rfl) (Reps.one (show Kd.M (Kd.int .i64) _ _ _ 4 [.int .i64 4] from rfl) (Reps.one (show Kd.M (Kd.int .i64) _ _ _ 4 [.int .i64 4] from rfl) (Reps.one (show Kd.M (Kd.int .i64) _ _ _ 4 [.int .i64 4] from rfl) (Reps.one (show Kd.M (Kd.int .i64) _ _ _ 5 [.int .i64 5] from rfl) (Reps.one (show Kd.M (Kd.int .i64) _ _ _ 5 [.int .i64 5] from rfl) (Reps.one (show Kd.M (Kd.int .i64) _ _ _ 5 [.int .i64 5] from rfl) (Reps.one (show Kd.M (Kd.int .i64) _ _ _ 8 [.int .i64 8] from rfl) (Reps.one (show Kd.M (Kd.int .i64) _ _ _ 9 [.int .i64 9] from rfl) (Reps.one (show Kd.M (Kd.int .i64) _ _ _ 9 [.int .i64 9] from rfl) (Reps.one (show Kd.M (Kd.int .i64) _ _ _ 10 [.int .i64 10] from rfl) (Reps.one (show Kd.M (Kd.int .i64) _ _ _ 10 [.int .i64 10] from rfl) (Reps.one (show Kd.M (Kd.int .i64) _ _ _ 11 [.int .i64 11] from rfl) (Reps.one (show Kd.M (Kd.int .i64) _ _ _ 13 [.int .i64 13] from rfl) (Reps.one (show Kd.M (Kd.int .i64) _ _ _ 14 [.int .i64 14] from rfl) (Reps.one (show Kd.M (Kd.int .i64) _ _ _ 16 [.int .i64 16] from rfl) (Reps.one (show Kd.M (Kd.int .i64) _ _ _ 17 [.int .i64 17] from rfl) (Reps.one (show Kd.M (Kd.int .i64) _ _ _ 17 [.int .i64 17] from rfl) (Reps.one (show Kd.M (Kd.int .i64) _ _ _ 18 [.int .i64 18] from rfl) (Reps.one (show Kd.M (Kd.int .i64) _ _ _ 20 [.int .i64 20] from rfl) (Reps.one (show Kd.M (Kd.int .i64) _ _ _ 21 [.int .i64 21] from rfl) (Reps.one (show Kd.M (Kd.int .i64) _ _ _ 23 [.int .i64 23] from rfl) (Reps.one (show Kd.M (Kd.int .i64) _ _ _ 25 [.int .i64 25] from rfl) (Reps.one (show Kd.M (Kd.int .i64) _ _ _ 26 [.int .i64 26] from rfl) (Reps.one (show Kd.M (Kd.int .i64) _ _ _ 28 [.int .i64 28] from rfl) (Reps.one (show Kd.M (Kd.int .i64) _ _ _ 29 [.int .i64 29] from rfl) (Reps.one (show Kd.M (Kd.int .i64) _ _ _ 31 [.int .i64 31] from rfl) (Reps.one (show Kd.M (Kd.int .i64) _ _ _ 33 [.int .i64 33] from rfl) (Reps.one (show Kd.M (Kd.int .i64) _ _ _ 35 [.int .i64 35] from rfl) (Reps.one (show Kd.M (Kd.int .i64) _ _ _ 37 [.int .i64 37] from rfl) (Reps.one (show Kd.M (Kd.int .i64) _ _ _ 38 [.int .i64 38] from rfl) (Reps.one (show Kd.M (Kd.int .i64) _ _ _ 40 [.int .i64 40] from rfl) (Reps.one (show Kd.M (Kd.int .i64) _ _ _ 43 [.int .i64 43] from rfl) (Reps.one (show Kd.M (Kd.int .i64) _ _ _ 45 [.int .i64 45] from rfl) (Reps.one (show Kd.M (Kd.int .i64) _ _ _ 47 [.int .i64 47] from rfl) (Reps.one (show Kd.M (Kd.int .i64) _ _ _ 49 [.int .i64 49] from rfl) (Reps.none _ _)))))))))))))))))))))))))))))))))))))))))); intro v231 w6 ho7 hb hg_ hnew_; clear hg_ hnew_; (first | rw [← Ny230.out] at ho7 | (simp only [Int.reduceToNat] at ho7; rw [← Ny230.out] at ho7)); have n0_ := Aside0.mk (Kd.R_lower ho7 (below_size (by repeat (first | (with_reducible first | exact HB.out | apply below_alloc | apply pw_below_drewN | apply below_drew1) | exact HB.out)))); have n1_ := Aside0.mk (below_step (by repeat (first | (with_reducible first | exact HB.out | apply below_alloc | apply pw_below_drewN | apply below_drew1) | exact HB.out)) hb); clear HB; have HO232 := n0_; have HB := n1_; clear n0_ n1_; clear hb ho7))
   go_ret
   exact ⟨_, by first | rfl | (simp [errW_none, errW_some] <;> rfl) | (simp [*, errW_none, errW_some] <;> rfl), by (with_reducible repeat (first | apply Kd.R_alloc | apply Kd.R_drewN | apply Kd.R_drew)); exact HO232.out, by repeat (first | (with_reducible first | exact HB.out | apply below_alloc | apply pw_below_drewN | apply below_drew1) | exact HB.out)⟩
  ·rw [if_neg c5] at H
   have c5b0 : (a0 == 2) = false := beq_eq_false_iff_ne.mpr c5
   have c5b1 : (a0 != 2) = true := bne_iff_ne.mpr c5
   by_cases c8 : a0 = 3
   ·rw [if_pos c8] at H
    have c8b0 : (a0 == 3) = true := beq_iff_eq.mpr c8
    have c8b1 : (a0 != 3) = false := bne_eq_false_iff_eq.mpr c8
    clear c8
    obtain ⟨y233, hy233⟩ : ∃ y_ : List Int, y_ = (([1, 1, 2, 2, 4, 4, 6, 6, 8, 8, 8, 10, 12, 16, 12, 17, 16, 18, 21, 20, 23, 23, 25, 27, 29, 34, 34, 35, 38, 40, 43, 45, 48, 51, 53, 56, 59, 62, 65, 68] : List Int)) := ⟨_, rfl⟩
    replace H : (some y233) = some r := by first | (rw [hy233]; with_reducible exact H) | (have H2_ := (Option.bind_some _ _).symm.trans H; rw [hy233]; with_reducible exact H2_) | (have H2_ := (Option.bind_some _ _).symm.trans H; with_reducible exact H2_) | with_reducible exact H | (rw [hy233]; exact H) | exact H
    have Ny233 := Aside0.mk hy233
    clear hy233
    obtain rfl := Option.some.inj H
    go_enter Try.func79, Try.ntmps79
    go_wp2_with (first | ((with_reducible refine gate_dst (N := 12) rfl ?_); refine Kd.R_lit (Kd.int .i64) _ 3 ?hg (N := 12) ?hd (xs := ([1, 1, 2, 2, 4, 4, 6, 6, 8, 8, 8, 10, 12, 16, 12, 17, 16, 18, 21, 20, 23, 23, 25, 27, 29, 34, 34, 35, 38, 40, 43, 45, 48, 51, 53, 56, 59, 62, 65, 68] : List Int)) (inner := [.int .i64 1, .int .i64 1, .int .i64 2, .int .i64 2, .int .i64 4, .int .i64 4, .int .i64 6, .int .i64 6, .int .i64 8, .int .i64 8, .int .i64 8, .int .i64 10, .int .i64 12, .int .i64 16, .int .i64 12, .int .i64 17, .int .i64 16, .int .i64 18, .int .i64 21, .int .i64 20, .int .i64 23, .int .i64 23, .int .i64 25, .int .i64 27, .int .i64 29, .int .i64 34, .int .i64 34, .int .i64 35, .int .i64 38, .int .i64 40, .int .i64 43, .int .i64 45, .int .i64 48, .int .i64 51, .int .i64 53, .int .i64 56, .int .i64 59, .int .i64 62, .int .i64 65, .int .i64 68]) (ok := fun _ => True) (okp := fun _ => True) ?hr ?hp (fun _ hk => hk) trivial (Below.refl _ _) (Nat.le_refl _) (by simp) ?_; (case hd => rfl); (case hg => rfl); (case hr => first | (go_simp; done) | (go_simp; rfl)); (case hp => exact (Reps.one (show Kd.M (Kd.int .i64) _ _ _ 1 [.int .i64 1] from rfl) (Reps.one (show Kd.M (Kd.int .i64) _ _ _ 1 [.int .i64 1] from rfl) (Reps.one (show Kd.M (Kd.int .i64) _ _ _ 2 [.int .i64 2] from rfl) (Reps.one (show Kd.M (Kd.int .i64) _ _ _ 2 [.int .i64 2] from rfl) (Reps.one (show Kd.M (Kd.int .i64) _ _ _ 4 [.int .i64 4] from rfl) (Reps.one (show Kd.M (Kd.int .i64) _ _ _ 4 [.int .i64 4] from rfl) (Reps.one (show Kd.M (Kd.int .i64) _ _ _ 6 [.int .i64 6] from rfl) (Reps.one (show Kd.M (Kd.int .i64) _ _ _ 6 [.int .i64 6] from rfl) (Reps.one (show Kd.M (Kd.int .i64) _ _ _ 8 [.int .i64 8] from rfl) (Reps.one (show Kd.M (Kd.int .i64) _ _ _ 8 [.int .i64 8] from rfl) (Reps.one (show Kd.M (Kd.int .i64) _ _ _ 8 [.int .i64 8] from rfl) (Reps.one (show Kd.M (Kd.int .i64) _ _ _ 10 [.int .i64 10] from rfl) (Reps.one (show Kd.M (Kd.int .i64) _ _ _ 12 [.int .i64 12] from rfl) (Reps.one (show Kd.M (Kd.int .i64) _ _ _ 16 [.int .i64 16] from rfl) (Reps.one (show Kd.M (Kd.int .i64) _ _ _ 12 [.int .i64 12] from rfl) (Reps.one (show Kd.M (Kd.int .i64) _ _ _ 17 [.int .i64 17] from rfl) (Reps.one (show Kd.M (Kd.int .i64) _ _ _ 16 [.int .i64 16] from rfl) (Reps.one (show Kd.M (Kd.int .i64) _ _ _ 18 [.int .i64 18] from rfl) (Reps.one (show Kd.M (Kd.int .i64) _ _ _ 21 [.int .i64 21] from rfl) (Reps.one (show Kd.M (Kd.int .i64) _ _ _ 20 [.int .i64 20] from rfl) (Reps.one (show Kd.M (Kd.int .i64) _ _ _ 23 [.int .i64 23] from rfl) (Reps.one (show Kd.M (Kd.int .i64) _ _ _ 23 [.int .i64 23] from rfl) (Reps.one (show Kd.M (Kd.int .i64) _ _ _ 25 [.int .i64 25] from rfl) (Reps.one (show Kd.M (Kd.int .i64) _ _ _ 27 [.int .i64 27] from rfl) (Reps.one (show Kd.M (Kd.int .i64) _ _ _ 29 [.int .i64 29] from rfl) (Reps.one (show Kd.M (Kd.int .i64) _ _ _ 34 [.int .i64 34] from rfl) (Reps.one (show Kd.M (Kd.int .i64) _ _ _ 34 [.int .i64 34] from rfl) (Reps.one (show Kd.M (Kd.int .i64) _ _ _ 35 [.int .i64 35] from rfl) (Reps.one (show Kd.M (Kd.int .i64) _ _ _ 38 [.int .i64 38] from rfl) (Reps.one (show Kd.M (Kd.int .i64) _ _ _ 40 [.int .i64 40] from rfl) (Reps.one (show Kd.M (Kd.int .i64) _ _ _ 43 [.int .i64 43] from rfl) (Reps.one (show Kd.M (Kd.int .i64) _ _ _ 45 [.int .i64 45] from rfl) (Reps.one (show Kd.M (Kd.int .i64) _ _ _ 48 [.int .i64 48] from rfl) (Reps.one (show Kd.M (Kd.int .i64) _ _ _ 51 [.int .i64 51] from rfl) (Reps.one (show Kd.M (Kd.int .i64) _ _ _ 53 [.int .i64 53] from rfl) (Reps.one (show Kd.M (Kd.int .i64) _ _ _ 56 [.int .i64 56] from rfl) (Reps.one (show Kd.M (Kd.int .i64) _ _ _ 59 [.int .i64 59] from rfl) (Reps.one (show Kd.M (Kd.int .i64) _ _ _ 62 [.int .i64 62] from rfl) (Reps.one (show Kd.M (Kd.int .i64) _ _ _ 65 [.int .i64 65] from rfl) (Reps.one (show Kd.M (Kd.int .i64) _ _ _ 68 [.int .i64 68] from rfl) (Reps.none _ _)))))))))))))))))))))))))))))))))))))))))); intro v234 w9 ho10 hb hg_ hnew_; clear hg_ hnew_; (first | rw [← Ny233.out] at ho10 | (simp only [Int.reduceToNat] at ho10; rw [← Ny233.out] at ho10)); have n0_ := Aside0.mk (Kd.R_lower ho10 (below_size (by repeat (first | (with_reducible first | exact HB.out | apply below_alloc | apply pw_below_drewN | apply below_drew1) | exact HB.out)))); have n1_ := Aside0.mk (below_step (by repeat (first | (with_reducible first | exact HB.out | apply below_alloc | apply pw_below_drewN | apply below_drew1) | exact HB.out)) hb); clear HB; have HO235 := n0_; have HB := n1_; clear n0_ n1_; clear hb ho10))
    go_ret
    exact ⟨_, by first | rfl | (simp [errW_none, errW_some] <;> rfl) | (simp [*, errW_none, errW_some] <;> rfl), by (with_reducible repeat (first | apply Kd.R_alloc | apply Kd.R_drewN | apply Kd.R_drew)); exact HO235.out, by repeat (first | (with_reducible first | exact HB.out | apply below_alloc | apply pw_below_drewN | apply below_drew1) | exact HB.out)⟩
   ·rw [if_neg c8] at H
    have c8b0 : (a0 == 3) = false := beq_eq_false_iff_ne.mpr c8
    have c8b1 : (a0 != 3) = true := bne_iff_ne.mpr c8
    obtain ⟨y236, hy236⟩ : ∃ y_ : List Int, y_ = (([1, 1, 2, 4, 4, 4, 5, 6, 8, 8, 11, 11, 16, 16, 18, 16, 19, 21, 25, 25, 25, 34, 30, 32, 35, 37, 40, 42, 45, 48, 51, 54, 57, 60, 63, 66, 70, 74, 77, 81] : List Int)) := ⟨_, rfl⟩
    replace H : (some y236) = some r := by first | (rw [hy236]; with_reducible exact H) | (have H2_ := (Option.bind_some _ _).symm.trans H; rw [hy236]; with_reducible exact H2_) | (have H2_ := (Option.bind_some _ _).symm.trans H; with_reducible exact H2_) | with_reducible exact H | (rw [hy236]; exact H) | exact H
    have Ny236 := Aside0.mk hy236
    clear hy236
    obtain rfl := Option.some.inj H
    go_enter Try.func79, Try.ntmps79
    go_wp2_with (first | ((with_reducible refine gate_dst (N := 13) rfl ?_); refine Kd.R_lit (Kd.int .i64) _ 3 ?hg (N := 13) ?hd (xs := ([1, 1, 2, 4, 4, 4, 5, 6, 8, 8, 11, 11, 16, 16, 18, 16, 19, 21, 25, 25, 25, 34, 30, 32, 35, 37, 40, 42, 45, 48, 51, 54, 57, 60, 63, 66, 70, 74, 77, 81] : List Int)) (inner := [.int .i64 1, .int .i64 1, .int .i64 2, .int .i64 4, .int .i64 4, .int .i64 4, .int .i64 5, .int .i64 6, .int .i64 8, .int .i64 8, .int .i64 11, .int .i64 11, .int .i64 16, .int .i64 16, .int .i64 18, .int .i64 16, .int .i64 19, .int .i64 21, .int .i64 25, .int .i64 25, .int .i64 25, .int .i64 34, .int .i64 30, .int .i64 32, .int .i64 35, .int .i64 37, .int .i64 40, .int .i64 42, .int .i64 45, .int .i64 48, .int .i64 51, .int .i64 54, .int .i64 57, .int .i64 60, .int .i64 63, .int .i64 66, .int .i64 70, .int .i64 74, .int .i64 77, .int .i64 81]) (ok := fun _ => True) (okp := fun _ => True) ?hr ?hp (fun _ hk => hk) trivial (Below.refl _ _) (Nat.le_refl _) (by simp) ?_; (case hd => rfl); (case hg => rfl); (case hr => first | (go_simp; done) | (go_simp; rfl)); (case hp => exact (Reps.one (show Kd.M (Kd.int .i64) _ _ _ 1 [.int .i64 1] from rfl) (Reps.one (show Kd.M (Kd.int .i64) _ _ _ 1 [.int .i64 1] from rfl) (Reps.one (show Kd.M (Kd.int .i64) _ _ _ 2 [.int .i64 2] from rfl) (Reps.one (show Kd.M (Kd.int .i64) _ _ _ 4 [.int .i64 4] from rfl) (Reps.one (show Kd.M (Kd.int .i64) _ _ _ 4 [.int .i64 4] from rfl) (Reps.one (show Kd.M (Kd.int .i64) _ _ _ 4 [.int .i64 4] from rfl) (Reps.one (show Kd.M (Kd.int .i64) _ _ _ 5 [.int .i64 5] from rfl) (Reps.one (show Kd.M (Kd.int .i64) _ _ _ 6 [.int .i64 6] from rfl) (Reps.one (show Kd.M (Kd.int .i64) _ _ _ 8 [.int .i64 8] from rfl) (Reps.one (show Kd.M (Kd.int .i64) _ _ _ 8 [.int .i64 8] from rfl) (Reps.one (show Kd.M (Kd.int .i64) _ _ _ 11 [.int .i64 11] from rfl) (Reps.one (show Kd.M (Kd.int .i64) _ _ _ 11 [.int .i64 11] from rfl) (Reps.one (show Kd.M (Kd.int .i64) _ _ _ 16 [.int .i64 16] from rfl) (Reps.one (show Kd.M (Kd.int .i64) _ _ _ 16 [.int .i64 16] from rfl) (Reps.one (show Kd.M (Kd.int .i64) _ _ _ 18 [.int .i64 18] from rfl) (Reps.one (show Kd.M (Kd.int .i64) _ _ _ 16 [.int .i64 16] from rfl) (Reps.one (show Kd.M (Kd.int .i64) _ _ _ 19 [.int .i64 19] from rfl) (Reps.one (show Kd.M (Kd.int .i64) _ _ _ 21 [.int .i64 21] from rfl) (Reps.one (show Kd.M (Kd.int .i64) _ _ _ 25 [.int .i64 25] from rfl) (Reps.one (show Kd.M (Kd.int .i64) _ _ _ 25 [.int .i64 25] from rfl) (Reps.one (show Kd.M (Kd.int .i64) _ _ _ 25 [.int .i64 25] from rfl) (Reps.one (show Kd.M (Kd.int .i64) _ _ _ 34 [.int .i64 34] from rfl) (Reps.one (show Kd.M (Kd.int .i64) _ _ _ 30 [.int .i64 30] from rfl) (Reps.one (show Kd.M (Kd.int .i64) _ _ _ 32 [.int .i64 32] from rfl) (Reps.one (show Kd.M (Kd.int .i64) _ _ _ 35 [.int .i64 35] from rfl) (Reps.one (show Kd.M (Kd.int .i64) _ _ _ 37 [.int .i64 37] from rfl) (Reps.one (show Kd.M (Kd.int .i64) _ _ _ 40 [.int .i64 40] from rfl) (Reps.one (show Kd.M (Kd.int .i64) _ _ _ 42 [.int .i64 42] from rfl) (Reps.one (show Kd.M (Kd.int .i64) _ _ _ 45 [.int .i64 45] from rfl) (Reps.one (show Kd.M (Kd.int .i64) _ _ _ 48 [.int .i64 48] from rfl) (Reps.one (show Kd.M (Kd.int .i64) _ _ _ 51 [.int .i64 51] from rfl) (Reps.one (show Kd.M (Kd.int .i64) _ _ _ 54 [.int .i64 54] from rfl) (Reps.one (show Kd.M (Kd.int .i64) _ _ _ 57 [.int .i64 57] from rfl) (Reps.one (show Kd.M (Kd.int .i64) _ _ _ 60 [.int .i64 60] from rfl) (Reps.one (show Kd.M (Kd.int .i64) _ _ _ 63 [.int .i64 63] from rfl) (Reps.one (show Kd.M (Kd.int .i64) _ _ _ 66 [.int .i64 66] from rfl) (Reps.one (show Kd.M (Kd.int .i64) _ _ _ 70 [.int .i64 70] from rfl) (Reps.one (show Kd.M (Kd.int .i64) _ _ _ 74 [.int .i64 74] from rfl) (Reps.one (show Kd.M (Kd.int .i64) _ _ _ 77 [.int .i64 77] from rfl) (Reps.one (show Kd.M (Kd.int .i64) _ _ _ 81 [.int .i64 81] from rfl) (Reps.none _ _)))))))))))))))))))))))))))))))))))))))))); intro v237 w11 ho12 hb hg_ hnew_; clear hg_ hnew_; (first | rw [← Ny236.out] at ho12 | (simp only [Int.reduceToNat] at ho12; rw [← Ny236.out] at ho12)); have n0_ := Aside0.mk (Kd.R_lower ho12 (below_size (by repeat (first | (with_reducible first | exact HB.out | apply below_alloc | apply pw_below_drewN | apply below_drew1) | exact HB.out)))); have n1_ := Aside0.mk (below_step (by repeat (first | (with_reducible first | exact HB.out | apply below_alloc | apply pw_below_drewN | apply below_drew1) | exact HB.out)) hb); clear HB; have HO238 := n0_; have HB := n1_; clear n0_ n1_; clear hb ho12))
    go_ret
    exact ⟨_, by first | rfl | (simp [errW_none, errW_some] <;> rfl) | (simp [*, errW_none, errW_some] <;> rfl), by (with_reducible repeat (first | apply Kd.R_alloc | apply Kd.R_drewN | apply Kd.R_drew)); exact HO238.out, by repeat (first | (with_reducible first | exact HB.out | apply below_alloc | apply pw_below_drewN | apply below_drew1) | exact HB.out)⟩

end Go.Proofs.Ytclbjddcenkidaa.PS
namespace Go.Proofs.Ytclbjddcenkidaa.PS
open Go.RowKit Go.Proofs.YtclbjddcenkidaaW.PrintWords Go.Proofs.YtclbjddcenkidaaW.PrintLast Go.Proofs.YtclbjddcenkidaaW.PrintMore
attribute [local go_sem] max2_int min2_int max_two min_two max_three min_three max_four min_four   -- for this text's walks alone

def barscanref17_checks.f (a0 : Int) : Option (List Int) := if a0 = 1 then (some (([7, 10, 15, 20, 26, 18, 20, 24, 30, 18, 20, 24, 26, 30, 22, 24, 28, 30, 28, 28, 28, 28, 30, 30, 26, 28, 30, 30, 30, 30, 30, 30, 30, 30, 30, 30, 30, 30, 30, 30] : List Int))) else (if a0 = 2 then (some (([10, 16, 26, 18, 24, 16, 18, 22, 22, 26, 30, 22, 22, 24, 24, 28, 28, 26, 26, 26, 26, 28, 28, 28, 28, 28, 28, 28, 28, 28, 28, 28, 28, 28, 28, 28, 28, 28, 28, 28] : List Int))) else (if a0 = 3 then (some (([13, 22, 18, 26, 18, 24, 18, 22, 20, 24, 28, 26, 24, 20, 30, 24, 28, 28, 26, 30, 28, 30, 30, 30, 30, 28, 30, 30, 30, 30, 30, 30, 30, 30, 30, 30, 30, 30, 30, 30] : List Int))) else (some (([17, 28, 22, 16, 22, 28, 26, 26, 24, 28, 24, 28, 22, 24, 24, 30, 28, 28, 26, 28, 30, 24, 30, 30, 30, 30, 30, 30, 30, 30, 30, 30, 30, 30, 30, 30, 30, 30, 30, 30] : List Int)))))
set_option maxHeartbeats 8000000 in
set_option maxRecDepth 100000 in
theorem barscanref17_checks.calls (a0 : Int) (r : List Int) (w : World) (h : barscanref17_checks.f a0 = some r) :
  Calls Try.prog 80 #[.int .i64 a0] w fun e w' => ∃ v0_ : Value, e = .returned (v0_) ∧ Kd.R (Kd.int .i64) 3 w' w.heap.size (fun _ => True) v0_ r ∧ Below w.heap.size w w' := by
 have HB := Aside0.mk (Below.refl w.heap.size w)
 have H : (if a0 = 1 then (some (([7, 10, 15, 20, 26, 18, 20, 24, 30, 18, 20, 24, 26, 30, 22, 24, 28, 30, 28, 28, 28, 28, 30, 30, 26, 28, 30, 30, 30, 30, 30, 30, 30, 30, 30, 30, 30, 30, 30, 30] : List Int))) else (if a0 = 2 then (some (([10, 16, 26, 18, 24, 16, 18, 22, 22, 26, 30, 22, 22, 24, 24, 28, 28, 26, 26, 26, 26, 28, 28, 28, 28, 28, 28, 28, 28, 28, 28, 28, 28, 28, 28, 28, 28, 28, 28, 28] : List Int))) else (if a0 = 3 then (some (([13, 22, 18, 26, 18, 24, 18, 22, 20, 24, 28, 26, 24, 20, 30, 24, 28, 28, 26, 30, 28, 30, 30, 30, 30, 28, 30, 30, 30, 30, 30, 30, 30, 30, 30, 30, 30, 30, 30, 30] : List Int))) else (some (([17, 28, 22, 16, 22, 28, 26, 26, 24, 28, 24, 28, 22, 24, 24, 30, 28, 28, 26, 28, 30, 24, 30, 30, 30, 30, 30, 30, 30, 30, 30, 30, 30, 30, 30, 30, 30, 30, 30, 30] : List Int)))))) = some r := h
 clear h
 by_cases c2 : a0 = 1
 ·rw [if_pos c2] at H
  have c2b0 : (a0 == 1) = true := beq_iff_eq.mpr c2
  have c2b1 : (a0 != 1) = false := bne_eq_false_iff_eq.mpr c2
  clear c2
  obtain ⟨y239, hy239⟩ : ∃ y_ : List Int, y_ = (([7, 10, 15, 20, 26, 18, 20, 24, 30, 18, 20, 24, 26, 30, 22, 24, 28, 30, 28, 28, 28, 28, 30, 30, 26, 28, 30, 30, 30, 30, 30, 30, 30, 30, 30, 30, 30, 30, 30, 30] : List Int)) := ⟨_, rfl⟩
  replace H : (some y239) = some r := by first | (rw [hy239]; with_reducible exact H) | (have H2_ := (Option.bind_some _ _).symm.trans H; rw [hy239]; with_reducible exact H2_) | (have H2_ := (Option.bind_some _ _).symm.trans H; with_reducible exact H2_) | with_reducible exact H | (rw [hy239]; exact H) | exact H
  have Ny239 := Aside0.mk hy239
  clear hy239
  obtain rfl := Option.some.inj H
  go_enter Try.func80, Try.ntmps80
  go_wp2_with (first | ((with_reducible refine gate_dst (N := 6) rfl ?_); refine Kd.R_lit (Kd.int .i64) _ 3 ?hg (N := 6) ?hd (xs := ([7, 10, 15, 20, 26, 18, 20, 24, 30, 18, 20, 24, 26, 30, 22, 24, 28, 30, 28, 28, 28, 28, 30, 30, 26, 28, 30, 30, 30, 30, 30, 30, 30, 30, 30, 30, 30, 30, 30, 30] : List Int)) (inner := [.int .i64 7, .int .i64 10, .int .i64 15, .int .i64 20, .int .i64 26, .int .i64 18, .int .i64 20, .int .i64 24, .int .i64 30, .int .i64 18, .int .i64 20, .int .i64 24, .int .i64 26, .int .i64 30, .int .i64 22, .int .i64 24, .int .i64 28, .int .i64 30, .int .i64 28, .int .i64 28, .int .i64 28, .int .i64 28, .int .i64 30, .int .i64 30, .int .i64 26, .int .i64 28, .int .i64 30, .int .i64 30, .int .i64 30, .int .i64 30, .int .i64 30, .int .i64 30, .int .i64 30, .int .i64 30, .int .i64 30, .int .i64 30, .int .i64 30, .int .i64 30, .int .i64 30, .int .i64 30]) (ok := fun _ => True) (okp := fun _ => True) ?hr ?hp (fun _ hk => hk) trivial (Below.refl _ _) (Nat.le_refl _) (by simp) ?_; (case hd => rfl); (case hg => rfl); (case hr => first | (go_simp; done) | (go_simp; rfl)); (case hp => exact (Reps.one (show Kd.M (Kd.int .i64) _ _ _ 7 [.int .i64 7] from rfl) (Reps.one (show Kd.M (Kd.int .i64) _ _ _ 10 [.int .i64 10] from rfl) (Reps.one (show Kd.M (Kd.int .i64) _ _ _ 15 [.int .i64 15] from rfl) (Reps.one (show Kd.M (Kd.int .i64) _ _ _ 20 [.int .i64 20] from rfl) (Reps.one (show Kd.M (Kd.int .i64) _ _ _ 26 [.int .i64 26] from rfl) (Reps.one (show Kd.M (Kd.int .i64) _ _ _ 18 [.int .i64 18] from rfl) (Reps.one (show Kd.M (Kd.int .i64) _ _ _ 20 [.int .i64 20] from rfl) (Reps.one (show Kd.M (Kd.int .i64) _ _ _ 24 [.int .i64 24] from rfl) (Reps.one (show Kd.M (Kd.int .i64) _ _ _ 30 [.int .i64 30] from rfl) (Reps.one (show Kd.M (Kd.int .i64) _ _ _ 18 [.int .i64 18] from rfl) (Reps.one (show Kd.M (Kd.int .i64) _ _ _ 20 [.int .i64 20] from rfl) (Reps.one (show Kd.M (Kd.int .i64) _ _ _ 24 [.int .i64 24] from rfl) (Reps.one (show Kd.M (Kd.int .i64) _ _ _ 26 [.int .i64 26] from rfl) (Reps.one (show Kd.M (Kd.int .i64) _ _ _ 30 [.int .i64 30] from rfl) (Reps.one (show Kd.M (Kd.int .i64) _ _ _ 22 [.int .i64 22] from rfl) (Reps.one (show Kd.M (Kd.int .i64) _ _ _ 24 [.int .i64 24] from rfl) (Reps.one (show Kd.M (Kd.int .i64) _ _ _ 28 [.int .i64 28] from rfl) (Reps.one (show Kd.M (Kd.int .i64) _ _ _ 30 [.int .i64 30] from rfl) (Reps.one (show Kd.M (Kd.int .i64) _ _ _ 28 [.int .i64 28] from rfl) (Reps.one (show Kd.M (Kd.int .i64) _ _ _ 28 [.int .i64 28] from rfl) (Reps.one (show Kd.M (Kd.int .i64) _ _ _ 28 [.int .i64 28] from rfl) (Reps.one (show Kd.M (Kd.int .i64) _ _ _ 28 [.int .i64 28] from rfl) (Reps.one (show Kd.M (Kd.int .i64) _ _ _ 30 [.int .i64 30] from rfl) (Reps.one (show Kd.M (Kd.int .i64) _ _ _ 30 [.int .i64 30] from rfl) (Reps.one (show Kd.M (Kd.int .i64) _ _ _ 26 [.int .i64 26] from rfl) (Reps.one (show Kd.M (Kd.int .i64) _ _ _ 28 [.int .i64 28] from rfl) (Reps.one (show Kd.M (Kd.int .i64) _ _ _ 30 [.int .i64 30] from rfl) (Reps.one (show Kd.M (Kd.int .i64) _ _ _ 30 [.int .i64 30] from rfl) (Reps.one (show Kd.M (Kd.int .i64) _ _ _ 30 [.int .i64 30] from rfl) (Reps.one (show Kd.M (Kd.int .i64) _ _ _ 30 [.int .i64 30] from rfl) (Reps.one (show Kd.M (Kd.int .i64) _ _ _ 30 [.int .i64 30] from rfl) (Reps.one (show Kd.M (Kd.int .i64) _ _ _ 30 [.int .i64 30] from rfl) (Reps.one (show Kd.M (Kd.int .i64) _ _ _ 30 [.int .i64 30] from rfl) (Reps.one (show Kd.M (Kd.int .i64) _ _ _ 30 [.int .i64 30] from rfl) (Reps.one (show Kd.M (Kd.int .i64) _ _ _ 30 [.int .i64 30] from rfl) (Reps.one (show Kd.M (Kd.int .i64) _ _ _ 30 [.int .i64 30] from rfl) (Reps.one (show Kd.M (Kd.int .i64) _ _ _ 30 [.int .i64 30] from rfl) (Reps.one (show Kd.M (Kd.int .i64) _ _ _ 30 [.int .i64 30] from rfl) (Reps.one (show Kd.M (Kd.int .i64) _ _ _ 30 [.int .i64 30] from rfl) (Reps.one (show Kd.M (Kd.int .i64) _ _ _ 30 [.int .i64 30] from rfl) (Reps.none _ _)))))))))))))))))))))))))))))))))))))))))); intro v240 w3 ho4 hb hg_ hnew_; clear hg_ hnew_; (first | rw [← Ny239.out] at ho4 | (simp only [Int.reduceToNat] at ho4; rw [← Ny239.out] at ho4)); have n0_ := Aside0.mk (Kd.R_lower ho4 (below_size (by repeat (first | (with_reducible first | exact HB.out | apply below_alloc | apply pw_below_drewN | apply below_drew1) | exact HB.out)))); have n1_ := Aside0.mk (below_step (by repeat (first | (with_reducible first | exact HB.out | apply below_alloc | apply pw_below_drewN | apply below_drew1) | exact HB.out)) hb); clear HB; have HO241 := n0_; have HB := n1_; clear n0_ n1_; clear hb ho4))
  go_ret
  exact ⟨_, by first | rfl | (simp [errW_none, errW_some] <;> rfl) | (simp [*, errW_none, errW_some] <;> rfl), by (with_reducible repeat (first | apply Kd.R_alloc | apply Kd.R_drewN | apply Kd.R_drew)); exact HO241.out, by repeat (first | (with_reducible first | exact HB.out | apply below_alloc | apply pw_below_drewN | apply below_drew1) | exact HB.out)⟩
 ·rw [if_neg c2] at H
  have c2b0 : (a0 == 1) = false := beq_eq_false_iff_ne.mpr c2
  have c2b1 : (a0 != 1) = true := bne_iff_ne.mpr c2
  by_cases c5 : a0 = 2
  ·rw [if_pos c5] at H
   have c5b0 : (a0 == 2) = true := beq_iff_eq.mpr c5
   have c5b1 : (a0 != 2) = false := bne_eq_false_iff_eq.mpr c5
   clear c5
   obtain ⟨y242, hy242⟩ : ∃ y_ : List Int, y_ = (([10, 16, 26, 18, 24, 16, 18, 22, 22, 26, 30, 22, 22, 24, 24, 28, 28, 26, 26, 26, 26, 28, 28, 28, 28, 28, 28, 28, 28, 28, 28, 28, 28, 28, 28, 28, 28, 28, 28, 28] : List Int)) := ⟨_, rfl⟩
   replace H : (some y242) = some r := by first | (rw [hy242]; with_reducible exact H) | (have H2_ := (Option.bind_some _ _).symm.trans H; rw [hy242]; with_reducible exact H2_) | (have H2_ := (Option.bind_some _ _).symm.trans H; with_reducible exact H2_) | with_reducible exact H | (rw [hy242]; exact H) | exact H
   have Ny242 := Aside0.mk hy242
   clear hy242
   obtain rfl := Option.some.inj H
   go_enter Try.func80, Try.ntmps80
   go_wp2_with (first | ((with_reducible refine gate_dst (N := 9) rfl ?_); refine Kd.R_lit (Kd.int .i64) _ 3 ?hg (N := 9) ?hd (xs := ([10, 16, 26, 18, 24, 16, 18, 22, 22, 26, 30, 22, 22, 24, 24, 28, 28, 26, 26, 26, 26, 28, 28, 28, 28, 28, 28, 28, 28, 28, 28, 28, 28, 28, 28, 28, 28, 28, 28, 28] : List Int)) (inner := [.int .i64 10, .int .i64 16, .int .i64 26, .int .i64 18, .int .i64 24, .int .i64 16, .int .i64 18, .int .i64 22, .int .i64 22, .int .i64 26, .int .i64 30, .int .i64 22, .int .i64 22, .int .i64 24, .int .i64 24, .int .i64 28, .int .i64 28, .int .i64 26, .int .i64 26, .int .i64 26, .int .i64 26, .int .i64 28, .int .i64 28, .int .i64 28, .int .i64 28, .int .i64 28, .int .i64 28, .int .i64 28, .int .i64 28, .int .i64 28, .int .i64 28, .int .i64 28, .int .i64 28, .int .i64 28, .int .i64 28, .int .i64 28, .int .i64 28, .int .i64 28, .int .i64 28, .int .i64 28]) (ok := fun _ => True) (okp := fun _ => True) ?hr ?hp (fun _ hk => hk) trivial (Below.refl _ _) (Nat.le_refl _) (by simp) ?_; (case hd => rfl); (case hg => rfl); (case hr => first | (go_simp; done) | (go_simp; rfl)); (case hp => exact (Reps.one (show Kd.M (Kd.int .i64) _ _ _ 10 [.int .i64 10] from rfl) (Reps.one (show Kd.M (Kd.int .i64) _ _ _ 16 [.int .i64 16] from rfl) (Reps.one (show Kd.M (Kd.int .i64) _ _ _ 26 [.int .i64 26] from rfl) (Reps.one (show Kd.M (Kd.int .i64) _ _ _ 18 [.int .i64 18] from rfl) (Reps.one (show Kd.M (Kd.int .i64) _ _ _ 24 [.int .i64 24] from rfl) (Reps.one (show Kd.M (Kd.int .i64) _ _ _ 16 [.int .i64 16] from rfl) (Reps.one (show Kd.M (Kd.int .i64) _ _ _ 18 [.int .i64 18] from rfl) (Reps.one (show Kd.M (Kd.int .i64) _ _ _ 22 [.int .i64 22] from rfl) (Reps.one (show Kd.M (Kd.int .i64) _ _ _ 22 [.int .i64 22] from rfl) (Reps.one (show Kd.M (Kd.int .i64) _ _ _ 26 [.int .i64 26] from rfl) (Reps.one (show Kd.M (Kd.int .i64) _ _ _ 30 [.int .i64 30] from rfl) (Reps.one (show Kd.M (Kd.int .i64) _ _ _ 22 [.int .i64 22] from rfl) (Reps.one (show Kd.M (Kd.int .i64) _ _ _ 22 [.int .i64 22] from rfl) (Reps.one (show Kd.M (Kd.int .i64) _ _ _ 24 [.int .i64 24] from rfl) (Reps.one (show Kd.M (Kd.int .i64) _ _ _ 24 [.int .i64 24] from rfl) (Reps.one (show Kd.M (Kd.int .i64) _ _ _ 28 [.int .i64 28] from rfl) (Reps.one (show Kd.M (Kd.int .i64) _ _ _ 28 [.int .i64 28] from rfl) (Reps.one (show Kd.M (Kd.int .i64) _ _ _ 26 [.int .i64 26] from rfl) (Reps.one (show Kd.M (Kd.int .i64) _ _ _ 26 [.int .i64 26] from rfl) (Reps.one (show Kd.M (Kd.int .i64) _ _ _ 26 [.int .i64 26] from rfl) (Reps.one (show Kd.M (Kd.int .i64) _ _ _ 26 [.int .i64 26] from rfl) (Reps.one (show Kd.M (Kd.int .i64) _ _ _ 28 [.int .i64 28] from rfl) (Reps.one (show Kd.M (Kd.int .i64) _ _ _ 28 [.int .i64 28] from rfl) (Reps.one (show Kd.M (Kd.int .i64) _ _ _ 28 [.int .i64 28] from rfl) (Reps.one (show Kd.M (Kd.int .i64) _ _ _ 28 [.int .i64 28] from rfl) (Reps.one (show Kd.M (Kd.int .i64) _ _ _ 28 [.int .i64 28] from rfl) (Reps.one (show Kd.M (Kd.int .i64) _ _ _ 28 [.int .i64 28] from rfl) (Reps.one (show Kd.M (Kd.int .i64) _ _ _ 28 [.int .i64 28] from rfl) (Reps.one (show Kd.M (Kd.int .i64) _ _ _ 28 [.int .i64 28] from rfl) (Reps.one (show Kd.M (Kd.int .i64) _ _ _ 28 [.int .i64 28] from rfl) (Reps.one (show Kd.M (Kd.int .i64) _ _ _ 28 [.int .i64 28] from rfl) (Reps.one (show Kd.M (Kd.int .i64) _ _ _ 28 [.int .i64 28] from rfl) (Reps.one (show Kd.M (Kd.int .i64) _ _ _ 28 [.int .i64 28] from rfl) (Reps.one (show Kd.M (Kd.int .i64) _ _ _ 28 [.int .i64 28] from rfl) (Reps.one (show Kd.M (Kd.int .i64) _ _ _ 28 [.int .i64 28] from rfl) (Reps.one (show Kd.M (Kd.int .i64) _ _ _ 28 [.int .i64 28] from rfl) (Reps.one (show Kd.M (Kd.int .i64) _ _ _ 28 [.int .i64 28] from rfl) (Reps.one (show Kd.M (Kd.int .i64) _ _ _ 28 [.int .i64 28] from rfl) (Reps.one (show Kd.M (Kd.int .i64) _ _ _ 28 [.int .i64 28] from rfl) (Reps.one (show Kd.M (Kd.int .i64) _ _ _ 28 [.int .i64 28] from rfl) (Reps.none _ _)))))))))))))))))))))))))))))))))))))))))); intro v243 w6 ho7 hb hg_ hnew_; clear hg_ hnew_; (first | rw [← Ny242.out] at ho7 | (simp only [Int.reduceToNat] at ho7; rw [← Ny242.out] at ho7)); have n0_ := Aside0.mk (Kd.R_lower ho7 (below_size (by repeat (first | (with_reducible first | exact HB.out | apply below_alloc | apply pw_below_drewN | apply below_drew1) | exact HB.out)))); have n1_ := Aside0.mk (below_step (by repeat (first | (with_reducible first | exact HB.out | apply below_alloc | apply pw_below_drewN | apply below_drew1) | exact HB.out)) hb); clear HB; have HO244 := n0_; have HB := n1_; clear n0_ n1_; clear hb ho7))
   go_ret
   exact ⟨_, by first | rfl | (simp [errW_none, errW_some] <;> rfl) | (simp [*, errW_none, errW_some] <;> rfl), by (with_reducible repeat (first | apply Kd.R_alloc | apply Kd.R_drewN | apply Kd.R_drew)); exact HO244.out, by repeat (first | (with_reducible first | exact HB.out | apply below_alloc | apply pw_below_drewN | apply below_drew1) | exact HB.out)⟩
  ·rw [if_neg c5] at H
   have c5b0 : (a0 == 2) = false := beq_eq_false_iff_ne.mpr c5
   have c5b1 : (a0 != 2) = true := bne_iff_ne.mpr c5
   by_cases c8 : a0 = 3
   ·rw [if_pos c8] at H
    have c8b0 : (a0 == 3) = true := beq_iff_eq.mpr c8
    have c8b1 : (a0 != 3) = false := bne_eq_false_iff_eq.mpr c8
    clear c8
    obtain ⟨y245, hy245⟩ : ∃ y_ : List Int, y_ = (([13, 22, 18, 26, 18, 24, 18, 22, 20, 24, 28, 26, 24, 20, 30, 24, 28, 28, 26, 30, 28, 30, 30, 30, 30, 28, 30, 30, 30, 30, 30, 30, 30, 30, 30, 30, 30, 30, 30, 30] : List Int)) := ⟨_, rfl⟩
    replace H : (some y245) = some r := by first | (rw [hy245]; with_reducible exact H) | (have H2_ := (Option.bind_some _ _).symm.trans H; rw [hy245]; with_reducible exact H2_) | (have H2_ := (Option.bind_some _ _).symm.trans H; with_reducible exact H2_) | with_reducible exact H | (rw [hy245]; exact H) | exact H
    have Ny245 := Aside0.mk hy245
    clear hy245
    obtain rfl := Option.some.inj H
    go_enter Try.func80, Try.ntmps80
    go_wp2_with (first | ((with_reducible refine gate_dst (N := 12) rfl ?_); refine Kd.R_lit (Kd.int .i64) _ 3 ?hg (N := 12) ?hd (xs := ([13, 22, 18, 26, 18, 24, 18, 22, 20, 24, 28, 26, 24, 20, 30, 24, 28, 28, 26, 30, 28, 30, 30, 30, 30, 28, 30, 30, 30, 30, 30, 30, 30, 30, 30, 30, 30, 30, 30, 30] : List Int)) (inner := [.int .i64 13, .int .i64 22, .int .i64 18, .int .i64 26, .int .i64 18, .int .i64 24, .int .i64 18, .int .i64 22, .int .i64 20, .int .i64 24, .int .i64 28, .int .i64 26, .int .i64 24, .int .i64 20, .int .i64 30, .int .i64 24, .int .i64 28, .int .i64 28, .int .i64 26, .int .i64 30, .int .i64 28, .int .i64 30, .int .i64 30, .int .i64 30, .int .i64 30, .int .i64 28, .int .i64 30, .int .i64 30, .int .i64 30, .int .i64 30, .int .i64 30, .int .i64 30, .int .i64 30, .int .i64 30, .int .i64 30, .int .i64 30, .int .i64 30, .int .i64 30, .int .i64 30, .int .i64 30]) (ok := fun _ => True) (okp := fun _ => True) ?hr ?hp (fun _ hk => hk) trivial (Below.refl _ _) (Nat.le_refl _) (by simp) ?_; (case hd => rfl); (case hg => rfl); (case hr => first | (go_simp; done) | (go_simp; rfl)); (case hp => exact (Reps.one (show Kd.M (Kd.int .i64) _ _ _ 13 [.int .i64 13] from rfl) (Reps.one (show Kd.M (Kd.int .i64) _ _ _ 22 [.int .i64 22] from rfl) (Reps.one (show Kd.M (Kd.int .i64) _ _ _ 18 [.int .i64 18] from rfl) (Reps.one (show Kd.M (Kd.int .i64) _ _ _ 26 [.int .i64 26] from rfl) (Reps.one (show Kd.M (Kd.int .i64) _ _ _ 18 [.int .i64 18] from rfl) (Reps.one (show Kd.M (Kd.int .i64) _ _ _ 24 [.int .i64 24] from rfl) (Reps.one (show Kd.M (Kd.int .i64) _ _ _ 18 [.int .i64 18] from rfl) (Reps.one (show Kd.M (Kd.int .i64) _ _ _ 22 [.int .i64 22] from rfl) (Reps.one (show Kd.M (Kd.int .i64) _ _ _ 20 [.int .i64 20] from rfl) (Reps.one (show Kd.M (Kd.int .i64) _ _ _ 24 [.int .i64 24] from rfl) (Reps.one (show Kd.M (Kd.int .i64) _ _ _ 28 [.int .i64 28] from rfl) (Reps.one (show Kd.M (Kd.int .i64) _ _ _ 26 [.int .i64 26] from rfl) (Reps.one (show Kd.M (Kd.int .i64) _ _ _ 24 [.int .i64 24] from rfl) (Reps.one (show Kd.M (Kd.int .i64) _ _ _ 20 [.int .i64 20] from rfl) (Reps.one (show Kd.M (Kd.int .i64) _ _ _ 30 [.int .i64 30] from rfl) (Reps.one (show Kd.M (Kd.int .i64) _ _ _ 24 [.int .i64 24] from rfl) (Reps.one (show Kd.M (Kd.int .i64) _ _ _ 28 [.int .i64 28] from rfl) (Reps.one (show Kd.M (Kd.int .i64) _ _ _ 28 [.int .i64 28] from rfl) (Reps.one (show Kd.M (Kd.int .i64) _ _ _ 26 [.int .i64 26] from rfl) (Reps.one (show Kd.M (Kd.int .i64) _ _ _ 30 [.int .i64 30] from rfl) (Reps.one (show Kd.M (Kd.int .i64) _ _ _ 28 [.int .i64 28] from rfl) (Reps.one (show Kd.M (Kd.int .i64) _ _ _ 30 [.int .i64 30] from rfl) (Reps.one (show Kd.M (Kd.int .i64) _ _ _ 30 [.int .i64 30] from rfl) (Reps.one (show Kd.M (Kd.int .i64) _ _ _ 30 [.int .i64 30] from rfl) (Reps.one (show Kd.M (Kd.int .i64) _ _ _ 30 [.int .i64 30] from rfl) (Reps.one (show Kd.M (Kd.int .i64) _ _ _ 28 [.int .i64 28] from rfl) (Reps.one (show Kd.M (Kd.int .i64) _ _ _ 30 [.int .i64 30] from rfl) (Reps.one (show Kd.M (Kd.int .i64) _ _ _ 30 [.int .i64 30] from rfl) (Reps.one (show Kd.M (Kd.int .i64) _ _ _ 30 [.int .i64 30] from rfl) (Reps.one (show Kd.M (Kd.int .i64) _ _ _ 30 [.int .i64 30] from rfl) (Reps.one (show Kd.M (Kd.int .i64) _ _ _ 30 [.int .i64 30] from rfl) (Reps.one (show Kd.M (Kd.int .i64) _ _ _ 30 [.int .i64 30] from rfl) (Reps.one (show Kd.M (Kd.int .i64) _ _ _ 30 [.int .i64 30] from rfl) (Reps.one (show Kd.M (Kd.int .i64) _ _ _ 30 [.int .i64 30] from rfl) (Reps.one (show Kd.M (Kd.int .i64) _ _ _ 30 [.int .i64 30] from rfl) (Reps.one (show Kd.M (Kd.int .i64) _ _ _ 30 [.int .i64 30] from rfl) (Reps.one (show Kd.M (Kd.int .i64) _ _ _ 30 [.int .i64 30] from rfl) (Reps.one (show Kd.M (Kd.int .i64) _ _ _ 30 [.int .i64 30] from rfl) (Reps.one (show Kd.M (Kd.int .i64) _ _ _ 30 [.int .i64 30] from rfl) (Reps.one (show Kd.M (Kd.int .i64) _ _ _ 30 [.int .i64 30] from rfl) (Reps.none _ _)))))))))))))))))))))))))))))))))))))))))); intro v246 w9 ho10 hb hg_ hnew_; clear hg_ hnew_; (first | rw [← Ny245.out] at ho10 | (simp only [Int.reduceToNat] at ho10; rw [← Ny245.out] at ho10)); have n0_ := Aside0.mk (Kd.R_lower ho10 (below_size (by repeat (first | (with_reducible first | exact HB.out | apply below_alloc | apply pw_below_drewN | apply below_drew1) | exact HB.out)))); have n1_ := Aside0.mk (below_step (by repeat (first | (with_reducible first | exact HB.out | apply below_alloc | apply pw_below_drewN | apply below_drew1) | exact HB.out)) hb); clear HB; have HO247 := n0_; have HB := n1_; clear n0_ n1_; clear hb ho10))
    go_ret
    exact ⟨_, by first | rfl | (simp [errW_none, errW_some] <;> rfl) | (simp [*, errW_none, errW_some] <;> rfl), by (with_reducible repeat (first | apply Kd.R_alloc | apply Kd.R_drewN | apply Kd.R_drew)); exact HO247.out, by repeat (first | (with_reducible first | exact HB.out | apply below_alloc | apply pw_below_drewN | apply below_drew1) | exact HB.out)⟩
   ·rw [if_neg c8] at H
    have c8b0 : (a0 == 3) = false := beq_eq_false_iff_ne.mpr c8
    have c8b1 : (a0 != 3) = true := bne_iff_ne.mpr c8
    obtain ⟨y248, hy248⟩ : ∃ y_ : List Int, y_ = (([17, 28, 22, 16, 22, 28, 26, 26, 24, 28, 24, 28, 22, 24, 24, 30, 28, 28, 26, 28, 30, 24, 30, 30, 30, 30, 30, 30, 30, 30, 30, 30, 30, 30, 30, 30, 30, 30, 30, 30] : List Int)) := ⟨_, rfl⟩
    replace H : (some y248) = some r := by first | (rw [hy248]; with_reducible exact H) | (have H2_ := (Option.bind_some _ _).symm.trans H; rw [hy248]; with_reducible exact H2_) | (have H2_ := (Option.bind_some _ _).symm.trans H; with_reducible exact H2_) | with_reducible exact H | (rw [hy248]; exact H) | exact H
    have Ny248 := Aside0.mk hy248
    clear hy248
    obtain rfl := Option.some.inj H
    go_enter Try.func80, Try.ntmps80
    go_wp2_with (first | ((with_reducible refine gate_dst (N := 13) rfl ?_); refine Kd.R_lit (Kd.int .i64) _ 3 ?hg (N := 13) ?hd (xs := ([17, 28, 22, 16, 22, 28, 26, 26, 24, 28, 24, 28, 22, 24, 24, 30, 28, 28, 26, 28, 30, 24, 30, 30, 30, 30, 30, 30, 30, 30, 30, 30, 30, 30, 30, 30, 30, 30, 30, 30] : List Int)) (inner := [.int .i64 17, .int .i64 28, .int .i64 22, .int .i64 16, .int .i64 22, .int .i64 28, .int .i64 26, .int .i64 26, .int .i64 24, .int .i64 28, .int .i64 24, .int .i64 28, .int .i64 22, .int .i64 24, .int .i64 24, .int .i64 30, .int .i64 28, .int .i64 28, .int .i64 26, .int .i64 28, .int .i64 30, .int .i64 24, .int .i64 30, .int .i64 30, .int .i64 30, .int .i64 30, .int .i64 30, .int .i64 30, .int .i64 30, .int .i64 30, .int .i64 30, .int .i64 30, .int .i64 30, .int .i64 30, .int .i64 30, .int .i64 30, .int .i64 30, .int .i64 30, .int .i64 30, .int .i64 30]) (ok := fun _ => True) (okp := fun _ => True) ?hr ?hp (fun _ hk => hk) trivial (Below.refl _ _) (Nat.le_refl _) (by simp) ?_; (case hd => rfl); (case hg => rfl); (case hr => first | (go_simp; done) | (go_simp; rfl)); (case hp => exact (Reps.one (show Kd.M (Kd.int .i64) _ _ _ 17 [.int .i64 17] from rfl) (Reps.one (show Kd.M (Kd.int .i64) _ _ _ 28 [.int .i64 28] from rfl) (Reps.one (show Kd.M (Kd.int .i64) _ _ _ 22 [.int .i64 22] from rfl) (Reps.one (show Kd.M (Kd.int .i64) _ _ _ 16 [.int .i64 16] from rfl) (Reps.one (show Kd.M (Kd.int .i64) _ _ _ 22 [.int .i64 22] from rfl) (Reps.one (show Kd.M (Kd.int .i64) _ _ _ 28 [.int .i64 28] from rfl) (Reps.one (show Kd.M (Kd.int .i64) _ _ _ 26 [.int .i64 26] from rfl) (Reps.one (show Kd.M (Kd.int .i64) _ _ _ 26 [.int .i64 26] from rfl) (Reps.one (show Kd.M (Kd.int .i64) _ _ _ 24 [.int .i64 24] from rfl) (Reps.one (show Kd.M (Kd.int .i64) _ _ _ 28 [.int .i64 28] from rfl) (Reps.one (show Kd.M (Kd.int .i64) _ _ _ 24 [.int .i64 24] from rfl) (Reps.one (show Kd.M (Kd.int .i64) _ _ _ 28 [.int .i64 28] from rfl) (Reps.one (show Kd.M (Kd.int .i64) _ _ _ 22 [.int .i64 22] from rfl) (Reps.one (show Kd.M (Kd.int .i64) _ _ _ 24 [.int .i64 24] from rfl) (Reps.one (show Kd.M (Kd.int .i64) _ _ _ 24 [.int .i64 24] from rfl) (Reps.one (show Kd.M (Kd.int .i64) _ _ _ 30 [.int .i64 30] from rfl) (Reps.one (show Kd.M (Kd.int .i64) _ _ _ 28 [.int .i64 28] from rfl) (Reps.one (show Kd.M (Kd.int .i64) _ _ _ 28 [.int .i64 28] from rfl) (Reps.one (show Kd.M (Kd.int .i64) _ _ _ 26 [.int .i64 26] from rfl) (Reps.one (show Kd.M (Kd.int .i64) _ _ _ 28 [.int .i64 28] from rfl) (Reps.one (show Kd.M (Kd.int .i64) _ _ _ 30 [.int .i64 30] from rfl) (Reps.one (show Kd.M (Kd.int .i64) _ _ _ 24 [.int .i64 24] from rfl) (Reps.one (show Kd.M (Kd.int .i64) _ _ _ 30 [.int .i64 30] from rfl) (Reps.one (show Kd.M (Kd.int .i64) _ _ _ 30 [.int .i64 30] from rfl) (Reps.one (show Kd.M (Kd.int .i64) _ _ _ 30 [.int .i64 30] from rfl) (Reps.one (show Kd.M (Kd.int .i64) _ _ _ 30 [.int .i64 30] from rfl) (Reps.one (show Kd.M (Kd.int .i64) _ _ _ 30 [.int .i64 30] from rfl) (Reps.one (show Kd.M (Kd.int .i64) _ _ _ 30 [.int .i64 30] from rfl) (Reps.one (show Kd.M (Kd.int .i64) _ _ _ 30 [.int .i64 30] from rfl) (Reps.one (show Kd.M (Kd.int .i64) _ _ _ 30 [.int .i64 30] from rfl) (Reps.one (show Kd.M (Kd.int .i64) _ _ _ 30 [.int .i64 30] from rfl) (Reps.one (show Kd.M (Kd.int .i64) _ _ _ 30 [.int .i64 30] from rfl) (Reps.one (show Kd.M (Kd.int .i64) _ _ _ 30 [.int .i64 30] from rfl) (Reps.one (show Kd.M (Kd.int .i64) _ _ _ 30 [.int .i64 30] from rfl) (Reps.one (show Kd.M (Kd.int .i64) _ _ _ 30 [.int .i64 30] from rfl) (Reps.one (show Kd.M (Kd.int .i64) _ _ _ 30 [.int .i64 30] from rfl) (Reps.one (show Kd.M (Kd.int .i64) _ _ _ 30 [.int .i64 30] from rfl) (Reps.one (show Kd.M (Kd.int .i64) _ _ _ 30 [.int .i64 30] from rfl) (Reps.one (show Kd.M (Kd.int .i64) _ _ _ 30 [.int .i64 30] from rfl) (Reps.one (show Kd.M (Kd.int .i64) _ _ _ 30 [.int .i64 30] from rfl) (Reps.none _ _)))))))))))))))))))))))))))))))))))))))))); intro v249 w11 ho12 hb hg_ hnew_; clear hg_ hnew_; (first | rw [← Ny248.out] at ho12 | (simp only [Int.reduceToNat] at ho12; rw [← Ny248.out] at ho12)); have n0_ := Aside0.mk (Kd.R_lower ho12 (below_size (by repeat (first | (with_reducible first | exact HB.out | apply below_alloc | apply pw_below_drewN | apply below_drew1) | exact HB.out)))); have n1_ := Aside0.mk (below_step (by repeat (first | (with_reducible first | exact HB.out | apply below_alloc | apply pw_below_drewN | apply below_drew1) | exact HB.out)) hb); clear HB; have HO250 := n0_; have HB := n1_; clear n0_ n1_; clear hb ho12))
    go_ret
    exact ⟨_, by first | rfl | (simp [errW_none, errW_some] <;> rfl) | (simp [*, errW_none, errW_some] <;> rfl), by (with_reducible repeat (first | apply Kd.R_alloc | apply Kd.R_drewN | apply Kd.R_drew)); exact HO250.out, by repeat (first | (with_reducible first | exact HB.out | apply below_alloc | apply pw_below_drewN | apply below_drew1) | exact HB.out)⟩

end Go.Proofs.Ytclbjddcenkidaa.PS
namespace Go.Proofs.Ytclbjddcenkidaa.PS
open Go.RowKit Go.Proofs.YtclbjddcenkidaaW.PrintWords Go.Proofs.YtclbjddcenkidaaW.PrintLast Go.Proofs.YtclbjddcenkidaaW.PrintMore
attribute [local go_sem] max2_int min2_int max_two min_two max_three min_three max_four min_four   -- for this text's walks alone

def barscanref17_words.f  : Option (List Int) := some (([26, 44, 70, 100, 134, 172, 196, 242, 292, 346, 404, 466, 532, 581, 655, 733, 815, 901, 991, 1085, 1156, 1258, 1364, 1474, 1588, 1706, 1828, 1921, 2051, 2185, 2323, 2465, 2611, 2761, 2876, 3034, 3196, 3362, 3532, 3706] : List Int))
set_option maxHeartbeats 8000000 in
set_option maxRecDepth 100000 in
theorem barscanref17_words.calls  (r : List Int) (w : World) (h : barscanref17_words.f  = some r) :
  Calls Try.prog 81 #[] w fun e w' => ∃ v0_ : Value, e = .returned (v0_) ∧ Kd.R (Kd.int .i64) 3 w' w.heap.size (fun _ => True) v0_ r ∧ Below w.heap.size w w' := by
 have HB := Aside0.mk (Below.refl w.heap.size w)
 have H : (some (([26, 44, 70, 100, 134, 172, 196, 242, 292, 346, 404, 466, 532, 581, 655, 733, 815, 901, 991, 1085, 1156, 1258, 1364, 1474, 1588, 1706, 1828, 1921, 2051, 2185, 2323, 2465, 2611, 2761, 2876, 3034, 3196, 3362, 3532, 3706] : List Int))) = some r := h
 clear h
 obtain ⟨y251, hy251⟩ : ∃ y_ : List Int, y_ = (([26, 44, 70, 100, 134, 172, 196, 242, 292, 346, 404, 466, 532, 581, 655, 733, 815, 901, 991, 1085, 1156, 1258, 1364, 1474, 1588, 1706, 1828, 1921, 2051, 2185, 2323, 2465, 2611, 2761, 2876, 3034, 3196, 3362, 3532, 3706] : List Int)) := ⟨_, rfl⟩
 replace H : (some y251) = some r := by first | (rw [hy251]; with_reducible exact H) | (have H2_ := (Option.bind_some _ _).symm.trans H; rw [hy251]; with_reducible exact H2_) | (have H2_ := (Option.bind_some _ _).symm.trans H; with_reducible exact H2_) | with_reducible exact H | (rw [hy251]; exact H) | exact H
 have Ny251 := Aside0.mk hy251
 clear hy251
 obtain rfl := Option.some.inj H
 go_enter Try.func81, Try.ntmps81
 go_wp2_with (first | ((with_reducible refine gate_dst (N := 1) rfl ?_); refine Kd.R_lit (Kd.int .i64) _ 3 ?hg (N := 1) ?hd (xs := ([26, 44, 70, 100, 134, 172, 196, 242, 292, 346, 404, 466, 532, 581, 655, 733, 815, 901, 991, 1085, 1156, 1258, 1364, 1474, 1588, 1706, 1828, 1921, 2051, 2185, 2323, 2465, 2611, 2761, 2876, 3034, 3196, 3362, 3532, 3706] : List Int)) (inner := [.int .i64 26, .int .i64 44, .int .i64 70, .int .i64 100, .int .i64 134, .int .i64 172, .int .i64 196, .int .i64 242, .int .i64 292, .int .i64 346, .int .i64 404, .int .i64 466, .int .i64 532, .int .i64 581, .int .i64 655, .int .i64 733, .int .i64 815, .int .i64 901, .int .i64 991, .int .i64 1085, .int .i64 1156, .int .i64 1258, .int .i64 1364, .int .i64 1474, .int .i64 1588, .int .i64 1706, .int .i64 1828, .int .i64 1921, .int .i64 2051, .int .i64 2185, .int .i64 2323, .int .i64 2465, .int .i64 2611, .int .i64 2761, .int .i64 2876, .int .i64 3034, .int .i64 3196, .int .i64 3362, .int .i64 3532, .int .i64 3706]) (ok := fun _ => True) (okp := fun _ => True) ?hr ?hp (fun _ hk => hk) trivial (Below.refl _ _) (Nat.le_refl _) (by simp) ?_; (case hd => rfl); (case hg => rfl); (case hr => first | (go_simp; done) | (go_simp; rfl)); (case hp => exact (Reps.one (show Kd.M (Kd.int .i64) _ _ _ 26 [.int .i64 26] from rfl) (Reps.one (show Kd.M (Kd.int .i64) _ _ _ 44 [.int .i64 44] from rfl) (Reps.one (show Kd.M (Kd.int .i64) _ _ _ 70 [.int .i64 70] from rfl) (Reps.one (show Kd.M (Kd.int .i64) _ _ _ 100 [.int .i64 100] from rfl) (Reps.one (show Kd.M (Kd.int .i64) _ _ _ 134 [.int .i64 134] from rfl) (Reps.one (show Kd.M (Kd.int .i64) _ _ _ 172 [.int .i64 172] from rfl) (Reps.one (show Kd.M (Kd.int .i64) _ _ _ 196 [.int .i64 196] from rfl) (Reps.one (show Kd.M (Kd.int .i64) _ _ _ 242 [.int .i64 242] from rfl) (Reps.one (show Kd.M (Kd.int .i64) _ _ _ 292 [.int .i64 292] from rfl) (Reps.one (show Kd.M (Kd.int .i64) _ _ _ 346 [.int .i64 346] from rfl) (Reps.one (show Kd.M (Kd.int .i64) _ _ _ 404 [.int .i64 404] from rfl) (Reps.one (show Kd.M (Kd.int .i64) _ _ _ 466 [.int .i64 466] from rfl) (Reps.one (show Kd.M (Kd.int .i64) _ _ _ 532 [.int .i64 532] from rfl) (Reps.one (show Kd.M (Kd.int .i64) _ _ _ 581 [.int .i64 581] from rfl) (Reps.one (show Kd.M (Kd.int .i64) _ _ _ 655 [.int .i64 655] from rfl) (Reps.one (show Kd.M (Kd.int .i64) _ _ _ 733 [.int .i64 733] from rfl) (Reps.one (show Kd.M (Kd.int .i64) _ _ _ 815 [.int .i64 815] from rfl) (Reps.one (show Kd.M (Kd.int .i64) _ _ _ 901 [.int .i64 901] from rfl) (Reps.one (show Kd.M (Kd.int .i64) _ _ _ 991 [.int .i64 991] from rfl) (Reps.one (show Kd.M (Kd.int .i64) _ _ _ 1085 [.int .i64 1085] from rfl) (Reps.one (show Kd.M (Kd.int .i64) _ _ _ 1156 [.int .i64 1156] from rfl) (Reps.one (show Kd.M (Kd.int .i64) _ _ _ 1258 [.int .i64 1258] from rfl) (Reps.one (show Kd.M (Kd.int .i64) _ _ _ 1364 [.int .i64 1364] from rfl) (Reps.one (show Kd.M (Kd.int .i64) _ _ _ 1474 [.int .i64 1474] from rfl) (Reps.one (show Kd.M (Kd.int .i64) _ _ _ 1588 [.int .i64 1588] from rfl) (Reps.one (show Kd.M (Kd.int .i64) _ _ _ 1706 [.int .i64 1706] from rfl) (Reps.one (show Kd.M (Kd.int .i64) _ _ _ 1828 [.int .i64 1828] from rfl) (Reps.one (show Kd.M (Kd.int .i64) _ _ _ 1921 [.int .i64 1921] from rfl) (Reps.one (show Kd.M (Kd.int .i64) _ _ _ 2051 [.int .i64 2051] from rfl) (Reps.one (show Kd.M (Kd.int .i64) _ _ _ 2185 [.int .i64 2185] from rfl) (Reps.one (show Kd.M (Kd.int .i64) _ _ _ 2323 [.int .i64 2323] from rfl) (Reps.one (show Kd.M (Kd.int .i64) _ _ _ 2465 [.int .i64 2465] from rfl) (Reps.one (show Kd.M (Kd.int .i64) _ _ _ 2611 [.int .i64 2611] from rfl) (Reps.one (show Kd.M (Kd.int .i64) _ _ _ 2761 [.int .i64 2761] from rfl) (Reps.one (show Kd.M (Kd.int .i64) _ _ _ 2876 [.int .i64 2876] from rfl) (Reps.one (show Kd.M (Kd.int .i64) _ _ _ 3034 [.int .i64 3034] from rfl) (Reps.one (show Kd.M (Kd.int .i64) _ _ _ 3196 [.int .i64 3196] from rfl) (Reps.one (show Kd.M (Kd.int .i64) _ _ _ 3362 [.int .i64 3362] from rfl) (Reps.one (show Kd.M (Kd.int .i64) _ _ _ 3532 [.int .i64 3532] from rfl) (Reps.one (show Kd.M (Kd.int .i64) _ _ _ 3706 [.int .i64 3706] from rfl) (Reps.none _ _)))))))))))))))))))))))))))))))))))))))))); intro v252 w1 ho2 hb hg_ hnew_; clear hg_ hnew_; (first | rw [← Ny251.out] at ho2 | (simp only [Int.reduceToNat] at ho2; rw [← Ny251.out] at ho2)); have n0_ := Aside0.mk (Kd.R_lower ho2 (below_size (by repeat (first | (with_reducible first | exact HB.out | apply below_alloc | apply pw_below_drewN | apply below_drew1) | exact HB.out)))); have n1_ := Aside0.mk (below_step (by repeat (first | (with_reducible first | exact HB.out | apply below_alloc | apply pw_below_drewN | apply below_drew1) | exact HB.out)) hb); clear HB; have HO253 := n0_; have HB := n1_; clear n0_ n1_; clear hb ho2))
 go_ret
 exact ⟨_, by first | rfl | (simp [errW_none, errW_some] <;> rfl) | (simp [*, errW_none, errW_some] <;> rfl), by (with_reducible repeat (first | apply Kd.R_alloc | apply Kd.R_drewN | apply Kd.R_drew)); exact HO253.out, by repeat (first | (with_reducible first | exact HB.out | apply below_alloc | apply pw_below_drewN | apply below_drew1) | exact HB.out)⟩

end Go.Proofs.Ytclbjddcenkidaa.PS
namespace Go.Proofs.Ytclbjddcenkidaa.PS
open Go.RowKit Go.Proofs.YtclbjddcenkidaaW.PrintWords Go.Proofs.YtclbjddcenkidaaW.PrintLast Go.Proofs.YtclbjddcenkidaaW.PrintMore
attribute [local go_sem] max2_int min2_int max_two min_two max_three min_three max_four min_four   -- for this text's walks alone

theorem own_int_at {w : World} {base : Nat} {v : Value} {l : List Int} (h : Kd.R (Kd.int .i64) 3 w base (fun _ => True) v l) (n : Nat) (hn : n < l.length) :
  ∃ g c, v = .slice (some ⟨g, 0, none⟩) l.length c ∧ w.cell? ⟨g, n, none⟩ = some (.int .i64 (l.getD n 0)) := by
 obtain ⟨_, inner, ho, _⟩ := id h
 rcases ho.2 with ⟨_, h0⟩ | ⟨g, cap, cur, rfl, _⟩
 ·omega
 ·have := (Kd.R_cell (0 : Int) h (n : Int) (by omega) (by omega)).1
  rw [Int.toNat_natCast] at this
  exact ⟨g, cap, rfl, this⟩
def blocksL (l : Nat) : List Int := (barscanref17_blocks.f ((l : Int) + 1)).getD []
def checksL (l : Nat) : List Int := (barscanref17_checks.f ((l : Int) + 1)).getD []
def wordsL : List Int := (barscanref17_words.f).getD []
theorem blocksL_len : ∀ l, l < 4 → (blocksL l).length = 40 := by decide +kernel
theorem checksL_len : ∀ l, l < 4 → (checksL l).length = 40 := by decide +kernel
theorem blocksL_some (l : Nat) : barscanref17_blocks.f ((l : Int) + 1) = some (blocksL l) := by
 unfold blocksL barscanref17_blocks.f
 repeat (split; rfl)
 rfl
theorem checksL_some (l : Nat) : barscanref17_checks.f ((l : Int) + 1) = some (checksL l) := by
 unfold checksL barscanref17_checks.f
 repeat (split; rfl)
 rfl
theorem blocks_at (n l : Nat) (hn : n < 40) (hl : l < 4) (w : World) :
  Calls Try.prog 79 #[.int .i64 ((l : Int) + 1)] w fun e w' => ∃ g c, e = .returned (.slice (some ⟨g, 0, none⟩) 40 c) ∧ w'.cell? ⟨g, n, none⟩ = some (.int .i64 ((blocksL l).getD n 0)) ∧ Below w.heap.size w w' :=
 (barscanref17_blocks.calls _ _ w (blocksL_some l)).mono fun e w' ⟨v, he, hR, hb⟩ => by
  obtain ⟨g, c, hv, hc⟩ := own_int_at hR n (by rw [blocksL_len l hl]; exact hn)
  rw [blocksL_len l hl] at hv
  exact ⟨g, c, by rw [he, hv], hc, hb⟩
theorem checks_at (n l : Nat) (hn : n < 40) (hl : l < 4) (w : World) :
  Calls Try.prog 80 #[.int .i64 ((l : Int) + 1)] w fun e w' => ∃ g c, e = .returned (.slice (some ⟨g, 0, none⟩) 40 c) ∧ w'.cell? ⟨g, n, none⟩ = some (.int .i64 ((checksL l).getD n 0)) ∧ Below w.heap.size w w' :=
 (barscanref17_checks.calls _ _ w (checksL_some l)).mono fun e w' ⟨v, he, hR, hb⟩ => by
  obtain ⟨g, c, hv, hc⟩ := own_int_at hR n (by rw [checksL_len l hl]; exact hn)
  rw [checksL_len l hl] at hv
  exact ⟨g, c, by rw [he, hv], hc, hb⟩
theorem words_at (n : Nat) (hn : n < 40) (w : World) :
  Calls Try.prog 81 #[] w fun e w' => ∃ g c, e = .returned (.slice (some ⟨g, 0, none⟩) 40 c) ∧ w'.cell? ⟨g, n, none⟩ = some (.int .i64 (wordsL.getD n 0)) ∧ Below w.heap.size w w' :=
 (barscanref17_words.calls wordsL w rfl).mono fun e w' ⟨v, he, hR, hb⟩ => by
  obtain ⟨g, c, hv, hc⟩ := own_int_at hR n hn
  exact ⟨g, c, by rw [he, hv]; rfl, hc, hb⟩
theorem cell_of_below {w w1 : World} (hb : Below w.heap.size w w1) {a : Addr} {v : Value} (h : w.cell? a = some v) : w1.cell? a = some v := pw_cell_below hb h
set_option maxHeartbeats 4000000 in
set_option maxRecDepth 100000 in
theorem Structure_at (n l : Nat) (hn : n < 40) (hl : l < 4) (w : World) (b k c : Int) (hb : (blocksL l).getD n 0 = b) (hk : (checksL l).getD n 0 = k) (hc : wordsL.getD n 0 = c) (b1 : 1 ≤ b) (b2 : b ≤ 100) (k1 : 0 ≤ k) (k2 : k ≤ 100) (c1 : 0 ≤ c) (c2 : c ≤ 4000) (m : Int) (hm : b * k = m) (m1 : 0 ≤ m) (m2 : m ≤ c) (rk : Nat) (hr : barscanref17_right.f rk ((n : Int) + 1) ((l : Int) + 1) = some 0) :
  Calls Try.prog 62 #[.int .i64 ((n : Int) + 1), .int .i64 ((l : Int) + 1)] w fun e w' => e = .returned (.tuple #[.agg #[.int .i64 (b - (c - m) % b), .int .i64 ((c - m) % b), .int .i64 ((c - m) / b), .int .i64 k], .int .i64 0]) ∧ Below w.heap.size w w' := by
 have hn2 : (n : Int) < 40 := by omega
 have hw : IntKind.i64.wrap (n : Int) = n := IntWalk.i64_in _ (by omega)
 have HB := Aside0.mk hb
 have HK := Aside0.mk hk
 have HC := Aside0.mk hc
 have HR := Aside0.mk hr
 clear hb hk hc hr
 go_enter Try.func62, Try.ntmps62
 go_wp2_with (fail)
 refine (barscanref17_right.calls rk _ _ 0 _ HR.out).mono ?_
 rintro e w1 ⟨rfl, ⟨nd, rfl⟩⟩
 go_wp2_with (fail)
 go_cut [7, 8] (fun v7 v8 wc => v7 = .int .i64 b ∧ v8 = .int .i64 k ∧ Aside0 (Below w.heap.size w wc) ∧ Aside0 (wc.heap[w.heap.size]? = some (.cells #[.int .i64 0, .int .i64 0, .int .i64 0, .int .i64 0] 101 (0, 0))))
 case first =>
  go_region_with (first | (go_at_call 79; refine (blocks_at n l hn hl _).mono ?_; rintro e w1 ⟨g1, c1', rfl, hc1, hb1⟩; rw [HB.out] at hc1) | (go_at_call 80; refine (checks_at n l hn hl _).mono ?_; rintro e w2 ⟨g2, c2', rfl, hc2, hb2⟩; rw [HK.out] at hc2; have hc1' := cell_of_below hb2 hc1))
  all_goals
   go_wp2
   go_meet
   case rel => exact ⟨rfl, rfl, ⟨below_then (below_then (by repeat (first | exact Below.refl _ _ | apply below_alloc | apply pw_below_drewN)) (by simp) hb1) (by have := hb1.size; simp at this; omega) hb2⟩, ⟨by rw [hb2.block _ (by have := hb1.size; simp at this; omega), hb1.block _ (by simp)]; exact heap_alloc_new w _⟩⟩
 case rest =>
  obtain ⟨rfl, rfl, HW, HZ⟩ := hcut
  have hz := blk_lt HZ.out
  go_wp2_with (fail)
  refine (words_at n hn _).mono ?_
  rintro e w3 ⟨g3, c3, rfl, hc3, hb3⟩
  rw [HC.out] at hc3
  have HZ3 := Aside0.mk ((hb3.block _ hz).trans HZ.out)
  have HW3 := Aside0.mk (below_then HW.out (Nat.le_of_lt hz) hb3)
  have hz0 : w3.cell? ⟨w.heap.size, 0, none⟩ = some (.int .i64 0) := (blk_cell HZ3.out 0).trans rfl
  have hz1 : w3.cell? ⟨w.heap.size, 1, none⟩ = some (.int .i64 0) := (blk_cell HZ3.out 1).trans rfl
  have hz2 : w3.cell? ⟨w.heap.size, 2, none⟩ = some (.int .i64 0) := (blk_cell HZ3.out 2).trans rfl
  have hz3 : w3.cell? ⟨w.heap.size, 3, none⟩ = some (.int .i64 0) := (blk_cell HZ3.out 3).trans rfl
  have hf0 := blk_frozen HZ3.out 0
  have hf1 := blk_frozen HZ3.out 1
  have hf2 := blk_frozen HZ3.out 2
  have hf3 := blk_frozen HZ3.out 3
  clear hb3 hz
  have hr0 : 0 ≤ (c - m) % b := Int.emod_nonneg _ (by omega)
  have hr1 : (c - m) % b < b := Int.emod_lt_of_pos _ (by omega)
  go_wp2
  go_region
  all_goals
   go_wp2
   refine bodyPost_ret (v := .tuple #[.agg #[.int .i64 (b - (c - m) % b), .int .i64 ((c - m) % b), .int .i64 ((c - m) / b), .int .i64 k], .int .i64 0]) ?_ rfl ⟨rfl, ?_⟩
   ·simp [results, Try.results62, go_sem, hz0, hz1, hz2, hz3]
   ·exact below_drew1 ((((HW3.out.setCell (Nat.le_refl _) _).setCell (Nat.le_refl _) _).setCell (Nat.le_refl _) _).setCell (Nat.le_refl _) _)

theorem struct_bd : ∀ n, n < 40 → ∀ l, l < 4 → 1 ≤ (blocksL l).getD n 0 ∧ (blocksL l).getD n 0 ≤ 100 ∧ 0 ≤ (checksL l).getD n 0 ∧ (checksL l).getD n 0 ≤ 100 ∧ 0 ≤ wordsL.getD n 0 ∧ wordsL.getD n 0 ≤ 4000 ∧
  0 ≤ (blocksL l).getD n 0 * (checksL l).getD n 0 ∧ (blocksL l).getD n 0 * (checksL l).getD n 0 ≤ wordsL.getD n 0 := by decide +kernel
def structOf (b k c : Int) : Int × Int × Int × Int × Int := (b - (c - b * k) % b, (c - b * k) % b, (c - b * k) / b, k, 0)
/-- The block structure, where there is such a version and level. -/
def barscanref17_Structure.f (a0 a1 : Int) : Option (Int × Int × Int × Int × Int) :=
 if 1 ≤ a0 ∧ a0 ≤ 40 ∧ 1 ≤ a1 ∧ a1 ≤ 4 then some (structOf ((blocksL (a1.toNat - 1)).getD (a0.toNat - 1) 0) ((checksL (a1.toNat - 1)).getD (a0.toNat - 1) 0) (wordsL.getD (a0.toNat - 1) 0)) else none
theorem barscanref17_Structure.calls (a0 : Int) (a1 : Int) (r1 : Int) (r2 : Int) (r3 : Int) (r4 : Int) (r5 : Int) (w : World) (h : barscanref17_Structure.f a0 a1 = some (r1, r2, r3, r4, r5)) :
  Calls Try.prog 62 #[.int .i64 a0, .int .i64 a1] w fun e w' => e = .returned (.tuple #[.agg #[.int .i64 r1, .int .i64 r2, .int .i64 r3, .int .i64 r4], .int .i64 r5]) ∧ Below w.heap.size w w' := by
 unfold barscanref17_Structure.f at h
 split at h
 ·rename_i hc
  obtain ⟨h1, h2, h3, h4⟩ := hc
  obtain ⟨n, rfl⟩ : ∃ n : Nat, a0 = (n : Int) + 1 := ⟨(a0 - 1).toNat, by omega⟩
  obtain ⟨l, rfl⟩ : ∃ l : Nat, a1 = (l : Int) + 1 := ⟨(a1 - 1).toNat, by omega⟩
  rw [show ((n : Int) + 1).toNat - 1 = n by omega, show ((l : Int) + 1).toNat - 1 = l by omega] at h
  obtain ⟨x1, x2, x3, x4, x5, x6, x7, x8⟩ := struct_bd n (by omega) l (by omega)
  have h := Option.some.inj h
  unfold structOf at h
  simp only [Prod.mk.injEq] at h
  obtain ⟨rfl, rfl, rfl, rfl, rfl⟩ := h
  refine Structure_at n l (by omega) (by omega) w _ _ _ rfl rfl rfl x1 x2 x3 x4 x5 x6 _ rfl x7 x8 1 ?_
  unfold barscanref17_right.f
  rw [if_neg (by omega)]
  simp only [barscanref17_right.j0]
  rw [if_neg (by simp; omega), if_neg (by omega), if_neg (by omega)]
 ·cases h

end Go.Proofs.Ytclbjddcenkidaa.PS
namespace Go.Proofs.Ytclbjddcenkidaa.PS
open Go.RowKit Go.Proofs.YtclbjddcenkidaaW.PrintWords Go.Proofs.YtclbjddcenkidaaW.PrintLast Go.Proofs.YtclbjddcenkidaaW.PrintMore
attribute [local go_sem] max2_int min2_int max_two min_two max_three min_three max_four min_four   -- for this text's walks alone

def barscanref17_Capacity.f (a0 : Int) (a1 : Int) : Option (Int × Int) := (barscanref17_Structure.f a0 a1).bind fun bt254 => (some (wrap64 ((wrap64 ((wrap64 (bt254.1 + bt254.2.1)) * bt254.2.2.1)) + bt254.2.1), bt254.2.2.2.2))
set_option maxHeartbeats 8000000 in
set_option maxRecDepth 100000 in
theorem barscanref17_Capacity.calls (a0 : Int) (a1 : Int) (r1 : Int) (r2 : Int) (w : World) (h : barscanref17_Capacity.f a0 a1 = some (r1, r2)) :
  Calls Try.prog 44 #[.int .i64 a0, .int .i64 a1] w fun e w' => e = .returned (.tuple #[.int .i64 r1, .int .i64 r2]) ∧ Below w.heap.size w w' := by
 have hu101 := Try.underlying101
 have HB := Aside0.mk (Below.refl w.heap.size w)
 have H : ((barscanref17_Structure.f a0 a1).bind fun bt254 => (some (wrap64 ((wrap64 ((wrap64 (bt254.1 + bt254.2.1)) * bt254.2.2.1)) + bt254.2.1), bt254.2.2.2.2))) = some (r1, r2) := h
 clear h
 replace H := Option.bind_eq_some_iff.mp H
 obtain ⟨⟨t254, t255, t256, t257, t258⟩, A30, H⟩ := H
 replace H : (some (wrap64 ((wrap64 ((wrap64 (t254 + t255)) * t256)) + t255), t258)) = some (r1, r2) := H
 have A3 := Aside0.mk A30
 clear A30
 simp only [Option.some.injEq, Prod.mk.injEq] at H
 obtain ⟨rfl, rfl⟩ := H
 go_enter Try.func44, Try.ntmps44
 go_wp2_with (first | ((with_reducible refine gate_callee (f := 62) rfl ?_); refine goesL_ (some 11) rfl rfl Try.func62 (by kernel_rfl) rfl #[.int .i64 a0, .int .i64 a1] rfl (by (try simp only [List.map_toArray, List.map_cons, List.map_nil]); first | done | rfl | (simp only [List.length_drop, List.length_take]; rfl)) ?_; (with_reducible refine (barscanref17_Structure.calls a0 a1 t254 t255 t256 t257 t258 _ A3.out).mono ?_); rintro e w4 ⟨rfl, hb⟩; refine ⟨_, rfl, ?_⟩; have n0_ := Aside0.mk (below_step (by repeat (first | (with_reducible first | exact HB.out | apply below_alloc | apply pw_below_drewN | apply below_drew1) | exact HB.out)) hb); clear HB; have HB := n0_; clear n0_; (try clear hb); (try clear hb2); (try clear hk); (try clear hi)) | ((with_reducible refine gate_dst (N := 6) rfl ?_); refine box_event ?hg (N := 6) ?hd (cs := #[.int .i64 0, .int .i64 0, .int .i64 0, .int .i64 0]) (t := 101) ?hr ?_; (case hd => rfl); (case hg => rfl); (case hr => first | (go_simp; done) | (go_simp; rfl)); intro gb259 hg w5 hbox hb; have n0_ := Aside0.mk (below_step (by repeat (first | (with_reducible first | exact HB.out | apply below_alloc | apply pw_below_drewN | apply below_drew1) | exact HB.out)) hb); have n1_ := Aside0.mk (hbox); have n2_ := Aside0.mk ((by rw [hg]; exact (below_size (by repeat (first | (with_reducible first | exact HB.out | apply below_alloc | apply pw_below_drewN | apply below_drew1) | exact HB.out))) : w.heap.size ≤ gb259)); have n3_ := Aside0.mk ((by rw [hg]; exact (below_size (by repeat (first | (with_reducible first | exact HB.out | apply below_alloc | apply pw_below_drewN | apply below_drew1) | exact HB.out))) : w.heap.size ≤ gb259)); clear HB; have HB := n0_; have BK259 := n1_; have GW259 := n2_; have GE259 := n3_; clear n0_ n1_ n2_ n3_; clear hb hbox hg; have hcz6_0 : w5.cell? ⟨gb259, 0, none⟩ = some (.int .i64 0) := (blk_cell BK259.out 0).trans rfl; have hcz6_1 : w5.cell? ⟨gb259, 1, none⟩ = some (.int .i64 0) := (blk_cell BK259.out 1).trans rfl; have hcz6_2 : w5.cell? ⟨gb259, 2, none⟩ = some (.int .i64 0) := (blk_cell BK259.out 2).trans rfl; have hcz6_3 : w5.cell? ⟨gb259, 3, none⟩ = some (.int .i64 0) := (blk_cell BK259.out 3).trans rfl; have hfz6_0 := blk_frozen BK259.out 0; have hfz6_1 := blk_frozen BK259.out 1; have hfz6_2 := blk_frozen BK259.out 2; have hfz6_3 := blk_frozen BK259.out 3))
 go_ret2
 exact ⟨by first | rfl | (simp [errW_none, errW_some] <;> rfl) | (simp [*, errW_none, errW_some] <;> rfl), by repeat (first | (with_reducible first | exact HB.out | apply below_alloc | apply pw_below_drewN | apply below_drew1 | refine below_set ?_ GE259.out) | exact HB.out)⟩

end Go.Proofs.Ytclbjddcenkidaa.PS
namespace Go.Proofs.Ytclbjddcenkidaa.PS
open Go.RowKit Go.Proofs.YtclbjddcenkidaaW.PrintWords Go.Proofs.YtclbjddcenkidaaW.PrintLast Go.Proofs.YtclbjddcenkidaaW.PrintMore
attribute [local go_sem] max2_int min2_int max_two min_two max_three min_three max_four min_four   -- for this text's walks alone

mutual
def barscanref17_Smallest.j0 : Nat → List Int → Int → Int → Bool → Option (Int × (List (S54)) × Int)
 | 0, _, _, _, _ => none
 | k + 1, x0, x1, x2, x22 => if x22 = true then (some (0, ([] : List (S54)), 15)) else (if x2 < 0 then (some (0, ([] : List (S54)), 3)) else (barscanref17_Smallest.l0 k x0 x1 x2 (([1, 10, 27, 41] : List Int)) 0))
def barscanref17_Smallest.l0 : Nat → List Int → Int → Int → List Int → Int → Option (Int × (List (S54)) × Int)
 | 0, _, _, _, _, _ => none
 | k + 1, x0, x1, x2, x9, x10 => if x10 < 3 then ((barscanref16_Best.f k x0 x10).bind fun bt263 => (if bt263.2.2 = 0 then (if 0 ≤ x10 then (if x10 < (x9.length : Int) then (barscanref17_Smallest.l1 k x0 x1 x2 x9 x10 bt263.1 bt263.2.1 (rd x9 x10)) else (none)) else (none)) else (some (0, ([] : List (S54)), bt263.2.2)))) else (some (0, ([] : List (S54)), 16))
def barscanref17_Smallest.l1 : Nat → List Int → Int → Int → List Int → Int → List (S54) → Int → Int → Option (Int × (List (S54)) × Int)
 | 0, _, _, _, _, _, _, _, _ => none
 | k + 1, x0, x1, x2, x9, x10, x11, x12, x14 => if 0 ≤ (wrap64 (x10 + 1)) then (if (wrap64 (x10 + 1)) < (x9.length : Int) then (if x14 < (rd x9 (wrap64 (x10 + 1))) then ((barscanref17_Capacity.f x14 x1).bind fun bt270 => (if x2 ≤ (wrap64 ((wrap64 (8 * bt270.1)) - x12)) then (some (x14, x11, 0)) else (barscanref17_Smallest.l1 k x0 x1 x2 x9 x10 x11 x12 (wrap64 (x14 + 1))))) else (barscanref17_Smallest.l0 k x0 x1 x2 x9 (wrap64 (x10 + 1)))) else (none)) else (none)
end
def barscanref17_Smallest.f (k : Nat) (l0 : List Int) (a1 : Int) (a2 : Int) : Option (Int × (List (S54)) × Int) := if a1 < 1 then (barscanref17_Smallest.j0 k l0 a1 a2 true) else (barscanref17_Smallest.j0 k l0 a1 a2 (decide (a1 > 4)))
theorem barscanref17_Smallest.mono_l : ∀ k, (∀ y0 y1 y2 y3, LeO (barscanref17_Smallest.j0 k y0 y1 y2 y3) (barscanref17_Smallest.j0 (k + 1) y0 y1 y2 y3)) ∧ (∀ y0 y1 y2 y3 y4, LeO (barscanref17_Smallest.l0 k y0 y1 y2 y3 y4) (barscanref17_Smallest.l0 (k + 1) y0 y1 y2 y3 y4)) ∧ (∀ y0 y1 y2 y3 y4 y5 y6 y7, LeO (barscanref17_Smallest.l1 k y0 y1 y2 y3 y4 y5 y6 y7) (barscanref17_Smallest.l1 (k + 1) y0 y1 y2 y3 y4 y5 y6 y7))
 | 0 => ⟨fun _ _ _ _ r h => by simp [barscanref17_Smallest.j0] at h, fun _ _ _ _ _ r h => by simp [barscanref17_Smallest.l0] at h, fun _ _ _ _ _ _ _ _ r h => by simp [barscanref17_Smallest.l1] at h⟩
 | k + 1 => by
  obtain ⟨ih0, ih1, ih2⟩ := barscanref17_Smallest.mono_l k
  refine ⟨?_, ?_, ?_⟩
  ·intro y0 y1 y2 y3
   unfold barscanref17_Smallest.j0
   repeat' first
   | (with_reducible exact ih0 _ _ _ _)
   | (with_reducible exact ih1 _ _ _ _ _)
   | (with_reducible exact ih2 _ _ _ _ _ _ _ _)
   | (with_reducible exact barscanref16_Best.mono _ _ _)
   | (with_reducible exact LeO.refl _)
   | (with_reducible exact LeO.none _)
   | (with_reducible refine LeO.ite ?_ ?_)
   | (with_reducible refine LeO.bind ?_ (fun _ => ?_))
   | exact ih0 _ _ _ _
   | exact ih1 _ _ _ _ _
   | exact ih2 _ _ _ _ _ _ _ _
   | exact barscanref16_Best.mono _ _ _
   | exact LeO.none _
   | refine LeO.ite ?_ ?_
   | refine LeO.bind ?_ (fun _ => ?_)
  ·intro y0 y1 y2 y3 y4
   unfold barscanref17_Smallest.l0
   repeat' first
   | (with_reducible exact ih0 _ _ _ _)
   | (with_reducible exact ih1 _ _ _ _ _)
   | (with_reducible exact ih2 _ _ _ _ _ _ _ _)
   | (with_reducible exact barscanref16_Best.mono _ _ _)
   | (with_reducible exact LeO.refl _)
   | (with_reducible exact LeO.none _)
   | (with_reducible refine LeO.ite ?_ ?_)
   | (with_reducible refine LeO.bind ?_ (fun _ => ?_))
   | exact ih0 _ _ _ _
   | exact ih1 _ _ _ _ _
   | exact ih2 _ _ _ _ _ _ _ _
   | exact barscanref16_Best.mono _ _ _
   | exact LeO.none _
   | refine LeO.ite ?_ ?_
   | refine LeO.bind ?_ (fun _ => ?_)
  ·intro y0 y1 y2 y3 y4 y5 y6 y7
   unfold barscanref17_Smallest.l1
   repeat' first
   | (with_reducible exact ih0 _ _ _ _)
   | (with_reducible exact ih1 _ _ _ _ _)
   | (with_reducible exact ih2 _ _ _ _ _ _ _ _)
   | (with_reducible exact barscanref16_Best.mono _ _ _)
   | (with_reducible exact LeO.refl _)
   | (with_reducible exact LeO.none _)
   | (with_reducible refine LeO.ite ?_ ?_)
   | (with_reducible refine LeO.bind ?_ (fun _ => ?_))
   | exact ih0 _ _ _ _
   | exact ih1 _ _ _ _ _
   | exact ih2 _ _ _ _ _ _ _ _
   | exact barscanref16_Best.mono _ _ _
   | exact LeO.none _
   | refine LeO.ite ?_ ?_
   | refine LeO.bind ?_ (fun _ => ?_)
theorem barscanref17_Smallest.mono : ∀ a0 a1 a2 k, LeO (barscanref17_Smallest.f k a0 a1 a2) (barscanref17_Smallest.f (k + 1) a0 a1 a2) := by
 intro a0 a1 a2 k
 obtain ⟨ih0, ih1, ih2⟩ := barscanref17_Smallest.mono_l k
 unfold barscanref17_Smallest.f
 repeat' first
   | (with_reducible exact ih0 _ _ _ _)
   | (with_reducible exact ih1 _ _ _ _ _)
   | (with_reducible exact ih2 _ _ _ _ _ _ _ _)
   | (with_reducible exact barscanref16_Best.mono _ _ _)
   | (with_reducible exact LeO.refl _)
   | (with_reducible exact LeO.none _)
   | (with_reducible refine LeO.ite ?_ ?_)
   | (with_reducible refine LeO.bind ?_ (fun _ => ?_))
   | exact ih0 _ _ _ _
   | exact ih1 _ _ _ _ _
   | exact ih2 _ _ _ _ _ _ _ _
   | exact barscanref16_Best.mono _ _ _
   | exact LeO.none _
   | refine LeO.ite ?_ ?_
   | refine LeO.bind ?_ (fun _ => ?_)
set_option maxHeartbeats 8000000 in
set_option maxRecDepth 100000 in
theorem barscanref17_Smallest.calls (k : Nat) (A0 : Option Addr) (c0 : Nat) (l0 : List Int) (a1 : Int) (a2 : Int) (r1 : Int) (r2 : List (S54)) (r3 : Int) (w : World) (hr0 : Kd.C (Kd.int .u8) w A0 l0.length l0) (hc0 : l0.length ≤ c0) (h : barscanref17_Smallest.f k l0 a1 a2 = some (r1, r2, r3)) :
  Calls Try.prog 31 #[.slice A0 l0.length c0, .int .i64 a1, .int .i64 a2] w fun e w' => ∃ v1_ : Value, e = .returned (.tuple #[.int .i64 r1, v1_, .int .i64 r3]) ∧ Kd.S k54 54 w' w.heap.size (fun _ => True) v1_ r2 ∧ Below w.heap.size w w' := by
 have HR0 := Aside0.mk hr0
 have HC0 := Aside0.mk hc0
 clear hr0 hc0
 have HB := Aside0.mk (Below.refl w.heap.size w)
 have H : (if a1 < 1 then (barscanref17_Smallest.j0 k l0 a1 a2 true) else (barscanref17_Smallest.j0 k l0 a1 a2 (decide (a1 > 4)))) = some (r1, r2, r3) := h
 clear h
 have HC4 := Aside0.mk H
 clear H
 go_enter Try.func31, Try.ntmps31
 go_upto_region 1 with (fail)
 go_cut [22] (fun v22 wc => ∃ (kq : Nat) (x22_3 : Bool), v22 = .bool x22_3 ∧ Aside0 (barscanref17_Smallest.j0 kq l0 a1 a2 x22_3 = some (r1, r2, r3)) ∧ Aside0 (kq ≤ k) ∧ Aside0 (Below w.heap.size w wc))
 case first =>
  have H := HC4.out
  clear HC4
  by_cases c5 : a1 < 1
  ·rw [if_pos c5] at H
   have c5b0 : decide (a1 < 1) = true := decide_eq_true c5
   clear c5
   (first | rw [c5b0] | (simp only [i64_w, i32_w]; rw [c5b0]) | skip)
   have H' := Aside0.mk H
   clear H
   go_wp2
   go_meet
   case rel => exact ⟨_, (true), (by first | rfl | (simp; done) | (simp [*]; done)), H', ⟨by first | omega | exact Nat.le_refl _⟩, ⟨by repeat (first | (with_reducible first | exact HB.out | apply below_alloc | apply pw_below_drewN | apply below_drew1) | exact HB.out)⟩⟩
  ·rw [if_neg c5] at H
   have c5b0 : decide (a1 < 1) = false := decide_eq_false c5
   clear c5
   (first | rw [c5b0] | (simp only [i64_w, i32_w]; rw [c5b0]) | skip)
   have H' := Aside0.mk H
   clear H
   go_wp2
   go_meet
   case rel => exact ⟨_, (decide (a1 > 4)), (by first | rfl | (simp; done) | (simp [*]; done)), H', ⟨by first | omega | exact Nat.le_refl _⟩, ⟨by repeat (first | (with_reducible first | exact HB.out | apply below_alloc | apply pw_below_drewN | apply below_drew1) | exact HB.out)⟩⟩
 case rest =>
  clear HC4
  try clear p2
  try clear c3
  try clear c5
  try clear c5b0
  obtain ⟨kq, x22_3, rfl, HA, HJ3, HB⟩ := hcut
  cases kq with
  | zero => exact absurd HA.out (by simp [barscanref17_Smallest.j0])
  | succ kj3 =>
   have H := HA.out
   clear HA
   simp only [barscanref17_Smallest.j0] at H
   by_cases c6 : x22_3 = true
   ·subst c6
    have H1 : (some (0, ([] : List (S54)), 15)) = some (r1, r2, r3) := by rw [if_pos rfl] at H; exact H
    clear H
    have H := H1
    clear H1
    simp only [Option.some.injEq, Prod.mk.injEq] at H
    obtain ⟨rfl, rfl, rfl⟩ := H
    go_wp2
    go_ret3
    exact ⟨_, by first | rfl | (simp [errW_none, errW_some] <;> rfl) | (simp [*, errW_none, errW_some] <;> rfl), by first | exact Kd.S_nil _ _ _ _ _ | exact Kd.N_nil _ _ _ _ _ | exact Kd.V_nil _ _ _ _ _ | exact Kd.Q_nil _ _ _ _ _ | exact Kd.R_nil _ _ _ _ _, by repeat (first | (with_reducible first | exact HB.out | apply below_alloc | apply pw_below_drewN | apply below_drew1) | exact HB.out)⟩
   ·replace c6 := Bool.eq_false_iff.mpr c6
    subst c6
    have H1 : (if a2 < 0 then (some (0, ([] : List (S54)), 3)) else (barscanref17_Smallest.l0 kj3 l0 a1 a2 (([1, 10, 27, 41] : List Int)) 0)) = some (r1, r2, r3) := by rw [if_neg (show ¬ (false = true) by decide)] at H; exact H
    clear H
    have H := H1
    clear H1
    by_cases c7 : a2 < 0
    ·rw [if_pos c7] at H
     have c7b0 : decide (a2 < 0) = true := decide_eq_true c7
     clear c7
     simp only [Option.some.injEq, Prod.mk.injEq] at H
     obtain ⟨rfl, rfl, rfl⟩ := H
     go_wp2
     go_ret3
     exact ⟨_, by first | rfl | (simp [errW_none, errW_some] <;> rfl) | (simp [*, errW_none, errW_some] <;> rfl), by first | exact Kd.S_nil _ _ _ _ _ | exact Kd.N_nil _ _ _ _ _ | exact Kd.V_nil _ _ _ _ _ | exact Kd.Q_nil _ _ _ _ _ | exact Kd.R_nil _ _ _ _ _, by repeat (first | (with_reducible first | exact HB.out | apply below_alloc | apply pw_below_drewN | apply below_drew1) | exact HB.out)⟩
    ·rw [if_neg c7] at H
     have c7b0 : decide (a2 < 0) = false := decide_eq_false c7
     clear c7
     obtain ⟨y260, hy260⟩ : ∃ y_ : List Int, y_ = (([1, 10, 27, 41] : List Int)) := ⟨_, rfl⟩
     replace H : (barscanref17_Smallest.l0 kj3 l0 a1 a2 y260 0) = some (r1, r2, r3) := by first | (rw [hy260]; with_reducible exact H) | (have H2_ := (Option.bind_some _ _).symm.trans H; rw [hy260]; with_reducible exact H2_) | (have H2_ := (Option.bind_some _ _).symm.trans H; with_reducible exact H2_) | with_reducible exact H | (rw [hy260]; exact H) | exact H
     have Ny260 := Aside0.mk hy260
     clear hy260
     have H' := Aside0.mk H
     clear H
     go_wp2_with (first | ((with_reducible refine gate_dst (N := 25) rfl ?_); refine Kd.R_lit (Kd.int .i64) _ 3 ?hg (N := 25) ?hd (xs := ([1, 10, 27, 41] : List Int)) (inner := [.int .i64 1, .int .i64 10, .int .i64 27, .int .i64 41]) (ok := fun _ => True) (okp := fun _ => True) ?hr ?hp (fun _ hk => hk) trivial (Below.refl _ _) (Nat.le_refl _) (by simp) ?_; (case hd => rfl); (case hg => rfl); (case hr => first | (go_simp; done) | (go_simp; rfl)); (case hp => exact (Reps.one (show Kd.M (Kd.int .i64) _ _ _ 1 [.int .i64 1] from rfl) (Reps.one (show Kd.M (Kd.int .i64) _ _ _ 10 [.int .i64 10] from rfl) (Reps.one (show Kd.M (Kd.int .i64) _ _ _ 27 [.int .i64 27] from rfl) (Reps.one (show Kd.M (Kd.int .i64) _ _ _ 41 [.int .i64 41] from rfl) (Reps.none _ _)))))); intro v261 w8 ho9 hb hg_ hnew_; clear hg_ hnew_; (first | rw [← Ny260.out] at ho9 | (simp only [Int.reduceToNat] at ho9; rw [← Ny260.out] at ho9)); have n0_ := Aside0.mk (Kd.R_lower ho9 (below_size (by repeat (first | (with_reducible first | exact HB.out | apply below_alloc | apply pw_below_drewN | apply below_drew1) | exact HB.out)))); have n1_ := Aside0.mk (below_step (by repeat (first | (with_reducible first | exact HB.out | apply below_alloc | apply pw_below_drewN | apply below_drew1) | exact HB.out)) hb); clear HB; have HO262 := n0_; have HB := n1_; clear n0_ n1_; clear hb ho9))
     go_loopg [10] kj3 (fun kq v10 w' => ∃ (x10_2 : Int), v10 = .int .i64 x10_2 ∧ Aside0 (barscanref17_Smallest.l0 kq l0 a1 a2 y260 x10_2 = some (r1, r2, r3)) ∧ Aside0 (kq ≤ kj3) ∧ Aside0 (Kd.R (Kd.int .i64) 3 w' w.heap.size (fun _ => True) v261 y260) ∧ Aside0 (Below w.heap.size w w'))
     case atStart => exact ⟨(0), (by first | rfl | (simp; done) | (simp [*]; done)), H', ⟨Nat.le_refl _⟩, ⟨by (with_reducible repeat (first | apply Kd.R_alloc | apply Kd.R_drewN | apply Kd.R_drew)); exact HO262.out⟩, ⟨by repeat (first | (with_reducible first | exact HB.out | apply below_alloc | apply pw_below_drewN | apply below_drew1) | exact HB.out)⟩⟩
     case round =>
      clear H'
      try clear p2
      try clear c3
      try clear c5
      try clear c5b0
      try clear c6
      try clear c7
      try clear c7b0
      try clear p2
      obtain ⟨x10_2, rfl, HA, HK2, HO_9, HB⟩ := hrel
      cases gk with
      | zero => exact absurd HA.out (by simp [barscanref17_Smallest.l0])
      | succ k2 =>
       have H := HA.out
       clear HA
       simp only [barscanref17_Smallest.l0] at H
       by_cases c10 : x10_2 < 3
       ·rw [if_pos c10] at H
        have c10b0 : decide (x10_2 < 3) = true := decide_eq_true c10
        clear c10
        replace H := Option.bind_eq_some_iff.mp H
        obtain ⟨⟨t263, t264, t265⟩, A110, H⟩ := H
        replace H : (if t265 = 0 then (if 0 ≤ x10_2 then (if x10_2 < (y260.length : Int) then (barscanref17_Smallest.l1 k2 l0 a1 a2 y260 x10_2 t263 t264 (rd y260 x10_2)) else (none)) else (none)) else (some (0, ([] : List (S54)), t265))) = some (r1, r2, r3) := H
        have A11 := Aside0.mk A110
        clear A110
        by_cases c12 : t265 = 0
        ·rw [if_pos c12] at H
         have c12b0 : (t265 == 0) = true := beq_iff_eq.mpr c12
         have c12b1 : (t265 != 0) = false := bne_eq_false_iff_eq.mpr c12
         clear c12
         by_cases c13 : 0 ≤ x10_2
         ·rw [if_pos c13] at H
          have c13b0 : decide (0 ≤ x10_2) = true := decide_eq_true c13
          clear c13
          by_cases c14 : x10_2 < (y260.length : Int)
          ·rw [if_pos c14] at H
           have c14b0 : decide (x10_2 < (y260.length : Int)) = true := decide_eq_true c14
           clear c14
           have H' := Aside0.mk H
           clear H
           go_wp2_with (first | ((with_reducible refine gate_callee (f := 43) rfl ?_); refine goesL_ (some 33) rfl rfl Try.func43 (by kernel_rfl) rfl #[.slice A0 l0.length c0, .int .i64 x10_2] rfl (by (try simp only [List.map_toArray, List.map_cons, List.map_nil]); first | done | rfl | (simp only [List.length_drop, List.length_take]; rfl)) ?_; (with_reducible refine (barscanref16_Best.calls k2 _ _ l0 x10_2 t263 t264 t265 _ ?side1 ?side2 A11.out).mono ?_); (case side1 => repeat (first | exact (Kd.C_below HR0.out HB.out) | (with_reducible refine Kd.C_alloc ?_ _) | (with_reducible refine Kd.C_drewN ?_ _) | (with_reducible refine Kd.C_drew ?_))); (case side2 => exact HC0.out); rintro e w15 ⟨v266, rfl, ho0, hb⟩; refine ⟨_, rfl, ?_⟩; have n0_ := Aside0.mk (Kd.R_below (by (with_reducible repeat (first | apply Kd.R_alloc | apply Kd.R_drewN | apply Kd.R_drew)); exact HO_9.out) hb); have n1_ := Aside0.mk (Kd.S_lower ho0 (below_size (by repeat (first | (with_reducible first | exact HB.out | apply below_alloc | apply pw_below_drewN | apply below_drew1) | exact HB.out)))); have n2_ := Aside0.mk (below_step (by repeat (first | (with_reducible first | exact HB.out | apply below_alloc | apply pw_below_drewN | apply below_drew1) | exact HB.out)) hb); clear HO_9; clear HB; have HO_9 := n0_; have HO267 := n1_; have HB := n2_; clear n0_ n1_ n2_; (try clear hb); (try clear hb2); (try clear hk); (try clear hi); (try clear ho0); obtain ⟨Ao16, co16, eo16⟩ := Kd.R_slice HO_9.out; subst eo16; have p268 : 0 ≤ (x10_2 : Int) := of_decide_eq_true (by first | (with_reducible assumption) | assumption); have q268 : x10_2 < (y260.length : Int) := of_decide_eq_true (by first | (with_reducible assumption) | assumption); obtain ⟨ad268, e268, hx268_0⟩ := Kd.at_int (Kd.R_reads' HO_9.out).2.2 x10_2 p268 q268; cases e268; replace p268 := eq_true p268; replace q268 := eq_true q268))
           go_loopg [14] k2 (fun kq v14 w' => ∃ (x14_3 : Int), v14 = .int .i64 x14_3 ∧ Aside0 (barscanref17_Smallest.l1 kq l0 a1 a2 y260 x10_2 t263 t264 x14_3 = some (r1, r2, r3)) ∧ Aside0 (kq ≤ k2) ∧ Aside0 (Kd.R (Kd.int .i64) 3 w' w.heap.size (fun _ => True) (.slice (some ad268) y260.length co16) y260) ∧ Aside0 (Kd.S k54 54 w' w.heap.size (fun _ => True) v266 t263) ∧ Aside0 (Below w.heap.size w w'))
           case atStart => exact ⟨(rd y260 x10_2), (by first | rfl | (simp; done) | (simp [*]; done)), H', ⟨Nat.le_refl _⟩, ⟨by (with_reducible repeat (first | apply Kd.R_alloc | apply Kd.R_drewN | apply Kd.R_drew)); exact HO_9.out⟩, ⟨by (with_reducible repeat (first | apply Kd.S_alloc | apply Kd.S_drewN | apply Kd.S_drew)); exact HO267.out⟩, ⟨by repeat (first | (with_reducible first | exact HB.out | apply below_alloc | apply pw_below_drewN | apply below_drew1) | exact HB.out)⟩⟩
           case round =>
            clear H'
            try clear c1
            try clear p2
            try clear q2
            try clear hx2
            try clear c3
            try clear c4
            try clear c5
            try clear c5b0
            try clear c6
            try clear c7
            try clear c7b0
            try clear c10
            try clear c10b0
            try clear c12
            try clear c12b0
            try clear c12b1
            try clear c13
            try clear c13b0
            try clear c14
            try clear c14b0
            try clear hx268_0
            try clear p2
            try clear p268
            try clear q268
            obtain ⟨x14_3, rfl, HA, HK3, HO_9, HO_11, HB⟩ := hrel
            cases gk with
            | zero => exact absurd HA.out (by simp [barscanref17_Smallest.l1])
            | succ k3 =>
             have H := HA.out
             clear HA
             simp only [barscanref17_Smallest.l1] at H
             obtain ⟨ji17, hji17⟩ : ∃ j_ : Int, (wrap64 (x10_2 + 1)) = j_ := ⟨_, rfl⟩
             replace H : (if 0 ≤ (ji17) then (if (ji17) < (y260.length : Int) then (if x14_3 < (rd y260 (ji17)) then ((barscanref17_Capacity.f x14_3 a1).bind fun bt270 => (if a2 ≤ (wrap64 ((wrap64 (8 * bt270.1)) - t264)) then (some (x14_3, t263, 0)) else (barscanref17_Smallest.l1 k3 l0 a1 a2 y260 x10_2 t263 t264 (wrap64 (x14_3 + 1))))) else (barscanref17_Smallest.l0 k3 l0 a1 a2 y260 ji17)) else (none)) else (none)) = some (r1, r2, r3) := by first | (rw [hji17] at H; exact H) | (simp only [hji17] at H ⊢; exact H)
             have hji17w : (IntKind.i64.wrap (x10_2 + 1)) = ji17 := (i64_w _).trans hji17
             by_cases c18 : 0 ≤ (ji17)
             ·rw [if_pos c18] at H
              have c18b0 : decide (0 ≤ (ji17)) = true := decide_eq_true c18
              clear c18
              by_cases c19 : (ji17) < (y260.length : Int)
              ·rw [if_pos c19] at H
               have c19b0 : decide ((ji17) < (y260.length : Int)) = true := decide_eq_true c19
               clear c19
               by_cases c20 : x14_3 < (rd y260 (ji17))
               ·rw [if_pos c20] at H
                have c20b0 : decide (x14_3 < (rd y260 (ji17))) = true := decide_eq_true c20
                clear c20
                replace H := Option.bind_eq_some_iff.mp H
                obtain ⟨⟨t270, t271⟩, A210, H⟩ := H
                replace H : (if a2 ≤ (wrap64 ((wrap64 (8 * t270)) - t264)) then (some (x14_3, t263, 0)) else (barscanref17_Smallest.l1 k3 l0 a1 a2 y260 x10_2 t263 t264 (wrap64 (x14_3 + 1)))) = some (r1, r2, r3) := H
                have A21 := Aside0.mk A210
                clear A210
                by_cases c22 : a2 ≤ (wrap64 ((wrap64 (8 * t270)) - t264))
                ·rw [if_pos c22] at H
                 have c22b0 : decide (a2 ≤ (wrap64 ((wrap64 (8 * t270)) - t264))) = true := decide_eq_true c22
                 clear c22
                 simp only [Option.some.injEq, Prod.mk.injEq] at H
                 obtain ⟨rfl, rfl, rfl⟩ := H
                 have p269 : 0 ≤ ((ji17) : Int) := of_decide_eq_true (by first | (with_reducible assumption) | assumption)
                 have q269 : (ji17) < (y260.length : Int) := of_decide_eq_true (by first | (with_reducible assumption) | assumption)
                 obtain ⟨ad269, e269, hx269_0⟩ := Kd.at_int (Kd.R_reads' HO_9.out).2.2 (ji17) p269 q269
                 obtain rfl : ad268 = ad269 := (by injection e269)
                 replace p269 := eq_true p269
                 replace q269 := eq_true q269
                 go_wp2_with (first | ((with_reducible refine gate_callee (f := 44) rfl ?_); refine goesL_ (some 56) rfl rfl Try.func44 (by kernel_rfl) rfl #[.int .i64 x14_3, .int .i64 a1] rfl (by (try simp only [List.map_toArray, List.map_cons, List.map_nil]); first | done | rfl | (simp only [List.length_drop, List.length_take]; rfl)) ?_; (with_reducible refine (barscanref17_Capacity.calls x14_3 a1 t270 t271 _ A21.out).mono ?_); rintro e w23 ⟨rfl, hb⟩; refine ⟨_, rfl, ?_⟩; have n0_ := Aside0.mk (Kd.R_below (by (with_reducible repeat (first | apply Kd.R_alloc | apply Kd.R_drewN | apply Kd.R_drew)); exact HO_9.out) hb); have n1_ := Aside0.mk (Kd.S_below (by (with_reducible repeat (first | apply Kd.S_alloc | apply Kd.S_drewN | apply Kd.S_drew)); exact HO_11.out) hb); have n2_ := Aside0.mk (below_step (by repeat (first | (with_reducible first | exact HB.out | apply below_alloc | apply pw_below_drewN | apply below_drew1) | exact HB.out)) hb); clear HO_9; clear HO_11; clear HB; have HO_9 := n0_; have HO_11 := n1_; have HB := n2_; clear n0_ n1_ n2_; (try clear hb); (try clear hb2); (try clear hk); (try clear hi)))
                 go_ret3
                 exact ⟨_, by first | rfl | (simp [errW_none, errW_some] <;> rfl) | (simp only [← hji17]; first | rfl | (simp [errW_none, errW_some] <;> rfl)) | (simp [*, errW_none, errW_some] <;> rfl), by (with_reducible repeat (first | apply Kd.S_alloc | apply Kd.S_drewN | apply Kd.S_drew)); exact HO_11.out, by repeat (first | (with_reducible first | exact HB.out | apply below_alloc | apply pw_below_drewN | apply below_drew1) | exact HB.out)⟩
                ·rw [if_neg c22] at H
                 have c22b0 : decide (a2 ≤ (wrap64 ((wrap64 (8 * t270)) - t264))) = false := decide_eq_false c22
                 clear c22
                 have H' := Aside0.mk H
                 clear H
                 have p269 : 0 ≤ ((ji17) : Int) := of_decide_eq_true (by first | (with_reducible assumption) | assumption)
                 have q269 : (ji17) < (y260.length : Int) := of_decide_eq_true (by first | (with_reducible assumption) | assumption)
                 obtain ⟨ad269, e269, hx269_0⟩ := Kd.at_int (Kd.R_reads' HO_9.out).2.2 (ji17) p269 q269
                 obtain rfl : ad268 = ad269 := (by injection e269)
                 replace p269 := eq_true p269
                 replace q269 := eq_true q269
                 go_wp2_with (first | ((with_reducible refine gate_callee (f := 44) rfl ?_); refine goesL_ (some 56) rfl rfl Try.func44 (by kernel_rfl) rfl #[.int .i64 x14_3, .int .i64 a1] rfl (by (try simp only [List.map_toArray, List.map_cons, List.map_nil]); first | done | rfl | (simp only [List.length_drop, List.length_take]; rfl)) ?_; (with_reducible refine (barscanref17_Capacity.calls x14_3 a1 t270 t271 _ A21.out).mono ?_); rintro e w24 ⟨rfl, hb⟩; refine ⟨_, rfl, ?_⟩; have n0_ := Aside0.mk (Kd.R_below (by (with_reducible repeat (first | apply Kd.R_alloc | apply Kd.R_drewN | apply Kd.R_drew)); exact HO_9.out) hb); have n1_ := Aside0.mk (Kd.S_below (by (with_reducible repeat (first | apply Kd.S_alloc | apply Kd.S_drewN | apply Kd.S_drew)); exact HO_11.out) hb); have n2_ := Aside0.mk (below_step (by repeat (first | (with_reducible first | exact HB.out | apply below_alloc | apply pw_below_drewN | apply below_drew1) | exact HB.out)) hb); clear HO_9; clear HO_11; clear HB; have HO_9 := n0_; have HO_11 := n1_; have HB := n2_; clear n0_ n1_ n2_; (try clear hb); (try clear hb2); (try clear hk); (try clear hi)))
                 go_roundg k3
                 case measure => have := HJ3.out; have := HK2.out; have := HK3.out; omega
                 case rel => exact ⟨(wrap64 (x14_3 + 1)), (by first | rfl | (simp; done) | (simp [*]; done)), H', ⟨by have := HJ3.out; have := HK2.out; have := HK3.out; omega⟩, ⟨by (with_reducible repeat (first | apply Kd.R_alloc | apply Kd.R_drewN | apply Kd.R_drew)); exact HO_9.out⟩, ⟨by (with_reducible repeat (first | apply Kd.S_alloc | apply Kd.S_drewN | apply Kd.S_drew)); exact HO_11.out⟩, ⟨by repeat (first | (with_reducible first | exact HB.out | apply below_alloc | apply pw_below_drewN | apply below_drew1) | exact HB.out)⟩⟩
               ·rw [if_neg c20] at H
                have c20b0 : decide (x14_3 < (rd y260 (ji17))) = false := decide_eq_false c20
                clear c20
                have H' := Aside0.mk H
                clear H
                have p269 : 0 ≤ ((ji17) : Int) := of_decide_eq_true (by first | (with_reducible assumption) | assumption)
                have q269 : (ji17) < (y260.length : Int) := of_decide_eq_true (by first | (with_reducible assumption) | assumption)
                obtain ⟨ad269, e269, hx269_0⟩ := Kd.at_int (Kd.R_reads' HO_9.out).2.2 (ji17) p269 q269
                obtain rfl : ad268 = ad269 := (by injection e269)
                replace p269 := eq_true p269
                replace q269 := eq_true q269
                go_wp2
                go_roundg k3
                case measure => have := HJ3.out; have := HK2.out; have := HK3.out; omega
                case rel => exact ⟨(ji17), (by first | rfl | (simp; done) | (simp only [← hji17] <;> (first | rfl | simp)) | (simp [*]; done)), H', ⟨by have := HJ3.out; have := HK2.out; have := HK3.out; omega⟩, ⟨by (with_reducible repeat (first | apply Kd.R_alloc | apply Kd.R_drewN | apply Kd.R_drew)); exact HO_9.out⟩, ⟨by repeat (first | (with_reducible first | exact HB.out | apply below_alloc | apply pw_below_drewN | apply below_drew1) | exact HB.out)⟩⟩
              ·rw [if_neg c19] at H
               exact absurd H (by simp)
             ·rw [if_neg c18] at H
              exact absurd H (by simp)
          ·rw [if_neg c14] at H
           exact absurd H (by simp)
         ·rw [if_neg c13] at H
          exact absurd H (by simp)
        ·rw [if_neg c12] at H
         have c12b0 : (t265 == 0) = false := beq_eq_false_iff_ne.mpr c12
         have c12b1 : (t265 != 0) = true := bne_iff_ne.mpr c12
         simp only [Option.some.injEq, Prod.mk.injEq] at H
         obtain ⟨rfl, rfl, rfl⟩ := H
         go_wp2_with (first | ((with_reducible refine gate_callee (f := 43) rfl ?_); refine goesL_ (some 33) rfl rfl Try.func43 (by kernel_rfl) rfl #[.slice A0 l0.length c0, .int .i64 x10_2] rfl (by (try simp only [List.map_toArray, List.map_cons, List.map_nil]); first | done | rfl | (simp only [List.length_drop, List.length_take]; rfl)) ?_; (with_reducible refine (barscanref16_Best.calls k2 _ _ l0 x10_2 t263 t264 t265 _ ?side1 ?side2 A11.out).mono ?_); (case side1 => repeat (first | exact (Kd.C_below HR0.out HB.out) | (with_reducible refine Kd.C_alloc ?_ _) | (with_reducible refine Kd.C_drewN ?_ _) | (with_reducible refine Kd.C_drew ?_))); (case side2 => exact HC0.out); rintro e w25 ⟨v266, rfl, ho0, hb⟩; refine ⟨_, rfl, ?_⟩; have n0_ := Aside0.mk (Kd.R_below (by (with_reducible repeat (first | apply Kd.R_alloc | apply Kd.R_drewN | apply Kd.R_drew)); exact HO_9.out) hb); have n1_ := Aside0.mk (Kd.S_lower ho0 (below_size (by repeat (first | (with_reducible first | exact HB.out | apply below_alloc | apply pw_below_drewN | apply below_drew1) | exact HB.out)))); have n2_ := Aside0.mk (below_step (by repeat (first | (with_reducible first | exact HB.out | apply below_alloc | apply pw_below_drewN | apply below_drew1) | exact HB.out)) hb); clear HO_9; clear HB; have HO_9 := n0_; have HO267 := n1_; have HB := n2_; clear n0_ n1_ n2_; (try clear hb); (try clear hb2); (try clear hk); (try clear hi); (try clear ho0)))
         go_ret3
         exact ⟨_, by first | rfl | (simp [errW_none, errW_some] <;> rfl) | (simp [*, errW_none, errW_some] <;> rfl), by first | exact Kd.S_nil _ _ _ _ _ | exact Kd.N_nil _ _ _ _ _ | exact Kd.V_nil _ _ _ _ _ | exact Kd.Q_nil _ _ _ _ _ | exact Kd.R_nil _ _ _ _ _, by repeat (first | (with_reducible first | exact HB.out | apply below_alloc | apply pw_below_drewN | apply below_drew1) | exact HB.out)⟩
       ·rw [if_neg c10] at H
        have c10b0 : decide (x10_2 < 3) = false := decide_eq_false c10
        clear c10
        simp only [Option.some.injEq, Prod.mk.injEq] at H
        obtain ⟨rfl, rfl, rfl⟩ := H
        go_wp2
        go_ret3
        exact ⟨_, by first | rfl | (simp [errW_none, errW_some] <;> rfl) | (simp [*, errW_none, errW_some] <;> rfl), by first | exact Kd.S_nil _ _ _ _ _ | exact Kd.N_nil _ _ _ _ _ | exact Kd.V_nil _ _ _ _ _ | exact Kd.Q_nil _ _ _ _ _ | exact Kd.R_nil _ _ _ _ _, by repeat (first | (with_reducible first | exact HB.out | apply below_alloc | apply pw_below_drewN | apply below_drew1) | exact HB.out)⟩

end Go.Proofs.Ytclbjddcenkidaa.PS
namespace Go.Proofs.Ytclbjddcenkidaa.PS
open Go.RowKit Go.Proofs.YtclbjddcenkidaaW.PrintWords Go.Proofs.YtclbjddcenkidaaW.PrintLast Go.Proofs.YtclbjddcenkidaaW.PrintMore
attribute [local go_sem] max2_int min2_int max_two min_two max_three min_three max_four min_four   -- for this text's walks alone

def barscanref23_Fits.f (k : Nat) (l0 : List Int) (a1 : Int) (a2 : Int) (a3 : Int) : Option (Bool) := (barscanref17_Smallest.f k l0 a2 a3).bind fun bt272 => (if bt272.2.2 = 0 then (some (decide (bt272.1 ≤ a1))) else (some false))
theorem barscanref23_Fits.mono : ∀ a0 a1 a2 a3 k, LeO (barscanref23_Fits.f k a0 a1 a2 a3) (barscanref23_Fits.f (k + 1) a0 a1 a2 a3) := by
 intro a0 a1 a2 a3 k
 unfold barscanref23_Fits.f
 repeat' first
   | (with_reducible exact barscanref17_Smallest.mono _ _ _ _)
   | (with_reducible exact LeO.refl _)
   | (with_reducible exact LeO.none _)
   | (with_reducible refine LeO.ite ?_ ?_)
   | (with_reducible refine LeO.bind ?_ (fun _ => ?_))
   | exact barscanref17_Smallest.mono _ _ _ _
   | exact LeO.none _
   | refine LeO.ite ?_ ?_
   | refine LeO.bind ?_ (fun _ => ?_)
set_option maxHeartbeats 8000000 in
set_option maxRecDepth 100000 in
theorem barscanref23_Fits.calls (k : Nat) (A0 : Option Addr) (c0 : Nat) (l0 : List Int) (a1 : Int) (a2 : Int) (a3 : Int) (r : Bool) (w : World) (hr0 : Kd.C (Kd.int .u8) w A0 l0.length l0) (hc0 : l0.length ≤ c0) (h : barscanref23_Fits.f k l0 a1 a2 a3 = some r) :
  Calls Try.prog 19 #[.slice A0 l0.length c0, .int .i64 a1, .int .i64 a2, .int .i64 a3] w fun e w' => e = .returned (.bool r) ∧ Below w.heap.size w w' := by
 have HR0 := Aside0.mk hr0
 have HC0 := Aside0.mk hc0
 clear hr0 hc0
 have HB := Aside0.mk (Below.refl w.heap.size w)
 have H : ((barscanref17_Smallest.f k l0 a2 a3).bind fun bt272 => (if bt272.2.2 = 0 then (some (decide (bt272.1 ≤ a1))) else (some false))) = some r := h
 clear h
 replace H := Option.bind_eq_some_iff.mp H
 obtain ⟨⟨t272, t273, t274⟩, A50, H⟩ := H
 replace H : (if t274 = 0 then (some (decide (t272 ≤ a1))) else (some false)) = some r := H
 have A5 := Aside0.mk A50
 clear A50
 by_cases c6 : t274 = 0
 ·rw [if_pos c6] at H
  have c6b0 : (t274 == 0) = true := beq_iff_eq.mpr c6
  have c6b1 : (t274 != 0) = false := bne_eq_false_iff_eq.mpr c6
  clear c6
  obtain rfl := Option.some.inj H
  go_enter Try.func19, Try.ntmps19
  go_wp2_with (first | ((with_reducible refine gate_callee (f := 31) rfl ?_); refine goesL_ (some 16) rfl rfl Try.func31 (by kernel_rfl) rfl #[.slice A0 l0.length c0, .int .i64 a2, .int .i64 a3] rfl (by (try simp only [List.map_toArray, List.map_cons, List.map_nil]); first | done | rfl | (simp only [List.length_drop, List.length_take]; rfl)) ?_; (with_reducible refine (barscanref17_Smallest.calls k _ _ l0 a2 a3 t272 t273 t274 _ ?side1 ?side2 A5.out).mono ?_); (case side1 => repeat (first | exact HR0.out | (with_reducible refine Kd.C_alloc ?_ _) | (with_reducible refine Kd.C_drewN ?_ _) | (with_reducible refine Kd.C_drew ?_))); (case side2 => exact HC0.out); rintro e w7 ⟨v275, rfl, ho0, hb⟩; refine ⟨_, rfl, ?_⟩; have n0_ := Aside0.mk (Kd.S_lower ho0 (below_size (by repeat (first | (with_reducible first | exact HB.out | apply below_alloc | apply pw_below_drewN | apply below_drew1) | exact HB.out)))); have n1_ := Aside0.mk (below_step (by repeat (first | (with_reducible first | exact HB.out | apply below_alloc | apply pw_below_drewN | apply below_drew1) | exact HB.out)) hb); clear HB; have HO276 := n0_; have HB := n1_; clear n0_ n1_; (try clear hb); (try clear hb2); (try clear hk); (try clear hi); (try clear ho0)))
  go_ret
  exact ⟨by first | rfl | (simp [errW_none, errW_some] <;> rfl) | (simp [*, errW_none, errW_some] <;> rfl), by repeat (first | (with_reducible first | exact HB.out | apply below_alloc | apply pw_below_drewN | apply below_drew1) | exact HB.out)⟩
 ·rw [if_neg c6] at H
  have c6b0 : (t274 == 0) = false := beq_eq_false_iff_ne.mpr c6
  have c6b1 : (t274 != 0) = true := bne_iff_ne.mpr c6
  obtain rfl := Option.some.inj H
  go_enter Try.func19, Try.ntmps19
  go_wp2_with (first | ((with_reducible refine gate_callee (f := 31) rfl ?_); refine goesL_ (some 16) rfl rfl Try.func31 (by kernel_rfl) rfl #[.slice A0 l0.length c0, .int .i64 a2, .int .i64 a3] rfl (by (try simp only [List.map_toArray, List.map_cons, List.map_nil]); first | done | rfl | (simp only [List.length_drop, List.length_take]; rfl)) ?_; (with_reducible refine (barscanref17_Smallest.calls k _ _ l0 a2 a3 t272 t273 t274 _ ?side1 ?side2 A5.out).mono ?_); (case side1 => repeat (first | exact HR0.out | (with_reducible refine Kd.C_alloc ?_ _) | (with_reducible refine Kd.C_drewN ?_ _) | (with_reducible refine Kd.C_drew ?_))); (case side2 => exact HC0.out); rintro e w8 ⟨v275, rfl, ho0, hb⟩; refine ⟨_, rfl, ?_⟩; have n0_ := Aside0.mk (Kd.S_lower ho0 (below_size (by repeat (first | (with_reducible first | exact HB.out | apply below_alloc | apply pw_below_drewN | apply below_drew1) | exact HB.out)))); have n1_ := Aside0.mk (below_step (by repeat (first | (with_reducible first | exact HB.out | apply below_alloc | apply pw_below_drewN | apply below_drew1) | exact HB.out)) hb); clear HB; have HO276 := n0_; have HB := n1_; clear n0_ n1_; (try clear hb); (try clear hb2); (try clear hk); (try clear hi); (try clear ho0)))
  go_ret
  exact ⟨by first | rfl | (simp [errW_none, errW_some] <;> rfl) | (simp [*, errW_none, errW_some] <;> rfl), by repeat (first | (with_reducible first | exact HB.out | apply below_alloc | apply pw_below_drewN | apply below_drew1) | exact HB.out)⟩

end Go.Proofs.Ytclbjddcenkidaa.PS
namespace Go.Proofs.Ytclbjddcenkidaa.PS
open Go.RowKit Go.Proofs.YtclbjddcenkidaaW.PrintWords Go.Proofs.YtclbjddcenkidaaW.PrintLast Go.Proofs.YtclbjddcenkidaaW.PrintMore
attribute [local go_sem] max2_int min2_int max_two min_two max_three min_three max_four min_four   -- for this text's walks alone

mutual
def barscanlaw23_SplitMinimal.j0 : Nat → List Int → List Int → Int → Int → Bool → Option (Bool)
 | 0, _, _, _, _, _ => none
 | k + 1, x0, x3, x9, x10, x33 => if x33 = true then ((barscanlaw23_exampleHolds.f).bind fun t346 => (some t346)) else (barscanlaw23_SplitMinimal.l0 k x0 x3 x9 x10 0 0 0)
def barscanlaw23_SplitMinimal.l0 : Nat → List Int → List Int → Int → Int → Int → Int → Int → Option (Bool)
 | 0, _, _, _, _, _, _, _ => none
 | k + 1, x0, x3, x9, x10, x11, x12, x13 => if x13 < (x3.length : Int) then (barscanlaw23_SplitMinimal.j2 k x0 x3 x9 x10 x11 x12 x13 (decide (x11 < (x0.length : Int)))) else (barscanlaw23_SplitMinimal.j2 k x0 x3 x9 x10 x11 x12 x13 false)
def barscanlaw23_SplitMinimal.j2 : Nat → List Int → List Int → Int → Int → Int → Int → Int → Bool → Option (Bool)
 | 0, _, _, _, _, _, _, _, _ => none
 | k + 1, x0, x3, x9, x10, x11, x12, x13, x44 => if x44 = true then (if 0 ≤ x13 then (if x13 < (x3.length : Int) then (if (wrap64 (1 + (wrap64 (rd x3 x13)))) > (wrap64 ((x0.length : Int) - x11)) then (barscanlaw23_SplitMinimal.j3 k x0 x3 x9 x10 x11 x12 x13 (wrap64 (1 + (wrap64 (rd x3 x13)))) true) else (barscanlaw23_SplitMinimal.j3 k x0 x3 x9 x10 x11 x12 x13 (wrap64 (1 + (wrap64 (rd x3 x13)))) (x13 == (wrap64 ((x3.length : Int) - 1))))) else (none)) else (none)) else (if x11 < (x0.length : Int) then (barscanlaw23_SplitMinimal.j6 k x0 x9 x10 x12 true) else (barscanlaw23_SplitMinimal.j6 k x0 x9 x10 x12 (x12 == 0)))
def barscanlaw23_SplitMinimal.j3 : Nat → List Int → List Int → Int → Int → Int → Int → Int → Int → Bool → Option (Bool)
 | 0, _, _, _, _, _, _, _, _, _ => none
 | k + 1, x0, x3, x9, x10, x11, x12, x13, x14, x65 => if x65 = true then (barscanlaw23_SplitMinimal.j4 k x0 x3 x9 x10 x11 x12 x13 (wrap64 ((x0.length : Int) - x11))) else (barscanlaw23_SplitMinimal.j4 k x0 x3 x9 x10 x11 x12 x13 x14)
def barscanlaw23_SplitMinimal.j4 : Nat → List Int → List Int → Int → Int → Int → Int → Int → Int → Option (Bool)
 | 0, _, _, _, _, _, _, _, _ => none
 | k + 1, x0, x3, x9, x10, x11, x12, x13, x14 => if x14 = (x0.length : Int) then (barscanlaw23_SplitMinimal.j5 k x0 x3 x9 x10 x11 x12 x13 x14 0) else (barscanlaw23_SplitMinimal.j5 k x0 x3 x9 x10 x11 x12 x13 x14 20)
def barscanlaw23_SplitMinimal.j5 : Nat → List Int → List Int → Int → Int → Int → Int → Int → Int → Int → Option (Bool)
 | 0, _, _, _, _, _, _, _, _, _ => none
 | k + 1, x0, x3, x9, x10, x11, x12, x13, x14, x15 => if 0 ≤ x11 then (if x11 ≤ (wrap64 (x11 + x14)) then (if (wrap64 (x11 + x14)) ≤ (x0.length : Int) then ((barscanref23_Fits.f k ((x0.take ((wrap64 (x11 + x14)) : Int).toNat).drop (x11 : Int).toNat) x9 x10 x15).bind fun t349 => (if t349 = true then (barscanlaw23_SplitMinimal.l0 k x0 x3 x9 x10 (wrap64 (x11 + x14)) (wrap64 (x12 + 1)) (wrap64 (x13 + 1))) else ((barscanlaw23_exampleHolds.f).bind fun t350 => (some t350)))) else (none)) else (none)) else (none)
def barscanlaw23_SplitMinimal.j6 : Nat → List Int → Int → Int → Int → Bool → Option (Bool)
 | 0, _, _, _, _, _ => none
 | k + 1, x0, x9, x10, x12, x98 => if x98 = true then ((barscanlaw23_exampleHolds.f).bind fun t351 => (some t351)) else ((split_Cuts.f x0 x9 x10).bind fun bt352 => (if bt352.2 = 0 then (if (bt352.1.length : Int) ≤ x12 then ((barscanlaw23_exampleHolds.f).bind fun t356 => (some t356)) else (some false)) else (some false)))
end
def barscanlaw23_SplitMinimal.f (k : Nat) (l0 : List Int) (a1 : Int) (a2 : Int) (l3 : List Int) : Option (Bool) := if (l0.length : Int) > 120 then (barscanlaw23_SplitMinimal.j0 k l0 l3 (wrap64 (1 + (wrap64 (Int.tmod a1 40)))) ((1 + (Int.tmod a2 4)) % 256) true) else (barscanlaw23_SplitMinimal.j0 k l0 l3 (wrap64 (1 + (wrap64 (Int.tmod a1 40)))) ((1 + (Int.tmod a2 4)) % 256) (decide ((l3.length : Int) > 16)))
theorem barscanlaw23_SplitMinimal.mono_l : ∀ k, (∀ y0 y1 y2 y3 y4, LeO (barscanlaw23_SplitMinimal.j0 k y0 y1 y2 y3 y4) (barscanlaw23_SplitMinimal.j0 (k + 1) y0 y1 y2 y3 y4)) ∧ (∀ y0 y1 y2 y3 y4 y5 y6, LeO (barscanlaw23_SplitMinimal.l0 k y0 y1 y2 y3 y4 y5 y6) (barscanlaw23_SplitMinimal.l0 (k + 1) y0 y1 y2 y3 y4 y5 y6)) ∧ (∀ y0 y1 y2 y3 y4 y5 y6 y7, LeO (barscanlaw23_SplitMinimal.j2 k y0 y1 y2 y3 y4 y5 y6 y7) (barscanlaw23_SplitMinimal.j2 (k + 1) y0 y1 y2 y3 y4 y5 y6 y7)) ∧ (∀ y0 y1 y2 y3 y4 y5 y6 y7 y8, LeO (barscanlaw23_SplitMinimal.j3 k y0 y1 y2 y3 y4 y5 y6 y7 y8) (barscanlaw23_SplitMinimal.j3 (k + 1) y0 y1 y2 y3 y4 y5 y6 y7 y8)) ∧ (∀ y0 y1 y2 y3 y4 y5 y6 y7, LeO (barscanlaw23_SplitMinimal.j4 k y0 y1 y2 y3 y4 y5 y6 y7) (barscanlaw23_SplitMinimal.j4 (k + 1) y0 y1 y2 y3 y4 y5 y6 y7)) ∧ (∀ y0 y1 y2 y3 y4 y5 y6 y7 y8, LeO (barscanlaw23_SplitMinimal.j5 k y0 y1 y2 y3 y4 y5 y6 y7 y8) (barscanlaw23_SplitMinimal.j5 (k + 1) y0 y1 y2 y3 y4 y5 y6 y7 y8)) ∧ (∀ y0 y1 y2 y3 y4, LeO (barscanlaw23_SplitMinimal.j6 k y0 y1 y2 y3 y4) (barscanlaw23_SplitMinimal.j6 (k + 1) y0 y1 y2 y3 y4))
 | 0 => ⟨fun _ _ _ _ _ r h => by simp [barscanlaw23_SplitMinimal.j0] at h, fun _ _ _ _ _ _ _ r h => by simp [barscanlaw23_SplitMinimal.l0] at h, fun _ _ _ _ _ _ _ _ r h => by simp [barscanlaw23_SplitMinimal.j2] at h, fun _ _ _ _ _ _ _ _ _ r h => by simp [barscanlaw23_SplitMinimal.j3] at h, fun _ _ _ _ _ _ _ _ r h => by simp [barscanlaw23_SplitMinimal.j4] at h, fun _ _ _ _ _ _ _ _ _ r h => by simp [barscanlaw23_SplitMinimal.j5] at h, fun _ _ _ _ _ r h => by simp [barscanlaw23_SplitMinimal.j6] at h⟩
 | k + 1 => by
  obtain ⟨ih0, ih1, ih2, ih3, ih4, ih5, ih6⟩ := barscanlaw23_SplitMinimal.mono_l k
  refine ⟨?_, ?_, ?_, ?_, ?_, ?_, ?_⟩
  ·intro y0 y1 y2 y3 y4
   unfold barscanlaw23_SplitMinimal.j0
   repeat' first
   | (with_reducible exact ih0 _ _ _ _ _)
   | (with_reducible exact ih1 _ _ _ _ _ _ _)
   | (with_reducible exact ih2 _ _ _ _ _ _ _ _)
   | (with_reducible exact ih3 _ _ _ _ _ _ _ _ _)
   | (with_reducible exact ih4 _ _ _ _ _ _ _ _)
   | (with_reducible exact ih5 _ _ _ _ _ _ _ _ _)
   | (with_reducible exact ih6 _ _ _ _ _)
   | (with_reducible exact barscanref23_Fits.mono _ _ _ _ _)
   | (with_reducible exact LeO.refl _)
   | (with_reducible exact LeO.none _)
   | (with_reducible refine LeO.ite ?_ ?_)
   | (with_reducible refine LeO.bind ?_ (fun _ => ?_))
   | exact ih0 _ _ _ _ _
   | exact ih1 _ _ _ _ _ _ _
   | exact ih2 _ _ _ _ _ _ _ _
   | exact ih3 _ _ _ _ _ _ _ _ _
   | exact ih4 _ _ _ _ _ _ _ _
   | exact ih5 _ _ _ _ _ _ _ _ _
   | exact ih6 _ _ _ _ _
   | exact barscanref23_Fits.mono _ _ _ _ _
   | exact LeO.none _
   | refine LeO.ite ?_ ?_
   | refine LeO.bind ?_ (fun _ => ?_)
  ·intro y0 y1 y2 y3 y4 y5 y6
   unfold barscanlaw23_SplitMinimal.l0
   repeat' first
   | (with_reducible exact ih0 _ _ _ _ _)
   | (with_reducible exact ih1 _ _ _ _ _ _ _)
   | (with_reducible exact ih2 _ _ _ _ _ _ _ _)
   | (with_reducible exact ih3 _ _ _ _ _ _ _ _ _)
   | (with_reducible exact ih4 _ _ _ _ _ _ _ _)
   | (with_reducible exact ih5 _ _ _ _ _ _ _ _ _)
   | (with_reducible exact ih6 _ _ _ _ _)
   | (with_reducible exact barscanref23_Fits.mono _ _ _ _ _)
   | (with_reducible exact LeO.refl _)
   | (with_reducible exact LeO.none _)
   | (with_reducible refine LeO.ite ?_ ?_)
   | (with_reducible refine LeO.bind ?_ (fun _ => ?_))
   | exact ih0 _ _ _ _ _
   | exact ih1 _ _ _ _ _ _ _
   | exact ih2 _ _ _ _ _ _ _ _
   | exact ih3 _ _ _ _ _ _ _ _ _
   | exact ih4 _ _ _ _ _ _ _ _
   | exact ih5 _ _ _ _ _ _ _ _ _
   | exact ih6 _ _ _ _ _
   | exact barscanref23_Fits.mono _ _ _ _ _
   | exact LeO.none _
   | refine LeO.ite ?_ ?_
   | refine LeO.bind ?_ (fun _ => ?_)
  ·intro y0 y1 y2 y3 y4 y5 y6 y7
   unfold barscanlaw23_SplitMinimal.j2
   repeat' first
   | (with_reducible exact ih0 _ _ _ _ _)
   | (with_reducible exact ih1 _ _ _ _ _ _ _)
   | (with_reducible exact ih2 _ _ _ _ _ _ _ _)
   | (with_reducible exact ih3 _ _ _ _ _ _ _ _ _)
   | (with_reducible exact ih4 _ _ _ _ _ _ _ _)
   | (with_reducible exact ih5 _ _ _ _ _ _ _ _ _)
   | (with_reducible exact ih6 _ _ _ _ _)
   | (with_reducible exact barscanref23_Fits.mono _ _ _ _ _)
   | (with_reducible exact LeO.refl _)
   | (with_reducible exact LeO.none _)
   | (with_reducible refine LeO.ite ?_ ?_)
   | (with_reducible refine LeO.bind ?_ (fun _ => ?_))
   | exact ih0 _ _ _ _ _
   | exact ih1 _ _ _ _ _ _ _
   | exact ih2 _ _ _ _ _ _ _ _
   | exact ih3 _ _ _ _ _ _ _ _ _
   | exact ih4 _ _ _ _ _ _ _ _
   | exact ih5 _ _ _ _ _ _ _ _ _
   | exact ih6 _ _ _ _ _
   | exact barscanref23_Fits.mono _ _ _ _ _
   | exact LeO.none _
   | refine LeO.ite ?_ ?_
   | refine LeO.bind ?_ (fun _ => ?_)
  ·intro y0 y1 y2 y3 y4 y5 y6 y7 y8
   unfold barscanlaw23_SplitMinimal.j3
   repeat' first
   | (with_reducible exact ih0 _ _ _ _ _)
   | (with_reducible exact ih1 _ _ _ _ _ _ _)
   | (with_reducible exact ih2 _ _ _ _ _ _ _ _)
   | (with_reducible exact ih3 _ _ _ _ _ _ _ _ _)
   | (with_reducible exact ih4 _ _ _ _ _ _ _ _)
   | (with_reducible exact ih5 _ _ _ _ _ _ _ _ _)
   | (with_reducible exact ih6 _ _ _ _ _)
   | (with_reducible exact barscanref23_Fits.mono _ _ _ _ _)
   | (with_reducible exact LeO.refl _)
   | (with_reducible exact LeO.none _)
   | (with_reducible refine LeO.ite ?_ ?_)
   | (with_reducible refine LeO.bind ?_ (fun _ => ?_))
   | exact ih0 _ _ _ _ _
   | exact ih1 _ _ _ _ _ _ _
   | exact ih2 _ _ _ _ _ _ _ _
   | exact ih3 _ _ _ _ _ _ _ _ _
   | exact ih4 _ _ _ _ _ _ _ _
   | exact ih5 _ _ _ _ _ _ _ _ _
   | exact ih6 _ _ _ _ _
   | exact barscanref23_Fits.mono _ _ _ _ _
   | exact LeO.none _
   | refine LeO.ite ?_ ?_
   | refine LeO.bind ?_ (fun _ => ?_)
  ·intro y0 y1 y2 y3 y4 y5 y6 y7
   unfold barscanlaw23_SplitMinimal.j4
   repeat' first
   | (with_reducible exact ih0 _ _ _ _ _)
   | (with_reducible exact ih1 _ _ _ _ _ _ _)
   | (with_reducible exact ih2 _ _ _ _ _ _ _ _)
   | (with_reducible exact ih3 _ _ _ _ _ _ _ _ _)
   | (with_reducible exact ih4 _ _ _ _ _ _ _ _)
   | (with_reducible exact ih5 _ _ _ _ _ _ _ _ _)
   | (with_reducible exact ih6 _ _ _ _ _)
   | (with_reducible exact barscanref23_Fits.mono _ _ _ _ _)
   | (with_reducible exact LeO.refl _)
   | (with_reducible exact LeO.none _)
   | (with_reducible refine LeO.ite ?_ ?_)
   | (with_reducible refine LeO.bind ?_ (fun _ => ?_))
   | exact ih0 _ _ _ _ _
   | exact ih1 _ _ _ _ _ _ _
   | exact ih2 _ _ _ _ _ _ _ _
   | exact ih3 _ _ _ _ _ _ _ _ _
   | exact ih4 _ _ _ _ _ _ _ _
   | exact ih5 _ _ _ _ _ _ _ _ _
   | exact ih6 _ _ _ _ _
   | exact barscanref23_Fits.mono _ _ _ _ _
   | exact LeO.none _
   | refine LeO.ite ?_ ?_
   | refine LeO.bind ?_ (fun _ => ?_)
  ·intro y0 y1 y2 y3 y4 y5 y6 y7 y8
   unfold barscanlaw23_SplitMinimal.j5
   repeat' first
   | (with_reducible exact ih0 _ _ _ _ _)
   | (with_reducible exact ih1 _ _ _ _ _ _ _)
   | (with_reducible exact ih2 _ _ _ _ _ _ _ _)
   | (with_reducible exact ih3 _ _ _ _ _ _ _ _ _)
   | (with_reducible exact ih4 _ _ _ _ _ _ _ _)
   | (with_reducible exact ih5 _ _ _ _ _ _ _ _ _)
   | (with_reducible exact ih6 _ _ _ _ _)
   | (with_reducible exact barscanref23_Fits.mono _ _ _ _ _)
   | (with_reducible exact LeO.refl _)
   | (with_reducible exact LeO.none _)
   | (with_reducible refine LeO.ite ?_ ?_)
   | (with_reducible refine LeO.bind ?_ (fun _ => ?_))
   | exact ih0 _ _ _ _ _
   | exact ih1 _ _ _ _ _ _ _
   | exact ih2 _ _ _ _ _ _ _ _
   | exact ih3 _ _ _ _ _ _ _ _ _
   | exact ih4 _ _ _ _ _ _ _ _
   | exact ih5 _ _ _ _ _ _ _ _ _
   | exact ih6 _ _ _ _ _
   | exact barscanref23_Fits.mono _ _ _ _ _
   | exact LeO.none _
   | refine LeO.ite ?_ ?_
   | refine LeO.bind ?_ (fun _ => ?_)
  ·intro y0 y1 y2 y3 y4
   unfold barscanlaw23_SplitMinimal.j6
   repeat' first
   | (with_reducible exact ih0 _ _ _ _ _)
   | (with_reducible exact ih1 _ _ _ _ _ _ _)
   | (with_reducible exact ih2 _ _ _ _ _ _ _ _)
   | (with_reducible exact ih3 _ _ _ _ _ _ _ _ _)
   | (with_reducible exact ih4 _ _ _ _ _ _ _ _)
   | (with_reducible exact ih5 _ _ _ _ _ _ _ _ _)
   | (with_reducible exact ih6 _ _ _ _ _)
   | (with_reducible exact barscanref23_Fits.mono _ _ _ _ _)
   | (with_reducible exact LeO.refl _)
   | (with_reducible exact LeO.none _)
   | (with_reducible refine LeO.ite ?_ ?_)
   | (with_reducible refine LeO.bind ?_ (fun _ => ?_))
   | exact ih0 _ _ _ _ _
   | exact ih1 _ _ _ _ _ _ _
   | exact ih2 _ _ _ _ _ _ _ _
   | exact ih3 _ _ _ _ _ _ _ _ _
   | exact ih4 _ _ _ _ _ _ _ _
   | exact ih5 _ _ _ _ _ _ _ _ _
   | exact ih6 _ _ _ _ _
   | exact barscanref23_Fits.mono _ _ _ _ _
   | exact LeO.none _
   | refine LeO.ite ?_ ?_
   | refine LeO.bind ?_ (fun _ => ?_)
theorem barscanlaw23_SplitMinimal.mono : ∀ a0 a1 a2 a3 k, LeO (barscanlaw23_SplitMinimal.f k a0 a1 a2 a3) (barscanlaw23_SplitMinimal.f (k + 1) a0 a1 a2 a3) := by
 intro a0 a1 a2 a3 k
 obtain ⟨ih0, ih1, ih2, ih3, ih4, ih5, ih6⟩ := barscanlaw23_SplitMinimal.mono_l k
 unfold barscanlaw23_SplitMinimal.f
 repeat' first
   | (with_reducible exact ih0 _ _ _ _ _)
   | (with_reducible exact ih1 _ _ _ _ _ _ _)
   | (with_reducible exact ih2 _ _ _ _ _ _ _ _)
   | (with_reducible exact ih3 _ _ _ _ _ _ _ _ _)
   | (with_reducible exact ih4 _ _ _ _ _ _ _ _)
   | (with_reducible exact ih5 _ _ _ _ _ _ _ _ _)
   | (with_reducible exact ih6 _ _ _ _ _)
   | (with_reducible exact barscanref23_Fits.mono _ _ _ _ _)
   | (with_reducible exact LeO.refl _)
   | (with_reducible exact LeO.none _)
   | (with_reducible refine LeO.ite ?_ ?_)
   | (with_reducible refine LeO.bind ?_ (fun _ => ?_))
   | exact ih0 _ _ _ _ _
   | exact ih1 _ _ _ _ _ _ _
   | exact ih2 _ _ _ _ _ _ _ _
   | exact ih3 _ _ _ _ _ _ _ _ _
   | exact ih4 _ _ _ _ _ _ _ _
   | exact ih5 _ _ _ _ _ _ _ _ _
   | exact ih6 _ _ _ _ _
   | exact barscanref23_Fits.mono _ _ _ _ _
   | exact LeO.none _
   | refine LeO.ite ?_ ?_
   | refine LeO.bind ?_ (fun _ => ?_)
set_option maxHeartbeats 8000000 in
set_option maxRecDepth 100000 in
theorem barscanlaw23_SplitMinimal.calls (k : Nat) (A0 : Option Addr) (c0 : Nat) (l0 : List Int) (a1 : Int) (a2 : Int) (A3 : Option Addr) (c3 : Nat) (l3 : List Int) (r : Bool) (w : World) (hr0 : Kd.C (Kd.int .u8) w A0 l0.length l0) (hc0 : l0.length ≤ c0) (hr3 : Kd.C (Kd.int .u8) w A3 l3.length l3) (hc3 : l3.length ≤ c3) (h : barscanlaw23_SplitMinimal.f k l0 a1 a2 l3 = some r) :
  Calls Try.prog 7 #[.slice A0 l0.length c0, .int .u8 a1, .int .u8 a2, .slice A3 l3.length c3] w fun e w' => e = .returned (.bool r) ∧ Below w.heap.size w w' := by
 have HR0 := Aside0.mk hr0
 have HC0 := Aside0.mk hc0
 clear hr0 hc0
 have HR3 := Aside0.mk hr3
 have HC3 := Aside0.mk hc3
 clear hr3 hc3
 have HB := Aside0.mk (Below.refl w.heap.size w)
 have H : (if (l0.length : Int) > 120 then (barscanlaw23_SplitMinimal.j0 k l0 l3 (wrap64 (1 + (wrap64 (Int.tmod a1 40)))) ((1 + (Int.tmod a2 4)) % 256) true) else (barscanlaw23_SplitMinimal.j0 k l0 l3 (wrap64 (1 + (wrap64 (Int.tmod a1 40)))) ((1 + (Int.tmod a2 4)) % 256) (decide ((l3.length : Int) > 16)))) = some r := h
 clear h
 have HC5 := Aside0.mk H
 clear H
 go_enter Try.func7, Try.ntmps7
 go_upto_region 2 with (fail)
 go_cut [33] (fun v33 wc => ∃ (kq : Nat) (x33_4 : Bool), v33 = .bool x33_4 ∧ Aside0 (barscanlaw23_SplitMinimal.j0 kq l0 l3 (wrap64 (1 + (wrap64 (Int.tmod a1 40)))) ((1 + (Int.tmod a2 4)) % 256) x33_4 = some r) ∧ Aside0 (kq ≤ k) ∧ Aside0 (Below w.heap.size w wc))
 case first =>
  have H := HC5.out
  clear HC5
  by_cases c6 : (l0.length : Int) > 120
  ·rw [if_pos c6] at H
   have c6b0 : decide (120 < (l0.length : Int)) = true := decide_eq_true c6
   have c6b1 : decide (120 < l0.length) = true := decide_eq_true (by omega)
   clear c6
   (first | rw [c6b0] | (simp only [i64_w, i32_w]; rw [c6b0]) | skip)
   have H' := Aside0.mk H
   clear H
   go_wp2
   go_meet
   case rel => exact ⟨_, (true), (by first | rfl | (simp; done) | (simp [*]; done)), H', ⟨by first | omega | exact Nat.le_refl _⟩, ⟨by repeat (first | (with_reducible first | exact HB.out | apply below_alloc | apply pw_below_drewN | apply below_drew1) | exact HB.out)⟩⟩
  ·rw [if_neg c6] at H
   have c6b0 : decide (120 < (l0.length : Int)) = false := decide_eq_false c6
   have c6b1 : decide (120 < l0.length) = false := decide_eq_false (by omega)
   clear c6
   (first | rw [c6b0] | (simp only [i64_w, i32_w]; rw [c6b0]) | skip)
   have H' := Aside0.mk H
   clear H
   go_wp2
   go_meet
   case rel => exact ⟨_, (decide ((l3.length : Int) > 16)), (by first | rfl | (simp; done) | (simp [*]; done)), H', ⟨by first | omega | exact Nat.le_refl _⟩, ⟨by repeat (first | (with_reducible first | exact HB.out | apply below_alloc | apply pw_below_drewN | apply below_drew1) | exact HB.out)⟩⟩
 case rest =>
  clear HC5
  try clear p2
  try clear c3
  try clear c6
  try clear c6b0
  try clear c6b1
  try clear p6
  obtain ⟨kq, x33_4, rfl, HA, HJ4, HB⟩ := hcut
  cases kq with
  | zero => exact absurd HA.out (by simp [barscanlaw23_SplitMinimal.j0])
  | succ kj4 =>
   have H := HA.out
   clear HA
   simp only [barscanlaw23_SplitMinimal.j0] at H
   by_cases c7 : x33_4 = true
   ·subst c7
    have H1 : ((barscanlaw23_exampleHolds.f).bind fun t346 => (some t346)) = some r := by rw [if_pos rfl] at H; exact H
    clear H
    have H := H1
    clear H1
    replace H := Option.bind_eq_some_iff.mp H
    obtain ⟨t346, A80, H⟩ := H
    replace H : (some t346) = some r := H
    have A8 := Aside0.mk A80
    clear A80
    obtain rfl := Option.some.inj H
    go_wp2_with (first | ((with_reducible refine gate_callee (f := 10) rfl ?_); refine goesL_ (some 34) rfl rfl Try.func10 (by kernel_rfl) rfl #[] rfl (by (try simp only [List.map_toArray, List.map_cons, List.map_nil]); first | done | rfl | (simp only [List.length_drop, List.length_take]; rfl)) ?_; (with_reducible refine (barscanlaw23_exampleHolds.calls  t346 _ A8.out).mono ?_); rintro e w9 ⟨rfl, hb⟩; refine ⟨_, rfl, ?_⟩; have n0_ := Aside0.mk (below_step (by repeat (first | (with_reducible first | exact HB.out | apply below_alloc | apply pw_below_drewN | apply below_drew1) | exact HB.out)) hb); clear HB; have HB := n0_; clear n0_; (try clear hb); (try clear hb2); (try clear hk); (try clear hi)))
    go_ret
    exact ⟨by first | rfl | (simp [errW_none, errW_some] <;> rfl) | (simp [*, errW_none, errW_some] <;> rfl), by repeat (first | (with_reducible first | exact HB.out | apply below_alloc | apply pw_below_drewN | apply below_drew1) | exact HB.out)⟩
   ·replace c7 := Bool.eq_false_iff.mpr c7
    subst c7
    have H1 : (barscanlaw23_SplitMinimal.l0 kj4 l0 l3 (wrap64 (1 + (wrap64 (Int.tmod a1 40)))) ((1 + (Int.tmod a2 4)) % 256) 0 0 0) = some r := by rw [if_neg (show ¬ (false = true) by decide)] at H; exact H
    clear H
    have H := H1
    clear H1
    have H' := Aside0.mk H
    clear H
    go_wp2
    go_loopg [11, 12, 13] kj4 (fun kq v11 v12 v13 w' => ∃ (x11_2 : Int) (x12_2 : Int) (x13_2 : Int), v11 = .int .i64 x11_2 ∧ v12 = .int .i64 x12_2 ∧ v13 = .int .i64 x13_2 ∧ Aside0 (barscanlaw23_SplitMinimal.l0 kq l0 l3 (wrap64 (1 + (wrap64 (Int.tmod a1 40)))) ((1 + (Int.tmod a2 4)) % 256) x11_2 x12_2 x13_2 = some r) ∧ Aside0 (kq ≤ kj4) ∧ Aside0 (Below w.heap.size w w'))
    case atStart => exact ⟨(0), (0), (0), (by first | rfl | (simp; done) | (simp [*]; done)), (by first | rfl | (simp; done) | (simp [*]; done)), (by first | rfl | (simp; done) | (simp [*]; done)), H', ⟨Nat.le_refl _⟩, ⟨by repeat (first | (with_reducible first | exact HB.out | apply below_alloc | apply pw_below_drewN | apply below_drew1) | exact HB.out)⟩⟩
    case round =>
     clear H'
     try clear c1
     try clear p2
     try clear c3
     try clear c6
     try clear c6b0
     try clear c6b1
     try clear p6
     try clear c7
     try clear p2
     try clear p6
     obtain ⟨x11_2, x12_2, x13_2, rfl, rfl, rfl, HA, HK2, HB⟩ := hrel
     cases gk with
     | zero => exact absurd HA.out (by simp [barscanlaw23_SplitMinimal.l0])
     | succ k2 =>
      have H := HA.out
      clear HA
      simp only [barscanlaw23_SplitMinimal.l0] at H
      have HC10 := Aside0.mk H
      clear H
      go_upto_region 6 with (fail)
      go_cut [44] (fun v44 wc => ∃ (kq : Nat) (x44_9 : Bool), v44 = .bool x44_9 ∧ Aside0 (barscanlaw23_SplitMinimal.j2 kq l0 l3 (wrap64 (1 + (wrap64 (Int.tmod a1 40)))) ((1 + (Int.tmod a2 4)) % 256) x11_2 x12_2 x13_2 x44_9 = some r) ∧ Aside0 (kq ≤ k2) ∧ Aside0 (Below w.heap.size w wc))
      case first =>
       have H := HC10.out
       clear HC10
       by_cases c11 : x13_2 < (l3.length : Int)
       ·rw [if_pos c11] at H
        have c11b0 : decide (x13_2 < (l3.length : Int)) = true := decide_eq_true c11
        clear c11
        (first | rw [c11b0] | (simp only [i64_w, i32_w]; rw [c11b0]) | skip)
        have H' := Aside0.mk H
        clear H
        go_wp2
        go_meet
        case rel => exact ⟨_, (decide (x11_2 < (l0.length : Int))), (by first | rfl | (simp; done) | (simp [*]; done)), H', ⟨by have := HJ4.out; have := HK2.out; first | omega | exact Nat.le_refl _⟩, ⟨by repeat (first | (with_reducible first | exact HB.out | apply below_alloc | apply pw_below_drewN | apply below_drew1) | exact HB.out)⟩⟩
       ·rw [if_neg c11] at H
        have c11b0 : decide (x13_2 < (l3.length : Int)) = false := decide_eq_false c11
        clear c11
        (first | rw [c11b0] | (simp only [i64_w, i32_w]; rw [c11b0]) | skip)
        have H' := Aside0.mk H
        clear H
        go_wp2
        go_meet
        case rel => exact ⟨_, (false), (by first | rfl | (simp; done) | (simp [*]; done)), H', ⟨by have := HJ4.out; have := HK2.out; first | omega | exact Nat.le_refl _⟩, ⟨by repeat (first | (with_reducible first | exact HB.out | apply below_alloc | apply pw_below_drewN | apply below_drew1) | exact HB.out)⟩⟩
      case rest =>
       clear HC10
       try clear c1
       try clear p2
       try clear c3
       try clear c6
       try clear c6b0
       try clear c6b1
       try clear p6
       try clear c7
       try clear c10
       try clear c11
       try clear c11b0
       try clear p2
       try clear p6
       obtain ⟨kq, x44_9, rfl, HA, HJ9, HB⟩ := hcut
       cases kq with
       | zero => exact absurd HA.out (by simp [barscanlaw23_SplitMinimal.j2])
       | succ kj9 =>
        have H := HA.out
        clear HA
        simp only [barscanlaw23_SplitMinimal.j2] at H
        by_cases c12 : x44_9 = true
        ·subst c12
         have H1 : (if 0 ≤ x13_2 then (if x13_2 < (l3.length : Int) then (if (wrap64 (1 + (wrap64 (rd l3 x13_2)))) > (wrap64 ((l0.length : Int) - x11_2)) then (barscanlaw23_SplitMinimal.j3 kj9 l0 l3 (wrap64 (1 + (wrap64 (Int.tmod a1 40)))) ((1 + (Int.tmod a2 4)) % 256) x11_2 x12_2 x13_2 (wrap64 (1 + (wrap64 (rd l3 x13_2)))) true) else (barscanlaw23_SplitMinimal.j3 kj9 l0 l3 (wrap64 (1 + (wrap64 (Int.tmod a1 40)))) ((1 + (Int.tmod a2 4)) % 256) x11_2 x12_2 x13_2 (wrap64 (1 + (wrap64 (rd l3 x13_2)))) (x13_2 == (wrap64 ((l3.length : Int) - 1))))) else (none)) else (none)) = some r := by rw [if_pos rfl] at H; exact H
         clear H
         have H := H1
         clear H1
         by_cases c13 : 0 ≤ x13_2
         ·rw [if_pos c13] at H
          have c13b0 : decide (0 ≤ x13_2) = true := decide_eq_true c13
          clear c13
          by_cases c14 : x13_2 < (l3.length : Int)
          ·rw [if_pos c14] at H
           have c14b0 : decide (x13_2 < (l3.length : Int)) = true := decide_eq_true c14
           clear c14
           have HC15 := Aside0.mk H
           clear H
           have p347 : 0 ≤ (x13_2 : Int) := of_decide_eq_true (by first | (with_reducible assumption) | assumption)
           have q347 : x13_2 < (l3.length : Int) := of_decide_eq_true (by first | (with_reducible assumption) | assumption)
           obtain ⟨ad347, e347, hx347_0⟩ := Kd.at_int HR3.out x13_2 p347 q347
           cases e347
           replace hx347_0 := (HB.out.cell (World.block_lt_of_cell? w _ hx347_0)).trans hx347_0
           replace p347 := eq_true p347
           replace q347 := eq_true q347
           go_upto_region 9 with (fail)
           go_cut [65] (fun v65 wc => ∃ (kq : Nat) (x65_14 : Bool), v65 = .bool x65_14 ∧ Aside0 (barscanlaw23_SplitMinimal.j3 kq l0 l3 (wrap64 (1 + (wrap64 (Int.tmod a1 40)))) ((1 + (Int.tmod a2 4)) % 256) x11_2 x12_2 x13_2 (wrap64 (1 + (wrap64 (rd l3 x13_2)))) x65_14 = some r) ∧ Aside0 (kq ≤ kj9) ∧ Aside0 (Below w.heap.size w wc))
           case first =>
            have H := HC15.out
            clear HC15
            by_cases c16 : (wrap64 (1 + (wrap64 (rd l3 x13_2)))) > (wrap64 ((l0.length : Int) - x11_2))
            ·rw [if_pos c16] at H
             have c16b0 : decide ((wrap64 ((l0.length : Int) - x11_2)) < (wrap64 (1 + (wrap64 (rd l3 x13_2))))) = true := decide_eq_true c16
             clear c16
             (first | rw [c16b0] | (simp only [i64_w, i32_w]; rw [c16b0]) | skip)
             have H' := Aside0.mk H
             clear H
             go_wp2
             go_meet
             case rel => exact ⟨_, (true), (by first | rfl | (simp; done) | (simp [*]; done)), H', ⟨by have := HJ4.out; have := HK2.out; have := HJ9.out; first | omega | exact Nat.le_refl _⟩, ⟨by repeat (first | (with_reducible first | exact HB.out | apply below_alloc | apply pw_below_drewN | apply below_drew1) | exact HB.out)⟩⟩
            ·rw [if_neg c16] at H
             have c16b0 : decide ((wrap64 ((l0.length : Int) - x11_2)) < (wrap64 (1 + (wrap64 (rd l3 x13_2))))) = false := decide_eq_false c16
             clear c16
             (first | rw [c16b0] | (simp only [i64_w, i32_w]; rw [c16b0]) | skip)
             have H' := Aside0.mk H
             clear H
             go_wp2
             go_meet
             case rel => exact ⟨_, ((x13_2 == (wrap64 ((l3.length : Int) - 1)))), (by first | rfl | (simp; done) | (simp [*]; done)), H', ⟨by have := HJ4.out; have := HK2.out; have := HJ9.out; first | omega | exact Nat.le_refl _⟩, ⟨by repeat (first | (with_reducible first | exact HB.out | apply below_alloc | apply pw_below_drewN | apply below_drew1) | exact HB.out)⟩⟩
           case rest =>
            clear HC15
            try clear c1
            try clear p2
            try clear c3
            try clear p3
            try clear q3
            try clear hx3
            try clear c6
            try clear c6b0
            try clear c6b1
            try clear p6
            try clear c7
            try clear c10
            try clear c11
            try clear c11b0
            try clear c12
            try clear c13
            try clear c13b0
            try clear c14
            try clear c14b0
            try clear c16
            try clear c16b0
            try clear hx347_0
            try clear p2
            try clear p347
            try clear p6
            try clear q347
            obtain ⟨kq, x65_14, rfl, HA, HJ14, HB⟩ := hcut
            cases kq with
            | zero => exact absurd HA.out (by simp [barscanlaw23_SplitMinimal.j3])
            | succ kj14 =>
             have H := HA.out
             clear HA
             simp only [barscanlaw23_SplitMinimal.j3] at H
             have HC17 := Aside0.mk H
             clear H
             go_upto_if 65 with (fail)
             go_cut [14] (fun v14 wc => ∃ (kq : Nat) (x14_16 : Int), v14 = .int .i64 x14_16 ∧ Aside0 (barscanlaw23_SplitMinimal.j4 kq l0 l3 (wrap64 (1 + (wrap64 (Int.tmod a1 40)))) ((1 + (Int.tmod a2 4)) % 256) x11_2 x12_2 x13_2 x14_16 = some r) ∧ Aside0 (kq ≤ kj14) ∧ Aside0 (Below w.heap.size w wc))
             case first =>
              have H := HC17.out
              clear HC17
              by_cases c18 : x65_14 = true
              ·subst c18
               have H1 : (barscanlaw23_SplitMinimal.j4 kj14 l0 l3 (wrap64 (1 + (wrap64 (Int.tmod a1 40)))) ((1 + (Int.tmod a2 4)) % 256) x11_2 x12_2 x13_2 (wrap64 ((l0.length : Int) - x11_2))) = some r := by rw [if_pos rfl] at H; exact H
               clear H
               have H := H1
               clear H1
               have H' := Aside0.mk H
               clear H
               go_wp2
               go_meet
               case rel => exact ⟨_, (wrap64 ((l0.length : Int) - x11_2)), (by first | rfl | (simp; done) | (simp [*]; done)), H', ⟨by have := HJ4.out; have := HK2.out; have := HJ9.out; have := HJ14.out; first | omega | exact Nat.le_refl _⟩, ⟨by repeat (first | (with_reducible first | exact HB.out | apply below_alloc | apply pw_below_drewN | apply below_drew1) | exact HB.out)⟩⟩
              ·replace c18 := Bool.eq_false_iff.mpr c18
               subst c18
               have H1 : (barscanlaw23_SplitMinimal.j4 kj14 l0 l3 (wrap64 (1 + (wrap64 (Int.tmod a1 40)))) ((1 + (Int.tmod a2 4)) % 256) x11_2 x12_2 x13_2 (wrap64 (1 + (wrap64 (rd l3 x13_2))))) = some r := by rw [if_neg (show ¬ (false = true) by decide)] at H; exact H
               clear H
               have H := H1
               clear H1
               have H' := Aside0.mk H
               clear H
               go_wp2
               go_meet
               case rel => exact ⟨_, ((wrap64 (1 + (wrap64 (rd l3 x13_2))))), (by first | rfl | (simp; done) | (simp [*]; done)), H', ⟨by have := HJ4.out; have := HK2.out; have := HJ9.out; have := HJ14.out; first | omega | exact Nat.le_refl _⟩, ⟨by repeat (first | (with_reducible first | exact HB.out | apply below_alloc | apply pw_below_drewN | apply below_drew1) | exact HB.out)⟩⟩
             case rest =>
              clear HC17
              try clear c1
              try clear p2
              try clear c3
              try clear p3
              try clear q3
              try clear hx3
              try clear c6
              try clear c6b0
              try clear c6b1
              try clear p6
              try clear c7
              try clear c10
              try clear c11
              try clear c11b0
              try clear c12
              try clear c13
              try clear c13b0
              try clear c14
              try clear c14b0
              try clear c16
              try clear c16b0
              try clear c18
              try clear hx347_0
              try clear p2
              try clear p3
              try clear p347
              try clear p6
              try clear q3
              try clear q347
              obtain ⟨kq, x14_16, rfl, HA, HJ16, HB⟩ := hcut
              cases kq with
              | zero => exact absurd HA.out (by simp [barscanlaw23_SplitMinimal.j4])
              | succ kj16 =>
               have H := HA.out
               clear HA
               simp only [barscanlaw23_SplitMinimal.j4] at H
               have HC19 := Aside0.mk H
               clear H
               go_upto_if 73 with (fail)
               go_cut [15] (fun v15 wc => ∃ (kq : Nat) (x15_18 : Int), v15 = .int .i64 x15_18 ∧ Aside0 (barscanlaw23_SplitMinimal.j5 kq l0 l3 (wrap64 (1 + (wrap64 (Int.tmod a1 40)))) ((1 + (Int.tmod a2 4)) % 256) x11_2 x12_2 x13_2 x14_16 x15_18 = some r) ∧ Aside0 (kq ≤ kj16) ∧ Aside0 (Below w.heap.size w wc))
               case first =>
                have H := HC19.out
                clear HC19
                by_cases c20 : x14_16 = (l0.length : Int)
                ·rw [if_pos c20] at H
                 have c20b0 : (x14_16 == (l0.length : Int)) = true := beq_iff_eq.mpr c20
                 have c20b1 : (x14_16 != (l0.length : Int)) = false := bne_eq_false_iff_eq.mpr c20
                 clear c20
                 (first | rw [c20b0] | (simp only [i64_w, i32_w]; rw [c20b0]) | skip)
                 have H' := Aside0.mk H
                 clear H
                 go_wp2
                 go_meet
                 case rel => exact ⟨_, (0), (by first | rfl | (simp; done) | (simp [*]; done)), H', ⟨by have := HJ4.out; have := HK2.out; have := HJ9.out; have := HJ14.out; have := HJ16.out; first | omega | exact Nat.le_refl _⟩, ⟨by repeat (first | (with_reducible first | exact HB.out | apply below_alloc | apply pw_below_drewN | apply below_drew1) | exact HB.out)⟩⟩
                ·rw [if_neg c20] at H
                 have c20b0 : (x14_16 == (l0.length : Int)) = false := beq_eq_false_iff_ne.mpr c20
                 have c20b1 : (x14_16 != (l0.length : Int)) = true := bne_iff_ne.mpr c20
                 (first | rw [c20b0] | (simp only [i64_w, i32_w]; rw [c20b0]) | skip)
                 have H' := Aside0.mk H
                 clear H
                 go_wp2
                 go_meet
                 case rel => exact ⟨_, (20), (by first | rfl | (simp; done) | (simp [*]; done)), H', ⟨by have := HJ4.out; have := HK2.out; have := HJ9.out; have := HJ14.out; have := HJ16.out; first | omega | exact Nat.le_refl _⟩, ⟨by repeat (first | (with_reducible first | exact HB.out | apply below_alloc | apply pw_below_drewN | apply below_drew1) | exact HB.out)⟩⟩
               case rest =>
                clear HC19
                try clear c1
                try clear c2
                try clear p2
                try clear c3
                try clear p3
                try clear q3
                try clear hx3
                try clear c6
                try clear c6b0
                try clear c6b1
                try clear p6
                try clear c7
                try clear c10
                try clear c11
                try clear c11b0
                try clear c12
                try clear c13
                try clear c13b0
                try clear c14
                try clear c14b0
                try clear c16
                try clear c16b0
                try clear c18
                try clear c20
                try clear c20b0
                try clear c20b1
                try clear hx347_0
                try clear p2
                try clear p3
                try clear p347
                try clear p6
                try clear q3
                try clear q347
                obtain ⟨kq, x15_18, rfl, HA, HJ18, HB⟩ := hcut
                cases kq with
                | zero => exact absurd HA.out (by simp [barscanlaw23_SplitMinimal.j5])
                | succ kj18 =>
                 have H := HA.out
                 clear HA
                 simp only [barscanlaw23_SplitMinimal.j5] at H
                 by_cases c21 : 0 ≤ x11_2
                 ·rw [if_pos c21] at H
                  have c21b0 := eq_true c21
                  have c21b1 : decide (0 ≤ x11_2) = true := decide_eq_true c21
                  clear c21
                  by_cases c22 : x11_2 ≤ (wrap64 (x11_2 + x14_16))
                  ·rw [if_pos c22] at H
                   have c22b0 := eq_true c22
                   have c22b1 : decide (x11_2 ≤ (wrap64 (x11_2 + x14_16))) = true := decide_eq_true c22
                   by_cases c23 : (wrap64 (x11_2 + x14_16)) ≤ (l0.length : Int)
                   ·rw [if_pos c23] at H
                    have c23b0 := eq_true c23
                    have c23b1 : decide ((wrap64 (x11_2 + x14_16)) ≤ (l0.length : Int)) = true := decide_eq_true c23
                    replace H := Option.bind_eq_some_iff.mp H
                    obtain ⟨t349, A240, H⟩ := H
                    replace H : (if t349 = true then (barscanlaw23_SplitMinimal.l0 kj18 l0 l3 (wrap64 (1 + (wrap64 (Int.tmod a1 40)))) ((1 + (Int.tmod a2 4)) % 256) (wrap64 (x11_2 + x14_16)) (wrap64 (x12_2 + 1)) (wrap64 (x13_2 + 1))) else ((barscanlaw23_exampleHolds.f).bind fun t350 => (some t350))) = some r := H
                    have A24 := Aside0.mk A240
                    clear A240
                    by_cases c25 : t349 = true
                    ·subst c25
                     have H1 : (barscanlaw23_SplitMinimal.l0 kj18 l0 l3 (wrap64 (1 + (wrap64 (Int.tmod a1 40)))) ((1 + (Int.tmod a2 4)) % 256) (wrap64 (x11_2 + x14_16)) (wrap64 (x12_2 + 1)) (wrap64 (x13_2 + 1))) = some r := by rw [if_pos rfl] at H; exact H
                     clear H
                     have H := H1
                     clear H1
                     have H' := Aside0.mk H
                     clear H
                     obtain ⟨i026, hi026, _, hsz26, _⟩ := info_parts info5
                     obtain ⟨A26, hcut26, hA26, hC26⟩ := print_mid_of (P := Try.prog) (Value.int .u8) 0 22 5 .i64 .i64 Try.underlying22 hi026 hsz26 A0 c0 l0 x11_2 (wrap64 (x11_2 + x14_16)) (of_decide_eq_true (by first | (with_reducible assumption) | assumption)) (by first | omega | exact of_decide_eq_true (by first | (with_reducible assumption) | assumption)) (of_decide_eq_true (by first | (with_reducible assumption) | assumption)) HC0.out
                     have HR348 := Aside0.mk (Kd.C_of_reads (h1 := fun _ => rfl) (hA26 _ (Kd.reads_of_C HR0.out)))
                     have HC348 := Aside0.mk hC26
                     clear hA26 hC26 hi026 hsz26
                     go_wp2_with (first | ((with_reducible refine gate_callee (f := 19) rfl ?_); refine goesL_ (some 83) rfl rfl Try.func19 (by kernel_rfl) rfl #[.slice A26 ((l0.take ((wrap64 (x11_2 + x14_16)) : Int).toNat).drop (x11_2 : Int).toNat).length (c0 - x11_2.toNat), .int .i64 (wrap64 (1 + (wrap64 (Int.tmod a1 40)))), .int .i64 ((1 + (Int.tmod a2 4)) % 256), .int .i64 x15_18] rfl (by (try simp only [List.map_toArray, List.map_cons, List.map_nil]); first | done | (rw [show ((l0.take ((wrap64 (x11_2 + x14_16)) : Int).toNat).drop (x11_2 : Int).toNat).length = ((wrap64 (x11_2 + x14_16)).toNat - x11_2.toNat) from (by rw [List.length_drop, List.length_take]; have h_ : ((wrap64 (x11_2 + x14_16)) : Int) ≤ (l0.length : Int) := of_decide_eq_true (by first | (with_reducible assumption) | assumption); omega)] <;> rfl) | rfl | (simp only [List.length_drop, List.length_take]; rfl)) ?_; (with_reducible refine (barscanref23_Fits.calls kj18 _ _ ((l0.take ((wrap64 (x11_2 + x14_16)) : Int).toNat).drop (x11_2 : Int).toNat) (wrap64 (1 + (wrap64 (Int.tmod a1 40)))) ((1 + (Int.tmod a2 4)) % 256) x15_18 true _ ?side1 ?side2 A24.out).mono ?_); (case side1 => repeat (first | exact (Kd.C_below HR348.out HB.out) | (with_reducible refine Kd.C_alloc ?_ _) | (with_reducible refine Kd.C_drewN ?_ _) | (with_reducible refine Kd.C_drew ?_))); (case side2 => exact HC348.out); rintro e w27 ⟨rfl, hb⟩; refine ⟨_, rfl, ?_⟩; have n0_ := Aside0.mk (below_step (by repeat (first | (with_reducible first | exact HB.out | apply below_alloc | apply pw_below_drewN | apply below_drew1) | exact HB.out)) hb); clear HB; have HB := n0_; clear n0_; (try clear hb); (try clear hb2); (try clear hk); (try clear hi)))
                     go_roundg kj18
                     case measure => have := HJ4.out; have := HK2.out; have := HJ9.out; have := HJ14.out; have := HJ16.out; have := HJ18.out; omega
                     case rel => exact ⟨(wrap64 (x11_2 + x14_16)), (wrap64 (x12_2 + 1)), (wrap64 (x13_2 + 1)), (by first | rfl | (simp; done) | (simp [*]; done)), (by first | rfl | (simp; done) | (simp [*]; done)), (by first | rfl | (simp; done) | (simp [*]; done)), H', ⟨by have := HJ4.out; have := HK2.out; have := HJ9.out; have := HJ14.out; have := HJ16.out; have := HJ18.out; omega⟩, ⟨by repeat (first | (with_reducible first | exact HB.out | apply below_alloc | apply pw_below_drewN | apply below_drew1) | exact HB.out)⟩⟩
                    ·replace c25 := Bool.eq_false_iff.mpr c25
                     subst c25
                     have H1 : ((barscanlaw23_exampleHolds.f).bind fun t350 => (some t350)) = some r := by rw [if_neg (show ¬ (false = true) by decide)] at H; exact H
                     clear H
                     have H := H1
                     clear H1
                     replace H := Option.bind_eq_some_iff.mp H
                     obtain ⟨t350, A280, H⟩ := H
                     replace H : (some t350) = some r := H
                     have A28 := Aside0.mk A280
                     clear A280
                     obtain rfl := Option.some.inj H
                     obtain ⟨i029, hi029, _, hsz29, _⟩ := info_parts info5
                     obtain ⟨A29, hcut29, hA29, hC29⟩ := print_mid_of (P := Try.prog) (Value.int .u8) 0 22 5 .i64 .i64 Try.underlying22 hi029 hsz29 A0 c0 l0 x11_2 (wrap64 (x11_2 + x14_16)) (of_decide_eq_true (by first | (with_reducible assumption) | assumption)) (by first | omega | exact of_decide_eq_true (by first | (with_reducible assumption) | assumption)) (of_decide_eq_true (by first | (with_reducible assumption) | assumption)) HC0.out
                     have HR348 := Aside0.mk (Kd.C_of_reads (h1 := fun _ => rfl) (hA29 _ (Kd.reads_of_C HR0.out)))
                     have HC348 := Aside0.mk hC29
                     clear hA29 hC29 hi029 hsz29
                     go_wp2_with (first | ((with_reducible refine gate_callee (f := 19) rfl ?_); refine goesL_ (some 83) rfl rfl Try.func19 (by kernel_rfl) rfl #[.slice A29 ((l0.take ((wrap64 (x11_2 + x14_16)) : Int).toNat).drop (x11_2 : Int).toNat).length (c0 - x11_2.toNat), .int .i64 (wrap64 (1 + (wrap64 (Int.tmod a1 40)))), .int .i64 ((1 + (Int.tmod a2 4)) % 256), .int .i64 x15_18] rfl (by (try simp only [List.map_toArray, List.map_cons, List.map_nil]); first | done | (rw [show ((l0.take ((wrap64 (x11_2 + x14_16)) : Int).toNat).drop (x11_2 : Int).toNat).length = ((wrap64 (x11_2 + x14_16)).toNat - x11_2.toNat) from (by rw [List.length_drop, List.length_take]; have h_ : ((wrap64 (x11_2 + x14_16)) : Int) ≤ (l0.length : Int) := of_decide_eq_true (by first | (with_reducible assumption) | assumption); omega)] <;> rfl) | rfl | (simp only [List.length_drop, List.length_take]; rfl)) ?_; (with_reducible refine (barscanref23_Fits.calls kj18 _ _ ((l0.take ((wrap64 (x11_2 + x14_16)) : Int).toNat).drop (x11_2 : Int).toNat) (wrap64 (1 + (wrap64 (Int.tmod a1 40)))) ((1 + (Int.tmod a2 4)) % 256) x15_18 false _ ?side1 ?side2 A24.out).mono ?_); (case side1 => repeat (first | exact (Kd.C_below HR348.out HB.out) | (with_reducible refine Kd.C_alloc ?_ _) | (with_reducible refine Kd.C_drewN ?_ _) | (with_reducible refine Kd.C_drew ?_))); (case side2 => exact HC348.out); rintro e w30 ⟨rfl, hb⟩; refine ⟨_, rfl, ?_⟩; have n0_ := Aside0.mk (below_step (by repeat (first | (with_reducible first | exact HB.out | apply below_alloc | apply pw_below_drewN | apply below_drew1) | exact HB.out)) hb); clear HB; have HB := n0_; clear n0_; (try clear hb); (try clear hb2); (try clear hk); (try clear hi)) | ((with_reducible refine gate_callee (f := 10) rfl ?_); refine goesL_ (some 85) rfl rfl Try.func10 (by kernel_rfl) rfl #[] rfl (by (try simp only [List.map_toArray, List.map_cons, List.map_nil]); first | done | rfl | (simp only [List.length_drop, List.length_take]; rfl)) ?_; (with_reducible refine (barscanlaw23_exampleHolds.calls  t350 _ A28.out).mono ?_); rintro e w31 ⟨rfl, hb⟩; refine ⟨_, rfl, ?_⟩; have n0_ := Aside0.mk (below_step (by repeat (first | (with_reducible first | exact HB.out | apply below_alloc | apply pw_below_drewN | apply below_drew1) | exact HB.out)) hb); clear HB; have HB := n0_; clear n0_; (try clear hb); (try clear hb2); (try clear hk); (try clear hi)))
                     go_ret
                     exact ⟨by first | rfl | (simp [errW_none, errW_some] <;> rfl) | (simp [*, errW_none, errW_some] <;> rfl), by repeat (first | (with_reducible first | exact HB.out | apply below_alloc | apply pw_below_drewN | apply below_drew1) | exact HB.out)⟩
                   ·rw [if_neg c23] at H
                    exact absurd H (by simp)
                  ·rw [if_neg c22] at H
                   exact absurd H (by simp)
                 ·rw [if_neg c21] at H
                  exact absurd H (by simp)
          ·rw [if_neg c14] at H
           exact absurd H (by simp)
         ·rw [if_neg c13] at H
          exact absurd H (by simp)
        ·replace c12 := Bool.eq_false_iff.mpr c12
         subst c12
         have H1 : (if x11_2 < (l0.length : Int) then (barscanlaw23_SplitMinimal.j6 kj9 l0 (wrap64 (1 + (wrap64 (Int.tmod a1 40)))) ((1 + (Int.tmod a2 4)) % 256) x12_2 true) else (barscanlaw23_SplitMinimal.j6 kj9 l0 (wrap64 (1 + (wrap64 (Int.tmod a1 40)))) ((1 + (Int.tmod a2 4)) % 256) x12_2 (x12_2 == 0))) = some r := by rw [if_neg (show ¬ (false = true) by decide)] at H; exact H
         clear H
         have H := H1
         clear H1
         have HC32 := Aside0.mk H
         clear H
         go_upto_region 18 with (fail)
         go_cut [98] (fun v98 wc => ∃ (kq : Nat) (x98_31 : Bool), v98 = .bool x98_31 ∧ Aside0 (barscanlaw23_SplitMinimal.j6 kq l0 (wrap64 (1 + (wrap64 (Int.tmod a1 40)))) ((1 + (Int.tmod a2 4)) % 256) x12_2 x98_31 = some r) ∧ Aside0 (kq ≤ kj9) ∧ Aside0 (Below w.heap.size w wc))
         case first =>
          have H := HC32.out
          clear HC32
          by_cases c33 : x11_2 < (l0.length : Int)
          ·rw [if_pos c33] at H
           have c33b0 : decide (x11_2 < (l0.length : Int)) = true := decide_eq_true c33
           clear c33
           (first | rw [c33b0] | (simp only [i64_w, i32_w]; rw [c33b0]) | skip)
           have H' := Aside0.mk H
           clear H
           go_wp2
           go_meet
           case rel => exact ⟨_, (true), (by first | rfl | (simp; done) | (simp [*]; done)), H', ⟨by have := HJ4.out; have := HK2.out; have := HJ9.out; first | omega | exact Nat.le_refl _⟩, ⟨by repeat (first | (with_reducible first | exact HB.out | apply below_alloc | apply pw_below_drewN | apply below_drew1) | exact HB.out)⟩⟩
          ·rw [if_neg c33] at H
           have c33b0 : decide (x11_2 < (l0.length : Int)) = false := decide_eq_false c33
           clear c33
           (first | rw [c33b0] | (simp only [i64_w, i32_w]; rw [c33b0]) | skip)
           have H' := Aside0.mk H
           clear H
           go_wp2
           go_meet
           case rel => exact ⟨_, ((x12_2 == 0)), (by first | rfl | (simp; done) | (simp [*]; done)), H', ⟨by have := HJ4.out; have := HK2.out; have := HJ9.out; first | omega | exact Nat.le_refl _⟩, ⟨by repeat (first | (with_reducible first | exact HB.out | apply below_alloc | apply pw_below_drewN | apply below_drew1) | exact HB.out)⟩⟩
         case rest =>
          clear HC32
          try clear c1
          try clear c2
          try clear p2
          try clear c3
          try clear p3
          try clear q3
          try clear hx3
          try clear c6
          try clear c6b0
          try clear c6b1
          try clear p6
          try clear c7
          try clear c10
          try clear c11
          try clear c11b0
          try clear c12
          try clear c13
          try clear c13b0
          try clear c14
          try clear c14b0
          try clear c16
          try clear c16b0
          try clear c18
          try clear c19
          try clear c20
          try clear c20b0
          try clear c20b1
          try clear c21
          try clear c21b0
          try clear c21b1
          try clear c22
          try clear c22b0
          try clear c22b1
          try clear c23
          try clear c23b0
          try clear c23b1
          try clear c25
          try clear c33
          try clear c33b0
          try clear hx347_0
          try clear p2
          try clear p3
          try clear p347
          try clear p6
          try clear q3
          try clear q347
          obtain ⟨kq, x98_31, rfl, HA, HJ31, HB⟩ := hcut
          cases kq with
          | zero => exact absurd HA.out (by simp [barscanlaw23_SplitMinimal.j6])
          | succ kj31 =>
           have H := HA.out
           clear HA
           simp only [barscanlaw23_SplitMinimal.j6] at H
           by_cases c34 : x98_31 = true
           ·subst c34
            have H1 : ((barscanlaw23_exampleHolds.f).bind fun t351 => (some t351)) = some r := by rw [if_pos rfl] at H; exact H
            clear H
            have H := H1
            clear H1
            replace H := Option.bind_eq_some_iff.mp H
            obtain ⟨t351, A350, H⟩ := H
            replace H : (some t351) = some r := H
            have A35 := Aside0.mk A350
            clear A350
            obtain rfl := Option.some.inj H
            go_wp2_with (first | ((with_reducible refine gate_callee (f := 10) rfl ?_); refine goesL_ (some 99) rfl rfl Try.func10 (by kernel_rfl) rfl #[] rfl (by (try simp only [List.map_toArray, List.map_cons, List.map_nil]); first | done | rfl | (simp only [List.length_drop, List.length_take]; rfl)) ?_; (with_reducible refine (barscanlaw23_exampleHolds.calls  t351 _ A35.out).mono ?_); rintro e w36 ⟨rfl, hb⟩; refine ⟨_, rfl, ?_⟩; have n0_ := Aside0.mk (below_step (by repeat (first | (with_reducible first | exact HB.out | apply below_alloc | apply pw_below_drewN | apply below_drew1) | exact HB.out)) hb); clear HB; have HB := n0_; clear n0_; (try clear hb); (try clear hb2); (try clear hk); (try clear hi)))
            go_ret
            exact ⟨by first | rfl | (simp [errW_none, errW_some] <;> rfl) | (simp [*, errW_none, errW_some] <;> rfl), by repeat (first | (with_reducible first | exact HB.out | apply below_alloc | apply pw_below_drewN | apply below_drew1) | exact HB.out)⟩
           ·replace c34 := Bool.eq_false_iff.mpr c34
            subst c34
            have H1 : ((split_Cuts.f l0 (wrap64 (1 + (wrap64 (Int.tmod a1 40)))) ((1 + (Int.tmod a2 4)) % 256)).bind fun bt352 => (if bt352.2 = 0 then (if (bt352.1.length : Int) ≤ x12_2 then ((barscanlaw23_exampleHolds.f).bind fun t356 => (some t356)) else (some false)) else (some false))) = some r := by rw [if_neg (show ¬ (false = true) by decide)] at H; exact H
            clear H
            have H := H1
            clear H1
            replace H := Option.bind_eq_some_iff.mp H
            obtain ⟨⟨t352, t353⟩, A370, H⟩ := H
            replace H : (if t353 = 0 then (if (t352.length : Int) ≤ x12_2 then ((barscanlaw23_exampleHolds.f).bind fun t356 => (some t356)) else (some false)) else (some false)) = some r := H
            have A37 := Aside0.mk A370
            clear A370
            by_cases c38 : t353 = 0
            ·rw [if_pos c38] at H
             have c38b0 : (t353 == 0) = true := beq_iff_eq.mpr c38
             have c38b1 : (t353 != 0) = false := bne_eq_false_iff_eq.mpr c38
             clear c38
             by_cases c39 : (t352.length : Int) ≤ x12_2
             ·rw [if_pos c39] at H
              have c39b0 : decide ((t352.length : Int) ≤ x12_2) = true := decide_eq_true c39
              clear c39
              replace H := Option.bind_eq_some_iff.mp H
              obtain ⟨t356, A400, H⟩ := H
              replace H : (some t356) = some r := H
              have A40 := Aside0.mk A400
              clear A400
              obtain rfl := Option.some.inj H
              go_wp2_with (first | ((with_reducible refine gate_callee (f := 11) rfl ?_); refine goesL_ (some 104) rfl rfl Try.func11 (by kernel_rfl) rfl #[.slice A0 l0.length c0, .int .i64 (wrap64 (1 + (wrap64 (Int.tmod a1 40)))), .int .i64 ((1 + (Int.tmod a2 4)) % 256)] rfl (by (try simp only [List.map_toArray, List.map_cons, List.map_nil]); first | done | rfl | (simp only [List.length_drop, List.length_take]; rfl)) ?_; (with_reducible refine (split_Cuts.calls _ _ l0 (wrap64 (1 + (wrap64 (Int.tmod a1 40)))) ((1 + (Int.tmod a2 4)) % 256) t352 t353 _ ?side1 ?side2 A37.out).mono ?_); (case side1 => repeat (first | exact (Kd.C_below HR0.out HB.out) | (with_reducible refine Kd.C_alloc ?_ _) | (with_reducible refine Kd.C_drewN ?_ _) | (with_reducible refine Kd.C_drew ?_))); (case side2 => exact HC0.out); rintro e w41 ⟨v354, rfl, ho0, hb⟩; refine ⟨_, rfl, ?_⟩; have n0_ := Aside0.mk (Kd.R_lower ho0 (below_size (by repeat (first | (with_reducible first | exact HB.out | apply below_alloc | apply pw_below_drewN | apply below_drew1) | exact HB.out)))); have n1_ := Aside0.mk (below_step (by repeat (first | (with_reducible first | exact HB.out | apply below_alloc | apply pw_below_drewN | apply below_drew1) | exact HB.out)) hb); clear HB; have HO355 := n0_; have HB := n1_; clear n0_ n1_; (try clear hb); (try clear hb2); (try clear hk); (try clear hi); (try clear ho0); obtain ⟨Ao42, co42, eo42⟩ := Kd.R_slice HO355.out; subst eo42) | (go_at_call 10; (with_reducible refine (barscanlaw23_exampleHolds.calls  t356 _ A40.out).mono ?_); rintro e w43 ⟨rfl, hb⟩; have n0_ := Aside0.mk (Kd.R_below (by (with_reducible repeat (first | apply Kd.R_alloc | apply Kd.R_drewN | apply Kd.R_drew)); exact HO355.out) hb); have n1_ := Aside0.mk (below_step (by repeat (first | (with_reducible first | exact HB.out | apply below_alloc | apply pw_below_drewN | apply below_drew1) | exact HB.out)) hb); clear HO355; clear HB; have HO355 := n0_; have HB := n1_; clear n0_ n1_; (try clear hb); (try clear hb2); (try clear hk); (try clear hi)))
              go_ret
              exact ⟨by first | rfl | (simp [errW_none, errW_some] <;> rfl) | (simp [*, errW_none, errW_some] <;> rfl), by repeat (first | (with_reducible first | exact HB.out | apply below_alloc | apply pw_below_drewN | apply below_drew1) | exact HB.out)⟩
             ·rw [if_neg c39] at H
              have c39b0 : decide ((t352.length : Int) ≤ x12_2) = false := decide_eq_false c39
              clear c39
              obtain rfl := Option.some.inj H
              go_wp2_with (first | ((with_reducible refine gate_callee (f := 11) rfl ?_); refine goesL_ (some 104) rfl rfl Try.func11 (by kernel_rfl) rfl #[.slice A0 l0.length c0, .int .i64 (wrap64 (1 + (wrap64 (Int.tmod a1 40)))), .int .i64 ((1 + (Int.tmod a2 4)) % 256)] rfl (by (try simp only [List.map_toArray, List.map_cons, List.map_nil]); first | done | rfl | (simp only [List.length_drop, List.length_take]; rfl)) ?_; (with_reducible refine (split_Cuts.calls _ _ l0 (wrap64 (1 + (wrap64 (Int.tmod a1 40)))) ((1 + (Int.tmod a2 4)) % 256) t352 t353 _ ?side1 ?side2 A37.out).mono ?_); (case side1 => repeat (first | exact (Kd.C_below HR0.out HB.out) | (with_reducible refine Kd.C_alloc ?_ _) | (with_reducible refine Kd.C_drewN ?_ _) | (with_reducible refine Kd.C_drew ?_))); (case side2 => exact HC0.out); rintro e w44 ⟨v354, rfl, ho0, hb⟩; refine ⟨_, rfl, ?_⟩; have n0_ := Aside0.mk (Kd.R_lower ho0 (below_size (by repeat (first | (with_reducible first | exact HB.out | apply below_alloc | apply pw_below_drewN | apply below_drew1) | exact HB.out)))); have n1_ := Aside0.mk (below_step (by repeat (first | (with_reducible first | exact HB.out | apply below_alloc | apply pw_below_drewN | apply below_drew1) | exact HB.out)) hb); clear HB; have HO355 := n0_; have HB := n1_; clear n0_ n1_; (try clear hb); (try clear hb2); (try clear hk); (try clear hi); (try clear ho0); obtain ⟨Ao45, co45, eo45⟩ := Kd.R_slice HO355.out; subst eo45))
              go_ret
              exact ⟨by first | rfl | (simp [errW_none, errW_some] <;> rfl) | (simp [*, errW_none, errW_some] <;> rfl), by repeat (first | (with_reducible first | exact HB.out | apply below_alloc | apply pw_below_drewN | apply below_drew1) | exact HB.out)⟩
            ·rw [if_neg c38] at H
             have c38b0 : (t353 == 0) = false := beq_eq_false_iff_ne.mpr c38
             have c38b1 : (t353 != 0) = true := bne_iff_ne.mpr c38
             obtain rfl := Option.some.inj H
             go_wp2_with (first | ((with_reducible refine gate_callee (f := 11) rfl ?_); refine goesL_ (some 104) rfl rfl Try.func11 (by kernel_rfl) rfl #[.slice A0 l0.length c0, .int .i64 (wrap64 (1 + (wrap64 (Int.tmod a1 40)))), .int .i64 ((1 + (Int.tmod a2 4)) % 256)] rfl (by (try simp only [List.map_toArray, List.map_cons, List.map_nil]); first | done | rfl | (simp only [List.length_drop, List.length_take]; rfl)) ?_; (with_reducible refine (split_Cuts.calls _ _ l0 (wrap64 (1 + (wrap64 (Int.tmod a1 40)))) ((1 + (Int.tmod a2 4)) % 256) t352 t353 _ ?side1 ?side2 A37.out).mono ?_); (case side1 => repeat (first | exact (Kd.C_below HR0.out HB.out) | (with_reducible refine Kd.C_alloc ?_ _) | (with_reducible refine Kd.C_drewN ?_ _) | (with_reducible refine Kd.C_drew ?_))); (case side2 => exact HC0.out); rintro e w46 ⟨v354, rfl, ho0, hb⟩; refine ⟨_, rfl, ?_⟩; have n0_ := Aside0.mk (Kd.R_lower ho0 (below_size (by repeat (first | (with_reducible first | exact HB.out | apply below_alloc | apply pw_below_drewN | apply below_drew1) | exact HB.out)))); have n1_ := Aside0.mk (below_step (by repeat (first | (with_reducible first | exact HB.out | apply below_alloc | apply pw_below_drewN | apply below_drew1) | exact HB.out)) hb); clear HB; have HO355 := n0_; have HB := n1_; clear n0_ n1_; (try clear hb); (try clear hb2); (try clear hk); (try clear hi); (try clear ho0)))
             go_ret
             exact ⟨by first | rfl | (simp [errW_none, errW_some] <;> rfl) | (simp [*, errW_none, errW_some] <;> rfl), by repeat (first | (with_reducible first | exact HB.out | apply below_alloc | apply pw_below_drewN | apply below_drew1) | exact HB.out)⟩

/-- THE ONE PURE STATEMENT of barscanlaw23_SplitMinimal: yours. -/
def barscanlaw23_SplitMinimal.Pure : Prop := ∀ (l0 : List Int) (a1 : Int) (a2 : Int) (l3 : List Int), l0.length ≤ maxLen → l0.length * 1 ≤ 140737488351232 → (∀ x ∈ l0, (Lit.int .u8 x).wf = true) → (Lit.int .u8 a1).wf = true → (Lit.int .u8 a2).wf = true → l3.length ≤ maxLen → l3.length * 1 ≤ 140737488351232 → (∀ x ∈ l3, (Lit.int .u8 x).wf = true) → ∃ k, barscanlaw23_SplitMinimal.f k l0 a1 a2 l3 = some true
theorem barscanlaw23_SplitMinimal.walk (P : barscanlaw23_SplitMinimal.Pure) (a0 : Option Addr) (len0 cap0 : Nat) (z0 : List Int) (a1 : Int) (a2 : Int) (a3 : Option Addr) (len3 cap3 : Nat) (z3 : List Int) (w : World) (w0 : (a0 = none ∧ len0 = 0 ∧ cap0 = 0 ∧ z0 = []) ∨ ∃ x, a0 = some x ∧ len0 ≤ cap0 ∧ cap0 ≤ maxLen ∧ z0.length = cap0 ∧ (∀ i, i < z0.length → w.cell? (x.add i) = some (.int .u8 (z0.getD i 0))) ∧ ∀ n ∈ z0, (Lit.int .u8 n).wf = true) (y0 : len0 * 1 ≤ 140737488351232) (w1 : (Lit.int .u8 a1).wf = true) (w2 : (Lit.int .u8 a2).wf = true) (w3 : (a3 = none ∧ len3 = 0 ∧ cap3 = 0 ∧ z3 = []) ∨ ∃ x, a3 = some x ∧ len3 ≤ cap3 ∧ cap3 ≤ maxLen ∧ z3.length = cap3 ∧ (∀ i, i < z3.length → w.cell? (x.add i) = some (.int .u8 (z3.getD i 0))) ∧ ∀ n ∈ z3, (Lit.int .u8 n).wf = true) (y3 : len3 * 1 ≤ 140737488351232) :
  Calls Try.prog 7 #[.slice a0 len0 cap0, .int .u8 a1, .int .u8 a2, .slice a3 len3 cap3] w fun e w' => e = .returned (.bool true) ∧ Below w.heap.size w w' := by
 obtain ⟨l0, rfl, hr0, hm0, hw0, hc0⟩ := ReadsInt.ofRowC w0
 obtain ⟨l3, rfl, hr3, hm3, hw3, hc3⟩ := ReadsInt.ofRowC w3
 obtain ⟨k, h⟩ := P l0 a1 a2 l3 hm0 y0 hw0 w1 w2 hm3 y3 hw3
 refine (barscanlaw23_SplitMinimal.calls k _ _ l0 a1 a2 _ _ l3 true w (Kd.C_of_reads (d := (0 : Int)) (h1 := fun _ => rfl) hr0) hc0 (Kd.C_of_reads (d := (0 : Int)) (h1 := fun _ => rfl) hr3) hc3 h).mono ?_
 rintro e w' ⟨rfl, hd⟩
 exact ⟨rfl, hd⟩

end Go.Proofs.Ytclbjddcenkidaa.PS
namespace Go.Proofs.Ytclbjddcenkidaa.PS
open Go.RowKit Go.Proofs.YtclbjddcenkidaaW.PrintWords Go.Proofs.YtclbjddcenkidaaW.PrintLast Go.Proofs.YtclbjddcenkidaaW.PrintMore
attribute [local go_sem] max2_int min2_int max_two min_two max_three min_three max_four min_four   -- for this text's walks alone

def barscanref23_Parity.l0 : Nat → List Int → Int → Int → Option (Int)
 | 0, _, _, _ => none
 | k + 1, x0, x3, x4 => if x4 < (x0.length : Int) then (if 0 ≤ x4 then (barscanref23_Parity.l0 k x0 (Go.bits .xor .i64 x3 (wrap64 (rd x0 x4))) (wrap64 (x4 + 1))) else (none)) else (some x3)
def barscanref23_Parity.f (k : Nat) (l0 : List Int) : Option (Int) := barscanref23_Parity.l0 k l0 0 0
theorem barscanref23_Parity.mono_l : ∀ k, (∀ y0 y1 y2, LeO (barscanref23_Parity.l0 k y0 y1 y2) (barscanref23_Parity.l0 (k + 1) y0 y1 y2))
 | 0 => fun _ _ _ r h => by simp [barscanref23_Parity.l0] at h
 | k + 1 => by
  have ih0 := barscanref23_Parity.mono_l k
  ·intro y0 y1 y2
   unfold barscanref23_Parity.l0
   repeat' first
   | (with_reducible exact ih0 _ _ _)
   | (with_reducible exact LeO.refl _)
   | (with_reducible exact LeO.none _)
   | (with_reducible refine LeO.ite ?_ ?_)
   | (with_reducible refine LeO.bind ?_ (fun _ => ?_))
   | exact ih0 _ _ _
   | exact LeO.none _
   | refine LeO.ite ?_ ?_
   | refine LeO.bind ?_ (fun _ => ?_)
theorem barscanref23_Parity.mono : ∀ a0 k, LeO (barscanref23_Parity.f k a0) (barscanref23_Parity.f (k + 1) a0) := by
 intro a0 k
 have ih0 := barscanref23_Parity.mono_l k
 unfold barscanref23_Parity.f
 repeat' first
   | (with_reducible exact ih0 _ _ _)
   | (with_reducible exact LeO.refl _)
   | (with_reducible exact LeO.none _)
   | (with_reducible refine LeO.ite ?_ ?_)
   | (with_reducible refine LeO.bind ?_ (fun _ => ?_))
   | exact ih0 _ _ _
   | exact LeO.none _
   | refine LeO.ite ?_ ?_
   | refine LeO.bind ?_ (fun _ => ?_)
set_option maxHeartbeats 8000000 in
set_option maxRecDepth 100000 in
theorem barscanref23_Parity.calls (k : Nat) (A0 : Option Addr) (c0 : Nat) (l0 : List Int) (r : Int) (w : World) (hr0 : Kd.C (Kd.int .u8) w A0 l0.length l0) (hc0 : l0.length ≤ c0) (h : barscanref23_Parity.f k l0 = some r) :
  Calls Try.prog 9 #[.slice A0 l0.length c0] w fun e w' => e = .returned (.int .i64 r) ∧ Drawn0 w w' := by
 have HR0 := Aside0.mk hr0
 have HC0 := Aside0.mk hc0
 clear hr0 hc0
 have H : (barscanref23_Parity.l0 k l0 0 0) = some r := h
 clear h
 have H' := Aside0.mk H
 clear H
 go_enter Try.func9, Try.ntmps9
 go_wp2
 go_loopg [3, 4] k (fun kq v3 v4 w' => ∃ (x3_1 : Int) (x4_1 : Int), v3 = .int .i64 x3_1 ∧ v4 = .int .i64 x4_1 ∧ Aside0 (barscanref23_Parity.l0 kq l0 x3_1 x4_1 = some r) ∧ Aside0 (kq ≤ k) ∧ Drawn0 w w')
 case atStart => exact ⟨(0), (0), (by first | rfl | (simp; done) | (simp [*]; done)), (by first | rfl | (simp; done) | (simp [*]; done)), H', ⟨Nat.le_refl _⟩, by repeat (first | exact Drawn0.refl _ | apply Drawn0.step)⟩
 case round =>
  clear H'
  obtain ⟨x3_1, x4_1, rfl, rfl, HA, HK1, ⟨m1, rfl⟩⟩ := hrel
  cases gk with
  | zero => exact absurd HA.out (by simp [barscanref23_Parity.l0])
  | succ k1 =>
   have H := HA.out
   clear HA
   simp only [barscanref23_Parity.l0] at H
   by_cases c2 : x4_1 < (l0.length : Int)
   ·rw [if_pos c2] at H
    have c2b0 : decide (x4_1 < (l0.length : Int)) = true := decide_eq_true c2
    clear c2
    by_cases c3 : 0 ≤ x4_1
    ·rw [if_pos c3] at H
     have c3b0 : decide (0 ≤ x4_1) = true := decide_eq_true c3
     clear c3
     have H' := Aside0.mk H
     clear H
     have p102 : 0 ≤ (x4_1 : Int) := of_decide_eq_true (by first | (with_reducible assumption) | assumption)
     have q102 : x4_1 < (l0.length : Int) := of_decide_eq_true (by first | (with_reducible assumption) | assumption)
     obtain ⟨ad102, e102, hx102_0⟩ := Kd.at_int HR0.out x4_1 p102 q102
     cases e102
     replace p102 := eq_true p102
     replace q102 := eq_true q102
     go_wp2
     go_roundg k1
     case measure => have := HK1.out; omega
     case rel => exact ⟨(Go.bits .xor .i64 x3_1 (wrap64 (rd l0 x4_1))), (wrap64 (x4_1 + 1)), (by first | rfl | (simp; done) | (simp [*]; done)), (by first | rfl | (simp; done) | (simp [*]; done)), H', ⟨by have := HK1.out; omega⟩, by repeat (first | exact Drawn0.refl _ | apply Drawn0.step)⟩
    ·rw [if_neg c3] at H
     exact absurd H (by simp)
   ·rw [if_neg c2] at H
    have c2b0 : decide (x4_1 < (l0.length : Int)) = false := decide_eq_false c2
    clear c2
    obtain rfl := Option.some.inj H
    go_wp2
    go_ret
    exact ⟨by first | rfl | (simp; done) | (simp [*]; done), by repeat (first | exact Drawn0.refl _ | apply Drawn0.step)⟩

end Go.Proofs.Ytclbjddcenkidaa.PS
namespace Go.Proofs.Ytclbjddcenkidaa.PS
open Go.RowKit Go.Proofs.YtclbjddcenkidaaW.PrintWords Go.Proofs.YtclbjddcenkidaaW.PrintLast Go.Proofs.YtclbjddcenkidaaW.PrintMore
attribute [local go_sem] max2_int min2_int max_two min_two max_three min_three max_four min_four
theorem wf_byte {x : Int} (h : (Lit.int .u8 x).wf = true) : 0 ≤ x ∧ x < 256 := by
  have e1 : IntKind.u8.min = 0 := by decide
  have e2 : IntKind.u8.max = 255 := by decide
  simp only [Lit.wf, e1, e2, Bool.and_eq_true, decide_eq_true_eq] at h
  omega

end Go.Proofs.Ytclbjddcenkidaa.PS
namespace Go.Proofs.Ytclbjddcenkidaa.PS
open Go.RowKit Go.Proofs.YtclbjddcenkidaaW.PrintWords Go.Proofs.YtclbjddcenkidaaW.PrintLast Go.Proofs.YtclbjddcenkidaaW.PrintMore
attribute [local go_sem] max2_int min2_int max_two min_two max_three min_three max_four min_four
inductive Segd (cls : Int) : List Int → Int → Prop
  | nil : Segd cls [] 0
  | cons (m : Int) (k : Nat) (l : List Int) (b : Int) (hm : m = 1 ∨ m = 2 ∨ m = 4) (hk : 1 ≤ k) (hkl : k ≤ l.length) (hmo : k ≤ mostN m cls) (hf : ∀ c ∈ l.take k, fitS m c = true) (h : Segd cls (l.drop k) b) : Segd cls l (4 + cbN m cls + dbN m k + b)
theorem dbN_mono (m : Int) {j k : Nat} (h : j ≤ k) : dbN m j ≤ dbN m k := by
  unfold dbN
  split
  · rcases (by omega : k % 3 = 0 ∨ k % 3 = 1 ∨ k % 3 = 2) with a | a | a <;> rcases (by omega : j % 3 = 0 ∨ j % 3 = 1 ∨ j % 3 = 2) with b | b | b <;> rw [a, b] <;> simp <;> omega
  · split
    · rcases (by omega : k % 2 = 0 ∨ k % 2 = 1) with a | a <;> rcases (by omega : j % 2 = 0 ∨ j % 2 = 1) with b | b <;> rw [a, b] <;> simp <;> omega
    · omega
theorem Segd.nonneg {cls : Int} {l : List Int} {b : Int} (h : Segd cls l b) : 0 ≤ b := by
  induction h with
  | nil => omega
  | cons m k l b hm hk hkl hmo hf h ih => omega
theorem Segd.take {cls : Int} {l : List Int} {b : Int} (h : Segd cls l b) : ∀ n, ∃ b', b' ≤ b ∧ Segd cls (l.take n) b' := by
  induction h with
  | nil => intro n; exact ⟨0, Int.le_refl _, by simpa using Segd.nil⟩
  | cons m k l b hm hk hkl hmo hf h ih =>
    intro n
    by_cases hn0 : n = 0
    · subst hn0
      have := h.nonneg
      exact ⟨0, by omega, by simpa using Segd.nil⟩
    · by_cases hnk : n ≤ k
      · have := dbN_mono m hnk
        have hb := h.nonneg
        refine ⟨4 + cbN m cls + dbN m n + 0, by omega, Segd.cons m n (l.take n) 0 hm (by omega) (by rw [List.length_take]; omega) (by omega) (fun c hc => hf c ?_) ?_⟩
        · rw [List.take_take, Nat.min_self] at hc
          exact List.mem_of_mem_take (i := n) (by rwa [List.take_take, Nat.min_eq_left hnk])
        · rw [List.drop_eq_nil_of_le (by rw [List.length_take]; omega)]
          exact Segd.nil
      · obtain ⟨b', hb', hs⟩ := ih (n - k)
        refine ⟨4 + cbN m cls + dbN m k + b', by omega, Segd.cons m k (l.take n) b' hm hk (by rw [List.length_take]; omega) hmo (fun c hc => hf c ?_) ?_⟩
        · rwa [List.take_take, Nat.min_eq_left (by omega)] at hc
        · rwa [List.drop_take]
theorem Segd.drop {cls : Int} {l : List Int} {b : Int} (h : Segd cls l b) : ∀ n, ∃ b', b' ≤ b ∧ Segd cls (l.drop n) b' := by
  induction h with
  | nil => intro n; exact ⟨0, Int.le_refl _, by simpa using Segd.nil⟩
  | cons m k l b hm hk hkl hmo hf h ih =>
    intro n
    by_cases hnk : n < k
    · have := dbN_mono m (j := k - n) (k := k) (by omega)
      refine ⟨4 + cbN m cls + dbN m (k - n) + b, by omega, Segd.cons m (k - n) (l.drop n) b hm (by omega) (by rw [List.length_drop]; omega) (by omega) (fun c hc => hf c ?_) ?_⟩
      · rw [← List.drop_take] at hc
        exact List.mem_of_mem_drop hc
      · rw [List.drop_drop, show n + (k - n) = k by omega]
        exact h
    · obtain ⟨b', hb', hs⟩ := ih (n - k)
      have h1 : 0 ≤ (4 : Int) + cbN m cls + dbN m k := by omega
      refine ⟨b', by omega, ?_⟩
      rw [List.drop_drop, show k + (n - k) = n by omega] at hs
      exact hs
/-- what is better costs no more -/
theorem betS_le {a b : S106} (h : betS a b = true) : a.f0 ≤ b.f0 := by
  unfold betS at h
  split at h
  · rename_i e; omega
  · simp at h; omega
theorem betS_ge {a b : S106} (h : ¬ betS a b = true) : b.f0 ≤ a.f0 := by
  unfold betS at h
  split at h
  · rename_i e; omega
  · simp at h; omega
/-- the inner loop: no candidate that it meets is cheaper than what comes out -/
theorem innerS_le (cls m : Int) : ∀ (s : List Int) (rest : List S106) (k : Nat) (cur : S106), (innerS cls m s rest k cur).f0 ≤ cur.f0
  | [], _, _, cur => by unfold innerS; exact Int.le_refl _
  | _ :: _, [], _, cur => by unfold innerS; exact Int.le_refl _
  | c :: s, p :: rest, k, cur => by
    unfold innerS
    split
    · refine Int.le_trans (innerS_le cls m s rest (k + 1) _) ?_
      split
      · rename_i h; exact betS_le h
      · exact Int.le_refl _
    · exact Int.le_refl _
theorem innerS_cand (cls m : Int) : ∀ (s : List Int) (rest : List S106) (k j : Nat) (cur : S106) (p : S106), j < s.length → rest[j]? = some p → k + j ≤ mostN m cls → (∀ c ∈ s.take (j + 1), fitS m c = true) →
    (innerS cls m s rest k cur).f0 ≤ 4 + cbN m cls + dbN m (k + j) + p.f0
  | [], _, _, _, _, _, hj, _, _, _ => by simp at hj
  | _ :: _, [], _, _, _, _, _, hr, _, _ => by simp at hr
  | c :: s, q :: rest, k, j, cur, p, hj, hr, hmo, hf => by
    unfold innerS
    have hc : fitS m c = true := hf c (by simp)
    rw [if_pos ⟨by omega, hc⟩]
    cases j with
    | zero =>
      simp at hr
      subst hr
      refine Int.le_trans (innerS_le cls m s rest (k + 1) _) ?_
      split
      · simp [candS]
      · rename_i h; have := betS_ge h; simpa [candS] using this
    | succ j =>
      have := innerS_cand cls m s rest (k + 1) j (if betS (candS m cls k q) cur = true then candS m cls k q else cur) p (by simpa using hj) (by simpa using hr) (by omega) (fun d hd => hf d (by simp; exact .inr hd))
      rw [show k + 1 + j = k + (j + 1) by omega] at this
      exact this
/-- what comes out is the old one or a candidate -/
theorem innerS_from (cls m : Int) : ∀ (s : List Int) (rest : List S106) (k : Nat) (cur : S106), innerS cls m s rest k cur = cur ∨
    ∃ j p, j < s.length ∧ rest[j]? = some p ∧ k + j ≤ mostN m cls ∧ (∀ c ∈ s.take (j + 1), fitS m c = true) ∧ (innerS cls m s rest k cur) = candS m cls (k + j) p
  | [], _, _, cur => by unfold innerS; exact .inl rfl
  | _ :: _, [], _, cur => by unfold innerS; exact .inl rfl
  | c :: s, q :: rest, k, cur => by
    unfold innerS
    split
    · rename_i h
      rcases innerS_from cls m s rest (k + 1) (if betS (candS m cls k q) cur = true then candS m cls k q else cur) with e | ⟨j, p, h1, h2, h3, h4, h5⟩
      · rw [e]
        split
        · exact .inr ⟨0, q, by simp, rfl, by omega, by simpa using h.2, rfl⟩
        · exact .inl rfl
      · refine .inr ⟨j + 1, p, by simpa using h1, by simpa using h2, by omega, fun d hd => ?_, by rw [h5, show k + 1 + j = k + (j + 1) by omega]⟩
        simp at hd
        rcases hd with rfl | hd
        · exact h.2
        · exact h4 d hd
    · exact .inl rfl
theorem bitsS_cons (cls c : Int) (cs : List Int) : bitsS cls (c :: cs) = (bestS cls (c :: cs) (planS cls cs)).f0 := rfl
theorem plan_get (cls : Int) (l : List Int) (i : Nat) (h : i ≤ l.length) : ∃ p, (planS cls l)[i]? = some p ∧ p.f0 = bitsS cls (l.drop i) := by
  have hd := planS_drop cls l i h
  have hl := planS_len cls (l.drop i)
  cases hp : planS cls (l.drop i) with
  | nil => rw [hp] at hl; simp at hl
  | cons p r =>
    refine ⟨p, ?_, by rw [bitsS, hp]; rfl⟩
    have : ((planS cls l).drop i)[0]? = some p := by rw [hd, hp]; rfl
    rw [List.getElem?_drop] at this
    simpa using this
theorem bits_le {cls : Int} {l : List Int} {b : Int} (h : Segd cls l b) : bitsS cls l ≤ b := by
  induction h with
  | nil => simp [bitsS, planS, z106]
  | cons m k l b hm hk hkl hmo hf h ih =>
    cases l with
    | nil => simp at hkl; omega
    | cons c cs =>
      obtain ⟨p, hp, hp0⟩ := plan_get cls cs (k - 1) (by simp at hkl; omega)
      have e : (c :: cs).drop k = cs.drop (k - 1) := by
        obtain ⟨k', rfl⟩ : ∃ k', k = k' + 1 := ⟨k - 1, by omega⟩
        simp
      rw [e] at ih
      have hf' : ∀ d ∈ (c :: cs).take (k - 1 + 1), fitS m d = true := by rwa [show k - 1 + 1 = k by omega]
      have hcand : ∀ cur, (innerS cls m (c :: cs) (planS cls cs) 1 cur).f0 ≤ 4 + cbN m cls + dbN m k + p.f0 := fun cur => by
        have := innerS_cand cls m (c :: cs) (planS cls cs) 1 (k - 1) cur p (by omega) hp (by omega) hf'
        rwa [show 1 + (k - 1) = k by omega] at this
      rw [bitsS_cons]
      unfold bestS
      rcases hm with rfl | rfl | rfl
      · have h1 := innerS_le cls 4 (c :: cs) (planS cls cs) 1 (innerS cls 2 (c :: cs) (planS cls cs) 1 (innerS cls 1 (c :: cs) (planS cls cs) 1 initS))
        have h2 := innerS_le cls 2 (c :: cs) (planS cls cs) 1 (innerS cls 1 (c :: cs) (planS cls cs) 1 initS)
        have h3 := hcand initS
        omega
      · have h1 := innerS_le cls 4 (c :: cs) (planS cls cs) 1 (innerS cls 2 (c :: cs) (planS cls cs) 1 (innerS cls 1 (c :: cs) (planS cls cs) 1 initS))
        have h3 := hcand (innerS cls 1 (c :: cs) (planS cls cs) 1 initS)
        omega
      · have h3 := hcand (innerS cls 2 (c :: cs) (planS cls cs) 1 (innerS cls 1 (c :: cs) (planS cls cs) 1 initS))
        omega

end Go.Proofs.Ytclbjddcenkidaa.PS
namespace Go.Proofs.Ytclbjddcenkidaa.PS
open Go.RowKit Go.Proofs.YtclbjddcenkidaaW.PrintWords Go.Proofs.YtclbjddcenkidaaW.PrintLast Go.Proofs.YtclbjddcenkidaaW.PrintMore
attribute [local go_sem] max2_int min2_int max_two min_two max_three min_three max_four min_four
theorem segd_best {cls : Int} (h0 : 0 ≤ cls) (h2 : cls ≤ 2) : ∀ (n : Nat) (l : List Int), l.length = n → n ≤ 4096 → Segd cls l (bitsS cls l) := by
  intro n
  induction n using Nat.strongRecOn with
  | _ n ih =>
    intro l hl hn
    cases l with
    | nil => exact Segd.nil
    | cons c cs =>
      have hok := (planS_ok h0 h2 (c :: cs) (by omega) 0 _ rfl).2
      have hne : bestS cls (c :: cs) (planS cls cs) ≠ initS := fun e => by
        have := hok.b1
        rw [e] at this
        simp only [initS] at this
        omega
      have key : ∀ m : Int, (m = 1 ∨ m = 2 ∨ m = 4) → (∃ j p, j < (c :: cs).length ∧ (planS cls cs)[j]? = some p ∧ 1 + j ≤ mostN m cls ∧ (∀ d ∈ (c :: cs).take (j + 1), fitS m d = true) ∧ bestS cls (c :: cs) (planS cls cs) = candS m cls (1 + j) p) → Segd cls (c :: cs) (bitsS cls (c :: cs)) := by
        rintro m hm ⟨j, p, hj, hp, hmo, hf, he⟩
        obtain ⟨p', hp', hp0⟩ := plan_get cls cs j (by simp at hj; omega)
        rw [hp] at hp'
        cases hp'
        have hs := ih (cs.drop j).length (by rw [List.length_drop]; simp at hl; omega) (cs.drop j) rfl (by rw [List.length_drop]; simp at hl; omega)
        rw [bitsS_cons, he]
        simp only [candS]
        rw [hp0]
        exact Segd.cons m (1 + j) (c :: cs) _ hm (by omega) (by omega) hmo (fun d hd => hf d (by rwa [Nat.add_comm])) (by rw [Nat.add_comm]; exact hs)
      rcases innerS_from cls 4 (c :: cs) (planS cls cs) 1 (innerS cls 2 (c :: cs) (planS cls cs) 1 (innerS cls 1 (c :: cs) (planS cls cs) 1 initS)) with e4 | h4
      · rcases innerS_from cls 2 (c :: cs) (planS cls cs) 1 (innerS cls 1 (c :: cs) (planS cls cs) 1 initS) with e2 | h2'
        · rcases innerS_from cls 1 (c :: cs) (planS cls cs) 1 initS with e1 | h1
          · exact absurd (by unfold bestS; rw [e4, e2, e1]) hne
          · obtain ⟨j, p, a, b, d, e, f⟩ := h1
            exact key 1 (.inl rfl) ⟨j, p, a, b, d, e, by unfold bestS; rw [e4, e2, f]⟩
        · obtain ⟨j, p, a, b, d, e, f⟩ := h2'
          exact key 2 (.inr (.inl rfl)) ⟨j, p, a, b, d, e, by unfold bestS; rw [e4, f]⟩
      · obtain ⟨j, p, a, b, d, e, f⟩ := h4
        exact key 4 (.inr (.inr rfl)) ⟨j, p, a, b, d, e, by unfold bestS; rw [f]⟩
theorem bits_take {cls : Int} (h0 : 0 ≤ cls) (h2 : cls ≤ 2) (l : List Int) (hn : l.length ≤ 4096) (n : Nat) : bitsS cls (l.take n) ≤ bitsS cls l := by
  obtain ⟨b, hb, hs⟩ := (segd_best h0 h2 _ l rfl hn).take n
  exact Int.le_trans (bits_le hs) hb
theorem bits_drop {cls : Int} (h0 : 0 ≤ cls) (h2 : cls ≤ 2) (l : List Int) (hn : l.length ≤ 4096) (n : Nat) : bitsS cls (l.drop n) ≤ bitsS cls l := by
  obtain ⟨b, hb, hs⟩ := (segd_best h0 h2 _ l rfl hn).drop n
  exact Int.le_trans (bits_le hs) hb
theorem smallR_some (l : List Int) (lev : Nat) (ex : Int) : ∀ d v u, smallR l lev ex d v = some u → v ≤ u ∧ u < v + d ∧ fitV l lev ex u = true
  | 0, _, _, h => by simp [smallR] at h
  | d + 1, v, u, h => by
    unfold smallR at h
    split at h
    · rename_i hf
      cases h
      exact ⟨Nat.le_refl _, by omega, hf⟩
    · obtain ⟨a, b, c⟩ := smallR_some l lev ex d (v + 1) u h
      exact ⟨by omega, by omega, c⟩
theorem smallR_le (l : List Int) (lev : Nat) (ex : Int) : ∀ d v u, v ≤ u → u < v + d → fitV l lev ex u = true → ∃ u', smallR l lev ex d v = some u' ∧ u' ≤ u
  | 0, _, _, h1, h2, _ => by omega
  | d + 1, v, u, h1, h2, hf => by
    unfold smallR
    split
    · exact ⟨v, rfl, h1⟩
    · rename_i hn
      by_cases e : v = u
      · subst e; exact absurd hf hn
      · exact smallR_le l lev ex d (v + 1) u (by omega) (by omega) hf
theorem fitsS_iff (l : List Int) (v : Int) (lev : Nat) (ex : Int) : fitsS l v lev ex = true ↔ ∃ u : Nat, 1 ≤ u ∧ u ≤ 40 ∧ (u : Int) ≤ v ∧ fitV l lev ex u = true := by
  unfold fitsS
  constructor
  · intro h
    cases hs : smallR l lev ex 40 1 with
    | none => rw [hs] at h; simp at h
    | some u =>
      rw [hs] at h
      obtain ⟨a, b, c⟩ := smallR_some l lev ex 40 1 u hs
      exact ⟨u, a, by omega, by simpa using h, c⟩
  · rintro ⟨u, a, b, c, d⟩
    obtain ⟨u', hs, hu⟩ := smallR_le l lev ex 40 1 u a (by omega) d
    rw [hs]
    simp
    omega
theorem fitV_mono {l l' : List Int} {lev : Nat} {ex ex' : Int} {u : Nat} (hb : bitsS (clsOf u) l' ≤ bitsS (clsOf u) l) (he : ex' ≤ ex) (h : fitV l lev ex u = true) : fitV l' lev ex' u = true := by
  unfold fitV at h ⊢
  simp at h ⊢
  omega
theorem fits_mono_take {l : List Int} (hn : l.length ≤ 4096) {v : Int} {lev : Nat} {ex : Int} (n : Nat) (h : fitsS l v lev ex = true) : fitsS (l.take n) v lev ex = true := by
  rw [fitsS_iff] at h ⊢
  obtain ⟨u, a, b, c, d⟩ := h
  exact ⟨u, a, b, c, fitV_mono (bits_take (clsOf_bd u).1 (clsOf_bd u).2 l hn n) (Int.le_refl _) d⟩
theorem fits_mono_drop {l : List Int} (hn : l.length ≤ 4096) {v : Int} {lev : Nat} {ex : Int} (n : Nat) (h : fitsS l v lev ex = true) : fitsS (l.drop n) v lev ex = true := by
  rw [fitsS_iff] at h ⊢
  obtain ⟨u, a, b, c, d⟩ := h
  exact ⟨u, a, b, c, fitV_mono (bits_drop (clsOf_bd u).1 (clsOf_bd u).2 l hn n) (Int.le_refl _) d⟩
def longS (p : Nat → Bool) : Nat → Nat → Nat
  | 0, n => n
  | d + 1, n => if p n = true then longS p d (n + 1) else n
theorem longS_spec (p : Nat → Bool) : ∀ d n, n ≤ longS p d n ∧ longS p d n ≤ n + d ∧ (∀ i, n ≤ i → i < longS p d n → p i = true) ∧ (longS p d n < n + d → p (longS p d n) = false)
  | 0, n => ⟨Nat.le_refl _, Nat.le_refl _, fun i h1 h2 => by unfold longS at h2; omega, fun h => by unfold longS at h; omega⟩
  | d + 1, n => by
    unfold longS
    split
    · rename_i hp
      obtain ⟨a, b, c, e⟩ := longS_spec p d (n + 1)
      refine ⟨by omega, by omega, fun i h1 h2 => ?_, fun h => e (by omega)⟩
      by_cases e2 : i = n
      · subst e2; exact hp
      · exact c i (by omega) h2
    · rename_i hp
      exact ⟨Nat.le_refl _, by omega, fun i h1 h2 => by omega, fun _ => by simpa using hp⟩
theorem bsearch_spec (q : Nat → Bool) (N : Nat) (hm : ∀ i j, i ≤ j → j < N → q i = true → q j = true) : ∀ k lo hi, hi ≤ N → lo ≤ hi → hi - lo ≤ k → (∀ i, i < lo → q i = false) → (∀ i, hi ≤ i → i < N → q i = true) →
    (∀ i, i < bsearch q k lo hi → q i = false) ∧ (∀ i, bsearch q k lo hi ≤ i → i < N → q i = true) ∧ bsearch q k lo hi ≤ N
  | 0, lo, hi, h1, h2, h3, h4, h5 => by
    have : lo = hi := by omega
    subst this
    exact ⟨h4, h5, h1⟩
  | k + 1, lo, hi, h1, h2, h3, h4, h5 => by
    unfold bsearch
    split
    · rename_i hlt
      split
      · rename_i hq
        exact bsearch_spec q N hm k lo ((lo + hi) / 2) (by omega) (by omega) (by omega) h4 (fun i a b => hm _ i a b hq)
      · rename_i hq
        refine bsearch_spec q N hm k ((lo + hi) / 2 + 1) hi h1 (by omega) (by omega) (fun i a => ?_) h5
        cases hi' : q i with
        | false => rfl
        | true => exact absurd (hm i ((lo + hi) / 2) (by omega) (by omega) hi') hq
    · rename_i hlt
      have : lo = hi := by omega
      subst this
      exact ⟨h4, h5, h1⟩
theorem part_long (v lev : Nat) (rest : List Int) (hn : rest.length ≤ 4096) : partS v lev rest = longS (fun i => fitsS (rest.take (i + 1)) v lev 20) rest.length 0 := by
  have hm : ∀ i j, i ≤ j → j < rest.length → (fun i => !fitsS (rest.take (i + 1)) v lev 20) i = true → (fun i => !fitsS (rest.take (i + 1)) v lev 20) j = true := by
    intro i j hij _ h
    simp only [Bool.not_eq_true'] at h ⊢
    cases hj : fitsS (rest.take (j + 1)) v lev 20 with
    | false => rfl
    | true =>
      have := fits_mono_take (l := rest.take (j + 1)) (by rw [List.length_take]; omega) (i + 1) hj
      rw [List.take_take, Nat.min_eq_left (by omega), h] at this
      cases this
  obtain ⟨a, b, c⟩ := bsearch_spec _ rest.length hm rest.length 0 rest.length (Nat.le_refl _) (Nat.zero_le _) (by omega) (fun i h => by omega) (fun i h1 h2 => by omega)
  obtain ⟨d, e, f, g⟩ := longS_spec (fun i => fitsS (rest.take (i + 1)) v lev 20) rest.length 0
  change partS v lev rest ≤ rest.length at c
  change ∀ i, i < partS v lev rest → _ at a
  change ∀ i, partS v lev rest ≤ i → _ at b
  rcases Nat.lt_trichotomy (partS v lev rest) (longS (fun i => fitsS (rest.take (i + 1)) v lev 20) rest.length 0) with h | h | h
  · have h1 := f _ (Nat.zero_le _) h
    have h2 := b _ (Nat.le_refl _) (by omega)
    simp only [Bool.not_eq_true'] at h2
    rw [h1] at h2
    cases h2
  · exact h
  · have h1 := a _ h
    have h2 := g (by omega)
    simp only [Bool.not_eq_false'] at h1
    rw [h1] at h2
    cases h2

end Go.Proofs.Ytclbjddcenkidaa.PS
namespace Go.Proofs.Ytclbjddcenkidaa.PS
open Go.RowKit Go.Proofs.YtclbjddcenkidaaW.PrintWords Go.Proofs.YtclbjddcenkidaaW.PrintLast Go.Proofs.YtclbjddcenkidaaW.PrintMore
attribute [local go_sem] max2_int min2_int max_two min_two max_three min_three max_four min_four
inductive Div (v lev : Nat) : List Int → Nat → Prop
  | nil : Div v lev [] 0
  | cons (l : List Int) (k n : Nat) (hk : 1 ≤ k) (hkl : k ≤ l.length) (hf : fitsS (l.take k) v lev 20 = true) (h : Div v lev (l.drop k) n) : Div v lev l (n + 1)
theorem Div.drop {v lev : Nat} {l : List Int} {n : Nat} (h : Div v lev l n) : l.length ≤ 4096 → ∀ j, ∃ n', n' ≤ n ∧ Div v lev (l.drop j) n' := by
  induction h with
  | nil => intro _ j; exact ⟨0, Nat.le_refl _, by simpa using Div.nil⟩
  | cons l k n hk hkl hf h ih =>
    intro hl j
    by_cases hjk : j < k
    · refine ⟨n + 1, Nat.le_refl _, Div.cons (l.drop j) (k - j) n (by omega) (by rw [List.length_drop]; omega) ?_ ?_⟩
      · have := fits_mono_drop (l := l.take k) (by rw [List.length_take]; omega) j hf
        rwa [List.drop_take] at this
      · rw [List.drop_drop, show j + (k - j) = k by omega]
        exact h
    · obtain ⟨n', h1, h2⟩ := ih (by rw [List.length_drop]; omega) (j - k)
      refine ⟨n', by omega, ?_⟩
      rwa [List.drop_drop, show k + (j - k) = j by omega] at h2
theorem part_ge {v lev : Nat} {rest : List Int} (hn : rest.length ≤ 4096) {k : Nat} (hk : k ≤ rest.length) (hf : fitsS (rest.take k) v lev 20 = true) : k ≤ partS v lev rest := by
  rw [part_long v lev rest hn]
  obtain ⟨a, b, c, d⟩ := longS_spec (fun i => fitsS (rest.take (i + 1)) v lev 20) rest.length 0
  refine Nat.le_of_not_lt fun hlt => ?_
  have h1 := d (by omega)
  have h2 := fits_mono_take (l := rest.take k) (by rw [List.length_take]; omega) (longS (fun i => fitsS (rest.take (i + 1)) v lev 20) rest.length 0 + 1) hf
  rw [List.take_take, Nat.min_eq_left (by omega), h1] at h2
  cases h2
theorem greedy {v lev : Nat} : ∀ (n d : Nat) (rest out : List Int), rest.length ≤ 4096 → Div v lev rest n → n ≤ d → ∃ o : List Int, cutsR v lev d rest out = (out ++ o, 0) ∧ o.length ≤ n := by
  intro n
  induction n using Nat.strongRecOn with
  | _ n ih =>
    intro d rest out hl h hd
    cases h with
    | nil =>
      refine ⟨[], ?_, Nat.le_refl _⟩
      cases d <;> (unfold cutsR; rw [if_pos (show ([] : List Int).length = 0 from rfl)]; simp)
    | cons _ k n hk hkl hf h =>
      obtain ⟨d, rfl⟩ : ∃ e, d = e + 1 := ⟨d - 1, by omega⟩
      have hge := part_ge hl hkl hf
      have hle : partS v lev rest ≤ rest.length := (bsearch_le _ _ _ _ (Nat.zero_le _)).2
      obtain ⟨n', h1, h2⟩ := h.drop (by rw [List.length_drop]; omega) (partS v lev rest - k)
      rw [List.drop_drop, show k + (partS v lev rest - k) = partS v lev rest by omega] at h2
      obtain ⟨o, h3, h4⟩ := ih n' (by omega) d (rest.drop (partS v lev rest)) (out ++ [((partS v lev rest : Nat) : Int)]) (by rw [List.length_drop]; omega) h2 (by omega)
      unfold cutsR
      rw [if_neg (by omega), if_neg (by omega), h3]
      exact ⟨[((partS v lev rest : Nat) : Int)] ++ o, by simp, by simp; omega⟩
theorem cuts_min {v lev : Nat} {l : List Int} (hl : l.length ≤ 4096) {n : Nat} (hn : n ≤ 16) (h1 : 1 ≤ n) (h : Div v lev l n ∨ fitsS l v lev 0 = true) : (cutsS l v lev).2 = 0 ∧ (cutsS l v lev).1.length ≤ n := by
  unfold cutsS
  by_cases hf : fitsS l v lev 0 = true
  · rw [if_pos hf]
    exact ⟨rfl, by simpa using h1⟩
  · rw [if_neg hf]
    rcases h with h | h
    · obtain ⟨o, h2, h3⟩ := greedy n 16 l [] hl h hn
      rw [h2]
      exact ⟨rfl, by simpa using h3⟩
    · exact absurd h hf

end Go.Proofs.Ytclbjddcenkidaa.PS
namespace Go.Proofs.Ytclbjddcenkidaa.PS
open Go.RowKit Go.Proofs.YtclbjddcenkidaaW.PrintWords Go.Proofs.YtclbjddcenkidaaW.PrintLast Go.Proofs.YtclbjddcenkidaaW.PrintMore
attribute [local go_sem] max2_int min2_int max_two min_two max_three min_three max_four min_four
theorem rfits_tab : ∀ c : Nat, c < 256 → barscanref16_Fits.f 50 1 c = some (fitS 1 c) ∧ barscanref16_Fits.f 50 2 c = some (fitS 2 c) ∧ barscanref16_Fits.f 50 4 c = some (fitS 4 c) := by decide +kernel
theorem Ev.of_mono {α : Type} {f : Nat → Option α} (hm : ∀ k, LeO (f k) (f (k + 1))) {n : Nat} {r : α} (h : f n = some r) : Ev f r := by
  refine ⟨n, fun k hk => ?_⟩
  obtain ⟨d, rfl⟩ : ∃ d, k = n + d := ⟨k - n, by omega⟩
  clear hk
  induction d with
  | zero => exact h
  | succ d ih => exact hm _ _ ih
theorem rfits_ev (m c : Int) (hm : m = 1 ∨ m = 2 ∨ m = 4) (h0 : 0 ≤ c) (h1 : c < 256) : Ev (fun k => barscanref16_Fits.f k m c) (fitS m c) := by
  obtain ⟨n, rfl⟩ := Int.eq_ofNat_of_zero_le h0
  have := rfits_tab n (by omega)
  refine Ev.of_mono (n := 50) (fun k => barscanref16_Fits.mono m n k) ?_
  rcases hm with rfl | rfl | rfl
  · exact this.1
  · exact this.2.1
  · exact this.2.2
theorem rcount_tab : ∀ m ∈ [1, 2, 4], ∀ cls ∈ [0, 1, 2], barscanref16_CountBits.f 3 m cls = some ((cbN m cls : Int), 0) := by decide +kernel
theorem rmost_tab : ∀ m ∈ [1, 2, 4], ∀ cls ∈ [0, 1, 2], barscanref16_most.f 3 m cls = some (mostN m cls : Int) := by decide +kernel
theorem mem3 {m : Int} (hm : m = 1 ∨ m = 2 ∨ m = 4) : m ∈ [(1 : Int), 2, 4] := by rcases hm with rfl | rfl | rfl <;> decide
theorem memc {cls : Int} (h0 : 0 ≤ cls) (h2 : cls ≤ 2) : cls ∈ [(0 : Int), 1, 2] := by rcases (by omega : cls = 0 ∨ cls = 1 ∨ cls = 2) with rfl | rfl | rfl <;> decide
theorem rmost_ev (m cls : Int) (hm : m = 1 ∨ m = 2 ∨ m = 4) (h0 : 0 ≤ cls) (h2 : cls ≤ 2) : Ev (fun k => barscanref16_most.f k m cls) (mostN m cls : Int) :=
  Ev.of_mono (n := 3) (fun k => barscanref16_most.mono m cls k) (rmost_tab m (mem3 hm) cls (memc h0 h2))
theorem rdata_eq (m : Int) (k : Nat) (hm : m = 1 ∨ m = 2 ∨ m = 4) (hk : k ≤ 4096) : barscanref16_Data.f m k = some (dbN m k : Int) := by
  unfold barscanref16_Data.f dbN
  rcases hm with rfl | rfl | rfl
  · have e1 : Int.tdiv (k : Int) 3 = ((k / 3 : Nat) : Int) := by rw [Int.tdiv_eq_ediv_of_nonneg (by omega)]; omega
    have e2 : Int.tmod (k : Int) 3 = ((k % 3 : Nat) : Int) := by rw [Int.tmod_eq_emod_of_nonneg (by omega)]; omega
    have e3 : wrap64 ((k / 3 : Nat) : Int) = ((k / 3 : Nat) : Int) := w64 (by omega) (by omega)
    have e4 : wrap64 (((k / 3 : Nat) : Int) * 10) = ((k / 3 : Nat) : Int) * 10 := w64 (by omega) (by omega)
    have hk3 : k / 3 ≤ 2000 := by omega
    rw [if_pos rfl, if_pos rfl, e1, e2, e3, e4]
    rcases (by omega : k % 3 = 0 ∨ k % 3 = 1 ∨ k % 3 = 2) with h | h | h <;> rw [h]
    · have a1 : wrap64 (((0 : Nat) : Int) * 3) = 0 := by decide +kernel
      have a2 : wrap64 (Int.tdiv (wrap64 (((0 : Nat) : Int) + 1)) 2) = 0 := by decide +kernel
      rw [a1, a2, w64 (x := ((k / 3 : Nat) : Int) * 10 + 0) (by omega) (by omega), w64 (by omega) (by omega)]
      simp
    · have a1 : wrap64 (((1 : Nat) : Int) * 3) = 3 := by decide +kernel
      have a2 : wrap64 (Int.tdiv (wrap64 (((1 : Nat) : Int) + 1)) 2) = 1 := by decide +kernel
      rw [a1, a2, w64 (x := ((k / 3 : Nat) : Int) * 10 + 3) (by omega) (by omega), w64 (by omega) (by omega)]
      simp
      omega
    · have a1 : wrap64 (((2 : Nat) : Int) * 3) = 6 := by decide +kernel
      have a2 : wrap64 (Int.tdiv (wrap64 (((2 : Nat) : Int) + 1)) 2) = 1 := by decide +kernel
      rw [a1, a2, w64 (x := ((k / 3 : Nat) : Int) * 10 + 6) (by omega) (by omega), w64 (by omega) (by omega)]
      simp
      omega
  · have e1 : Int.tdiv (k : Int) 2 = ((k / 2 : Nat) : Int) := by rw [Int.tdiv_eq_ediv_of_nonneg (by omega)]; omega
    have e2 : Int.tmod (k : Int) 2 = ((k % 2 : Nat) : Int) := by rw [Int.tmod_eq_emod_of_nonneg (by omega)]; omega
    have e3 : wrap64 ((k / 2 : Nat) : Int) = ((k / 2 : Nat) : Int) := w64 (by omega) (by omega)
    have e4 : wrap64 (((k / 2 : Nat) : Int) * 11) = ((k / 2 : Nat) : Int) * 11 := w64 (by omega) (by omega)
    have hk3 : k / 2 ≤ 3000 := by omega
    rw [if_neg (by decide), if_pos rfl, if_neg (by decide), if_pos rfl, e1, e2, e3, e4]
    rcases (by omega : k % 2 = 0 ∨ k % 2 = 1) with h | h <;> rw [h]
    · have a1 : wrap64 (((0 : Nat) : Int) * 6) = 0 := by decide +kernel
      rw [a1, w64 (by omega) (by omega)]
      simp
    · have a1 : wrap64 (((1 : Nat) : Int) * 6) = 6 := by decide +kernel
      rw [a1, w64 (by omega) (by omega)]
      simp
  · rw [if_neg (by decide), if_neg (by decide), if_neg (by decide), if_neg (by decide), w64 (by omega) (by omega)]
    simp
theorem rsize_ev (m cls : Int) (k : Nat) (hm : m = 1 ∨ m = 2 ∨ m = 4) (h0 : 0 ≤ cls) (h2 : cls ≤ 2) (hk : k ≤ 4096) : Ev (fun f => barscanref16_size.f f m cls k) (4 + (cbN m cls : Int) + dbN m k) := by
  have hc : Ev (fun f => barscanref16_CountBits.f f m cls) ((cbN m cls : Int), 0) := Ev.of_mono (n := 3) (fun k => barscanref16_CountBits.mono m cls k) (rcount_tab m (mem3 hm) cls (memc h0 h2))
  have hcl := cbN_le m cls h0 h2
  have hdl := dbN_le m k
  have e1 : wrap64 (4 + (cbN m cls : Int)) = 4 + cbN m cls := w64 (by omega) (by omega)
  have e2 : wrap64 (4 + (cbN m cls : Int) + dbN m k) = 4 + (cbN m cls : Int) + dbN m k := w64 (by omega) (by omega)
  unfold barscanref16_size.f
  refine Ev.bind (g := fun f => barscanref16_CountBits.f f m cls) hc ?_
  rw [rdata_eq m k hm hk]
  simp only [Option.bind_some, e1, e2]
  exact Ev.now _
theorem rbetter_eq (a b : S106) : barscanref16_better.f a.f0 a.f1 a.f2 a.f3 b.f0 b.f1 b.f2 b.f3 = some (betS a b) := by
  unfold barscanref16_better.f betS
  split
  · split
    · split <;> rfl
    · rfl
  · rfl
def to98 (p : S106) : S98 := ⟨p.f0, p.f1, p.f2, p.f3⟩
def e98 (p : S106) : S98 := if p.f2 = 0 then ⟨0, 0, 0, 0⟩ else to98 p

end Go.Proofs.Ytclbjddcenkidaa.PS
