-- Texts of this claim, merged by the prover's program (wip/tools/trim.py); theorems that no proof uses are left out.
import Derived.Test.YtclbjddcenkidaaKD4
import Derived.Test.YtclbjddcenkidaaKD2
import Derived.Test.YtclbjddcenkidaaKD3
import Derived.Deep.Slices
import Derived.ChangeArms
set_option linter.unusedVariables false
set_option linter.unusedSimpArgs false
namespace Go.Proofs.Ytclbjddcenkidaa.PS
open Go.RowKit Go.Proofs.YtclbjddcenkidaaW.PrintWords Go.Proofs.YtclbjddcenkidaaW.PrintLast Go.Proofs.YtclbjddcenkidaaW.PrintMore
attribute [local go_sem] max2_int min2_int max_two min_two max_three min_three max_four min_four   -- for this text's walks alone

def qrversion_level.f (a0 : Int) (a1 : Int) : Option (Int) := (qrversion_valid.f a0).bind fun t103 => (if t103 = true then (if a1 < 1 then (some 15) else (if a1 > 4 then (some 15) else (some 0))) else (some 14))
set_option maxHeartbeats 8000000 in
set_option maxRecDepth 100000 in
theorem qrversion_level.calls (a0 : Int) (a1 : Int) (r : Int) (w : World) (h : qrversion_level.f a0 a1 = some r) :
  Calls Try.prog 32 #[.int .i64 a0, .int .i64 a1] w fun e w' => e = .returned (.int .i64 r) ∧ Drawn0 w w' := by
 have H : ((qrversion_valid.f a0).bind fun t103 => (if t103 = true then (if a1 < 1 then (some 15) else (if a1 > 4 then (some 15) else (some 0))) else (some 14))) = some r := h
 clear h
 replace H := Option.bind_eq_some_iff.mp H
 obtain ⟨t103, A30, H⟩ := H
 replace H : (if t103 = true then (if a1 < 1 then (some 15) else (if a1 > 4 then (some 15) else (some 0))) else (some 14)) = some r := H
 have A3 := Aside0.mk A30
 clear A30
 by_cases c4 : t103 = true
 ·subst c4
  have H1 : (if a1 < 1 then (some 15) else (if a1 > 4 then (some 15) else (some 0))) = some r := by rw [if_pos rfl] at H; exact H
  clear H
  have H := H1
  clear H1
  by_cases c5 : a1 < 1
  ·rw [if_pos c5] at H
   have c5b0 : decide (a1 < 1) = true := decide_eq_true c5
   clear c5
   obtain rfl := Option.some.inj H
   go_enter Try.func32, Try.ntmps32
   go_wp2_with (first | ((with_reducible refine gate_callee (f := 45) rfl ?_); refine goesL_ (some 7) rfl rfl Try.func45 (by kernel_rfl) rfl #[.int .i64 a0] rfl (by (try simp only [List.map_toArray, List.map_cons, List.map_nil]); first | done | rfl | (simp only [List.length_drop, List.length_take]; rfl)) ?_; (with_reducible refine (qrversion_valid.calls a0 true _ A3.out).mono ?_); rintro e w' ⟨rfl, ⟨nd, rfl⟩⟩; refine ⟨_, rfl, ?_⟩))
   go_ret
   exact ⟨by first | rfl | (simp; done) | (simp [*]; done), by repeat (first | exact Drawn0.refl _ | apply Drawn0.step)⟩
  ·rw [if_neg c5] at H
   have c5b0 : decide (a1 < 1) = false := decide_eq_false c5
   clear c5
   by_cases c6 : a1 > 4
   ·rw [if_pos c6] at H
    have c6b0 : decide (4 < a1) = true := decide_eq_true c6
    clear c6
    obtain rfl := Option.some.inj H
    go_enter Try.func32, Try.ntmps32
    go_wp2_with (first | ((with_reducible refine gate_callee (f := 45) rfl ?_); refine goesL_ (some 7) rfl rfl Try.func45 (by kernel_rfl) rfl #[.int .i64 a0] rfl (by (try simp only [List.map_toArray, List.map_cons, List.map_nil]); first | done | rfl | (simp only [List.length_drop, List.length_take]; rfl)) ?_; (with_reducible refine (qrversion_valid.calls a0 true _ A3.out).mono ?_); rintro e w' ⟨rfl, ⟨nd, rfl⟩⟩; refine ⟨_, rfl, ?_⟩))
    go_ret
    exact ⟨by first | rfl | (simp; done) | (simp [*]; done), by repeat (first | exact Drawn0.refl _ | apply Drawn0.step)⟩
   ·rw [if_neg c6] at H
    have c6b0 : decide (4 < a1) = false := decide_eq_false c6
    clear c6
    obtain rfl := Option.some.inj H
    go_enter Try.func32, Try.ntmps32
    go_wp2_with (first | ((with_reducible refine gate_callee (f := 45) rfl ?_); refine goesL_ (some 7) rfl rfl Try.func45 (by kernel_rfl) rfl #[.int .i64 a0] rfl (by (try simp only [List.map_toArray, List.map_cons, List.map_nil]); first | done | rfl | (simp only [List.length_drop, List.length_take]; rfl)) ?_; (with_reducible refine (qrversion_valid.calls a0 true _ A3.out).mono ?_); rintro e w' ⟨rfl, ⟨nd, rfl⟩⟩; refine ⟨_, rfl, ?_⟩))
    go_ret
    exact ⟨by first | rfl | (simp; done) | (simp [*]; done), by repeat (first | exact Drawn0.refl _ | apply Drawn0.step)⟩
 ·replace c4 := Bool.eq_false_iff.mpr c4
  subst c4
  have H1 : (some 14) = some r := by rw [if_neg (show ¬ (false = true) by decide)] at H; exact H
  clear H
  have H := H1
  clear H1
  obtain rfl := Option.some.inj H
  go_enter Try.func32, Try.ntmps32
  go_wp2_with (first | ((with_reducible refine gate_callee (f := 45) rfl ?_); refine goesL_ (some 7) rfl rfl Try.func45 (by kernel_rfl) rfl #[.int .i64 a0] rfl (by (try simp only [List.map_toArray, List.map_cons, List.map_nil]); first | done | rfl | (simp only [List.length_drop, List.length_take]; rfl)) ?_; (with_reducible refine (qrversion_valid.calls a0 false _ A3.out).mono ?_); rintro e w' ⟨rfl, ⟨nd, rfl⟩⟩; refine ⟨_, rfl, ?_⟩))
  go_ret
  exact ⟨by first | rfl | (simp; done) | (simp [*]; done), by repeat (first | exact Drawn0.refl _ | apply Drawn0.step)⟩

end Go.Proofs.Ytclbjddcenkidaa.PS
namespace Go.Proofs.Ytclbjddcenkidaa.PS
open Go.RowKit Go.Proofs.YtclbjddcenkidaaW.PrintWords Go.Proofs.YtclbjddcenkidaaW.PrintLast Go.Proofs.YtclbjddcenkidaaW.PrintMore
attribute [local go_sem] max2_int min2_int max_two min_two max_three min_three max_four min_four   -- for this text's walks alone

/-- the table's rows: codewords, remainder, four checks, four blocks -/
def qrTab : List (List Int) := [
 [26, 0, 7, 10, 13, 17, 1, 1, 1, 1], [44, 7, 10, 16, 22, 28, 1, 1, 1, 1], [70, 7, 15, 26, 18, 22, 1, 1, 2, 2], [100, 7, 20, 18, 26, 16, 1, 2, 2, 4],
 [134, 7, 26, 24, 18, 22, 1, 2, 4, 4], [172, 7, 18, 16, 24, 28, 2, 4, 4, 4], [196, 0, 20, 18, 18, 26, 2, 4, 6, 5], [242, 0, 24, 22, 22, 26, 2, 4, 6, 6],
 [292, 0, 30, 22, 20, 24, 2, 5, 8, 8], [346, 0, 18, 26, 24, 28, 4, 5, 8, 8], [404, 0, 20, 30, 28, 24, 4, 5, 8, 11], [466, 0, 24, 22, 26, 28, 4, 8, 10, 11],
 [532, 0, 26, 22, 24, 22, 4, 9, 12, 16], [581, 3, 30, 24, 20, 24, 4, 9, 16, 16], [655, 3, 22, 24, 30, 24, 6, 10, 12, 18], [733, 3, 24, 28, 24, 30, 6, 10, 17, 16],
 [815, 3, 28, 28, 28, 28, 6, 11, 16, 19], [901, 3, 30, 26, 28, 28, 6, 13, 18, 21], [991, 3, 28, 26, 26, 26, 7, 14, 21, 25], [1085, 3, 28, 26, 30, 28, 8, 16, 20, 25],
 [1156, 4, 28, 26, 28, 30, 8, 17, 23, 25], [1258, 4, 28, 28, 30, 24, 9, 17, 23, 34], [1364, 4, 30, 28, 30, 30, 9, 18, 25, 30], [1474, 4, 30, 28, 30, 30, 10, 20, 27, 32],
 [1588, 4, 26, 28, 30, 30, 12, 21, 29, 35], [1706, 4, 28, 28, 28, 30, 12, 23, 34, 37], [1828, 4, 30, 28, 30, 30, 12, 25, 34, 40], [1921, 3, 30, 28, 30, 30, 13, 26, 35, 42],
 [2051, 3, 30, 28, 30, 30, 14, 28, 38, 45], [2185, 3, 30, 28, 30, 30, 15, 29, 40, 48], [2323, 3, 30, 28, 30, 30, 16, 31, 43, 51], [2465, 3, 30, 28, 30, 30, 17, 33, 45, 54],
 [2611, 3, 30, 28, 30, 30, 18, 35, 48, 57], [2761, 3, 30, 28, 30, 30, 19, 37, 51, 60], [2876, 0, 30, 28, 30, 30, 19, 38, 53, 63], [3034, 0, 30, 28, 30, 30, 20, 40, 56, 66],
 [3196, 0, 30, 28, 30, 30, 21, 43, 59, 70], [3362, 0, 30, 28, 30, 30, 22, 45, 62, 74], [3532, 0, 30, 28, 30, 30, 24, 47, 65, 77], [3706, 0, 30, 28, 30, 30, 25, 49, 68, 81]]
def qrRow (v : Nat) : List Int := qrTab.getD v []

def qrCells : Array Value := (qrTab.flatten.map (Value.int .i64)).toArray
/-- Operations that only build structs and arrays, reckoned by the kernel. -/
def bEval (P : Program) : List Oper → Act → Option Act
 | [], a => some a
 | o :: r, a => match o.guard, o.op with
  | none, .build t parts => match P.built t (parts.map fun (i, x) => (i, a.eval x)).toList with
   | some c => bEval P r (a.put o.dst (.agg c))
   | none => none
  | _, _ => none
theorem wpList_bEval {P : Program} {ops : Array Oper} {Q : Exit → Act → World → Prop} {w : World} {rest : List Oper} : ∀ (l : List Oper) (a a' : Act), bEval P l a = some a' → wpList P ops Q rest a' w → wpList P ops Q (l ++ rest) a w
 | [], a, a', h, hq => by
  simp only [bEval, Option.some.injEq] at h
  subst h
  exact hq
 | o :: r, a, a', h, hq => by
  unfold bEval at h
  split at h
  ·rename_i t parts hg ho
   split at h
   ·rename_i c hc
    refine wpList_build (rest := r ++ rest) hg t parts ho (by rw [hc]; rfl) ?_
    rw [hc]
    exact wpList_bEval r _ a' h hq
   ·cases h
  ·cases h
theorem wpList_table {P : Program} {ops : Array Oper} {Q : Exit → Act → World → Prop} {w : World} {l : List Oper} (n : Nat) (a : Act) (h : (bEval P (l.take n) a).isSome = true) (hd : l.drop n = [(l[n]?).getD default])
  (hgd : ((l[n]?).getD default).guard = none) (ty : TypeId) (x y : Operand) (ho : ((l[n]?).getD default).op = .store ty x y)
  (g : Nat) (cells : Array Value) (hx : ((bEval P (l.take n) a).getD a).eval x = .pointer (some ⟨g, 0, none⟩)) (hy : ((bEval P (l.take n) a).getD a).eval y = .agg cells)
  (t : TypeId) (old : Array Value) (hg : w.heap[g]? = some (.cells old t (0, 0))) (hi : (P.info? ty).map (·.size) = some cells.size)
  (hold : old.size = cells.size) (h1 : cells.all (·.oneCell') = true)
  (hq : Q .normal (((bEval P (l.take n) a).getD a).put ((l[n]?).getD default).dst undef) (w.setRow g cells)) : wpList P ops Q l a w := by
 obtain ⟨a', ha⟩ := Option.isSome_iff_exists.1 h
 rw [ha] at hx hy hq
 rw [← List.take_append_drop n l]
 refine wpList_bEval _ a a' ha ?_
 rw [hd]
 exact wpList_store_row hgd ty x y ho g cells hx hy t old hg hi hold h1 hq
set_option maxHeartbeats 4000000 in
set_option maxRecDepth 100000 in
theorem table_calls (w : World) : Calls Try.prog 46 #[] w fun e w' => e = .returned (.agg qrCells) ∧ Below w.heap.size w w' := by
 go_enter Try.func46, Try.ntmps46
 go_upto_region 1 with (fail)
 refine wp_region_lit ?_
 have hg := heap_alloc_new w (Obj.cells Try.zeroCells79 79)
 refine wpList_table 121 _ (by kernel_rfl) (by kernel_rfl) (by kernel_rfl) 79 (.tmp 0) (.tmp 121) (by kernel_rfl) w.heap.size qrCells (by kernel_rfl) (by kernel_rfl) 79 _ hg (by kernel_rfl) (by kernel_rfl) (by kernel_rfl) ?_
 show _
 apply_assumption
 apply wp_ret
 refine bodyPost_ret (v := .agg qrCells) ?_ (by kernel_rfl) ⟨rfl, ?_⟩
 ·exact results_cell_row (p := 0) (ty := 79) rfl _ _ w.heap.size 79 qrCells (0, 0) _ (by kernel_rfl) (setRow_heap _ _ _ _ _ _ hg) Try.underlying79 rfl (by kernel_rfl)
 ·have hb := (Below.refl w.heap.size w).alloc (Nat.le_refl _) (Obj.cells Try.zeroCells79 79)
  refine hb.trans ⟨rfl, rfl, rfl, by simp, fun i hi => ?_⟩
  exact setRow_other _ _ _ _ (by omega)
theorem qrTab_part : ∀ n, n < 40 → ((qrTab.flatten.drop (n * 10)).take 10) = qrTab.getD n [] := by decide +kernel
theorem qrRow_len : ∀ n, n < 40 → (qrRow n).length = 10 := by decide +kernel
theorem qrRow_bd : ∀ n, n < 40 → ∀ x ∈ qrRow n, 0 ≤ x ∧ x ≤ 4000 := by decide +kernel
theorem qr_index (n : Nat) (hn : n < 40) (w : World) : (Instr.index 79 (.agg qrCells) (.int .i64 (n : Int))).run Try.prog w = .ok (.agg ((qrRow n).map (Value.int .i64)).toArray) w := by
 have h1 : qrCells.extract (n * 10) (n * 10 + 10) = ((qrRow n).map (Value.int .i64)).toArray := by
  unfold qrCells qrRow
  rw [← qrTab_part n hn]
  simp [List.map_take, List.map_drop, List.drop_take]
 have ha : ∀ w, (isAgg 78).run Try.prog w = .ok true w := Try.isAgg78
 have hs : ∀ w, (sizeOf 78).run Try.prog w = .ok 10 w := Try.sizeOf78
 have hlt : (n : Int) < ((40 : Nat) : Int) := by omega
 simp [Instr.index, asIntOf, run_underlying Try.underlying79, part, ha, hs, hlt, h1, Int.toNat_natCast]
 intro h
 omega

def capV (v l : Nat) : Int := (qrRow (v - 1)).getD 0 0 - (qrRow (v - 1)).getD (l + 1) 0 * (qrRow (v - 1)).getD (l + 5) 0
/-- The number of data codewords, where there is such a version and level. -/
def qrversion_capacity.f (a0 a1 : Int) : Option Int := if 1 ≤ a0 ∧ a0 ≤ 40 ∧ 1 ≤ a1 ∧ a1 ≤ 4 then some (capV a0.toNat a1.toNat) else none
theorem list10 : ∀ l : List Int, l.length = 10 → ∃ a b c d e f g h i j, l = [a, b, c, d, e, f, g, h, i, j]
 | [a, b, c, d, e, f, g, h, i, j], _ => ⟨a, b, c, d, e, f, g, h, i, j, rfl⟩
theorem cap_row (n : Nat) (hn : n < 40) : ∃ a b c d e f g h i j : Int, qrRow n = [a, b, c, d, e, f, g, h, i, j] ∧ (0 ≤ a ∧ a ≤ 4000) ∧ (0 ≤ c ∧ c ≤ 4000) ∧ (0 ≤ d ∧ d ≤ 4000) ∧ (0 ≤ e ∧ e ≤ 4000) ∧ (0 ≤ f ∧ f ≤ 4000) ∧ (0 ≤ g ∧ g ≤ 4000) ∧ (0 ≤ h ∧ h ≤ 4000) ∧ (0 ≤ i ∧ i ≤ 4000) ∧ (0 ≤ j ∧ j ≤ 4000) := by
 obtain ⟨a, b, c, d, e, f, g, h, i, j, hl⟩ := list10 _ (qrRow_len n hn)
 have hb := qrRow_bd n hn
 rw [hl] at hb
 refine ⟨a, b, c, d, e, f, g, h, i, j, hl, ?_, ?_, ?_, ?_, ?_, ?_, ?_, ?_, ?_⟩ <;> exact hb _ (by simp)
theorem mul_bd {c g : Int} (h1 : 0 ≤ c ∧ c ≤ 4000) (h2 : 0 ≤ g ∧ g ≤ 4000) : 0 ≤ c * g ∧ c * g ≤ 16000000 := by
 refine ⟨Int.mul_nonneg h1.1 h2.1, ?_⟩
 calc c * g ≤ 4000 * g := Int.mul_le_mul_of_nonneg_right h1.2 h2.1
  _ ≤ 16000000 := by omega
set_option maxHeartbeats 2000000 in
set_option maxRecDepth 100000 in
theorem capacity_at (n l : Nat) (hn : n < 40) (hl : l < 4) (w : World) :
  Calls Try.prog 33 #[.int .i64 ((n : Int) + 1), .int .i64 ((l : Int) + 1)] w fun e w' => e = .returned (.int .i64 (capV (n + 1) (l + 1))) ∧ Below w.heap.size w w' := by
 obtain ⟨a, b, c, d, e, f, g, h, i, j, hr, ba, bc, bd, be, bf, bg, bh, bi, bj⟩ := cap_row n hn
 have hix := qr_index n hn
 rw [hr] at hix
 simp only [List.map_cons, List.map_nil] at hix
 have HR := Lib.hid hr
 clear hr
 rcases (by omega : l = 0 ∨ l = 1 ∨ l = 2 ∨ l = 3) with rfl | rfl | rfl | rfl
 ·have bm := mul_bd bc bg
  generalize hm : c * g = m at bm
  have HM := Lib.hid hm
  clear hm
  have hm2 : c * g = m := HM.out
  go_enter Try.func33, Try.ntmps33
  go_wp2_with (go_at_call 46; refine (table_calls _).mono ?_; rintro e w' ⟨rfl, hb⟩)
  go_quiet (fail)
  go_wp2
  go_ret
  refine ⟨?_, ?_⟩
  ·rw [show capV (n + 1) 1 = a - c * g by simp [capV, HR.out]]
   rw [HM.out]
   rfl
  ·exact below_then hb hb.size (((Below.refl _ _).alloc (Nat.le_refl _) _).trans (by exact pw_below_drewN (Below.refl _ _) _))
 ·have bm := mul_bd bd bh
  generalize hm : d * h = m at bm
  have HM := Lib.hid hm
  clear hm
  have hm2 : d * h = m := HM.out
  go_enter Try.func33, Try.ntmps33
  go_wp2_with (go_at_call 46; refine (table_calls _).mono ?_; rintro e w' ⟨rfl, hb⟩)
  go_quiet (fail)
  go_wp2
  go_ret
  refine ⟨?_, ?_⟩
  ·rw [show capV (n + 1) 2 = a - d * h by simp [capV, HR.out]]
   rw [HM.out]
   rfl
  ·exact below_then hb hb.size (((Below.refl _ _).alloc (Nat.le_refl _) _).trans (by exact pw_below_drewN (Below.refl _ _) _))
 ·have bm := mul_bd be bi
  generalize hm : e * i = m at bm
  have HM := Lib.hid hm
  clear hm
  have hm2 : e * i = m := HM.out
  go_enter Try.func33, Try.ntmps33
  go_wp2_with (go_at_call 46; refine (table_calls _).mono ?_; rintro e w' ⟨rfl, hb⟩)
  go_quiet (fail)
  go_wp2
  go_ret
  refine ⟨?_, ?_⟩
  ·rw [show capV (n + 1) 3 = a - e * i by simp [capV, HR.out]]
   rw [HM.out]
   rfl
  ·exact below_then hb hb.size (((Below.refl _ _).alloc (Nat.le_refl _) _).trans (by exact pw_below_drewN (Below.refl _ _) _))
 ·have bm := mul_bd bf bj
  generalize hm : f * j = m at bm
  have HM := Lib.hid hm
  clear hm
  have hm2 : f * j = m := HM.out
  go_enter Try.func33, Try.ntmps33
  go_wp2_with (go_at_call 46; refine (table_calls _).mono ?_; rintro e w' ⟨rfl, hb⟩)
  go_quiet (fail)
  go_wp2
  go_ret
  refine ⟨?_, ?_⟩
  ·rw [show capV (n + 1) 4 = a - f * j by simp [capV, HR.out]]
   rw [HM.out]
   rfl
  ·exact below_then hb hb.size (((Below.refl _ _).alloc (Nat.le_refl _) _).trans (by exact pw_below_drewN (Below.refl _ _) _))
theorem qrversion_capacity.calls (a0 : Int) (a1 : Int) (r : Int) (w : World) (h : qrversion_capacity.f a0 a1 = some r) :
  Calls Try.prog 33 #[.int .i64 a0, .int .i64 a1] w fun e w' => e = .returned (.int .i64 r) ∧ Below w.heap.size w w' := by
 unfold qrversion_capacity.f at h
 split at h
 ·rename_i hc
  obtain ⟨h1, h2, h3, h4⟩ := hc
  obtain rfl := Option.some.inj h
  obtain ⟨n, rfl⟩ : ∃ n : Nat, a0 = (n : Int) + 1 := ⟨(a0 - 1).toNat, by omega⟩
  obtain ⟨l, rfl⟩ : ∃ l : Nat, a1 = (l : Int) + 1 := ⟨(a1 - 1).toNat, by omega⟩
  rw [show ((n : Int) + 1).toNat = n + 1 by omega, show ((l : Int) + 1).toNat = l + 1 by omega]
  exact capacity_at n l (by omega) (by omega) w
 ·cases h

end Go.Proofs.Ytclbjddcenkidaa.PS
namespace Go.Proofs.Ytclbjddcenkidaa.PS
open Go.RowKit Go.Proofs.YtclbjddcenkidaaW.PrintWords Go.Proofs.YtclbjddcenkidaaW.PrintLast Go.Proofs.YtclbjddcenkidaaW.PrintMore
attribute [local go_sem] max2_int min2_int max_two min_two max_three min_three max_four min_four   -- for this text's walks alone

def modes_Class.j0 : Nat → Int → Bool → Option (Int × Int)
 | 0, _, _ => none
 | k + 1, x0, x4 => if x4 = true then (some (0, 14)) else (if x0 ≤ 9 then (some (0, 0)) else (if x0 ≤ 26 then (some (1, 0)) else (some (2, 0))))
def modes_Class.f (k : Nat) (a0 : Int) : Option (Int × Int) := if a0 < 1 then (modes_Class.j0 k a0 true) else (modes_Class.j0 k a0 (decide (a0 > 40)))
theorem modes_Class.mono_l : ∀ k, (∀ y0 y1, LeO (modes_Class.j0 k y0 y1) (modes_Class.j0 (k + 1) y0 y1))
 | 0 => fun _ _ r h => by simp [modes_Class.j0] at h
 | k + 1 => by
  have ih0 := modes_Class.mono_l k
  ·intro y0 y1
   unfold modes_Class.j0
   repeat' first
   | (with_reducible exact ih0 _ _)
   | (with_reducible exact LeO.refl _)
   | (with_reducible exact LeO.none _)
   | (with_reducible refine LeO.ite ?_ ?_)
   | (with_reducible refine LeO.bind ?_ (fun _ => ?_))
   | exact ih0 _ _
   | exact LeO.none _
   | refine LeO.ite ?_ ?_
   | refine LeO.bind ?_ (fun _ => ?_)
theorem modes_Class.mono : ∀ a0 k, LeO (modes_Class.f k a0) (modes_Class.f (k + 1) a0) := by
 intro a0 k
 have ih0 := modes_Class.mono_l k
 unfold modes_Class.f
 repeat' first
   | (with_reducible exact ih0 _ _)
   | (with_reducible exact LeO.refl _)
   | (with_reducible exact LeO.none _)
   | (with_reducible refine LeO.ite ?_ ?_)
   | (with_reducible refine LeO.bind ?_ (fun _ => ?_))
   | exact ih0 _ _
   | exact LeO.none _
   | refine LeO.ite ?_ ?_
   | refine LeO.bind ?_ (fun _ => ?_)
set_option maxHeartbeats 8000000 in
set_option maxRecDepth 100000 in
theorem modes_Class.calls (k : Nat) (a0 : Int) (r1 : Int) (r2 : Int) (w : World) (h : modes_Class.f k a0 = some (r1, r2)) :
  Calls Try.prog 47 #[.int .i64 a0] w fun e w' => e = .returned (.tuple #[.int .i64 r1, .int .i64 r2]) ∧ Drawn0 w w' := by
 have H : (if a0 < 1 then (modes_Class.j0 k a0 true) else (modes_Class.j0 k a0 (decide (a0 > 40)))) = some (r1, r2) := h
 clear h
 have HC2 := Aside0.mk H
 clear H
 go_enter Try.func47, Try.ntmps47
 go_upto_region 1 with (fail)
 go_cut [4] (fun v4 wc => ∃ (kq : Nat) (x4_1 : Bool), v4 = .bool x4_1 ∧ Aside0 (modes_Class.j0 kq a0 x4_1 = some (r1, r2)) ∧ Aside0 (kq ≤ k) ∧ Drawn0 w wc)
 case first =>
  have H := HC2.out
  clear HC2
  by_cases c3 : a0 < 1
  ·rw [if_pos c3] at H
   have c3b0 : decide (a0 < 1) = true := decide_eq_true c3
   clear c3
   (first | rw [c3b0] | (simp only [i64_w, i32_w]; rw [c3b0]) | skip)
   have H' := Aside0.mk H
   clear H
   go_wp2
   go_meet
   case rel => exact ⟨_, (true), (by first | rfl | (simp; done) | (simp [*]; done)), H', ⟨by first | omega | exact Nat.le_refl _⟩, by repeat (first | exact Drawn0.refl _ | apply Drawn0.step)⟩
  ·rw [if_neg c3] at H
   have c3b0 : decide (a0 < 1) = false := decide_eq_false c3
   clear c3
   (first | rw [c3b0] | (simp only [i64_w, i32_w]; rw [c3b0]) | skip)
   have H' := Aside0.mk H
   clear H
   go_wp2
   go_meet
   case rel => exact ⟨_, (decide (a0 > 40)), (by first | rfl | (simp; done) | (simp [*]; done)), H', ⟨by first | omega | exact Nat.le_refl _⟩, by repeat (first | exact Drawn0.refl _ | apply Drawn0.step)⟩
 case rest =>
  clear HC2
  try clear p2
  try clear c3
  try clear c3b0
  obtain ⟨kq, x4_1, rfl, HA, HJ1, ⟨mc1, rfl⟩⟩ := hcut
  cases kq with
  | zero => exact absurd HA.out (by simp [modes_Class.j0])
  | succ kj1 =>
   have H := HA.out
   clear HA
   simp only [modes_Class.j0] at H
   by_cases c4 : x4_1 = true
   ·subst c4
    have H1 : (some (0, 14)) = some (r1, r2) := by rw [if_pos rfl] at H; exact H
    clear H
    have H := H1
    clear H1
    simp only [Option.some.injEq, Prod.mk.injEq] at H
    obtain ⟨rfl, rfl⟩ := H
    go_wp2
    go_ret2
    exact ⟨by first | rfl | (simp; done) | (simp [*]; done), by repeat (first | exact Drawn0.refl _ | apply Drawn0.step)⟩
   ·replace c4 := Bool.eq_false_iff.mpr c4
    subst c4
    have H1 : (if a0 ≤ 9 then (some (0, 0)) else (if a0 ≤ 26 then (some (1, 0)) else (some (2, 0)))) = some (r1, r2) := by rw [if_neg (show ¬ (false = true) by decide)] at H; exact H
    clear H
    have H := H1
    clear H1
    by_cases c5 : a0 ≤ 9
    ·rw [if_pos c5] at H
     have c5b0 : decide (a0 ≤ 9) = true := decide_eq_true c5
     clear c5
     simp only [Option.some.injEq, Prod.mk.injEq] at H
     obtain ⟨rfl, rfl⟩ := H
     go_wp2
     go_ret2
     exact ⟨by first | rfl | (simp; done) | (simp [*]; done), by repeat (first | exact Drawn0.refl _ | apply Drawn0.step)⟩
    ·rw [if_neg c5] at H
     have c5b0 : decide (a0 ≤ 9) = false := decide_eq_false c5
     clear c5
     by_cases c6 : a0 ≤ 26
     ·rw [if_pos c6] at H
      have c6b0 : decide (a0 ≤ 26) = true := decide_eq_true c6
      clear c6
      simp only [Option.some.injEq, Prod.mk.injEq] at H
      obtain ⟨rfl, rfl⟩ := H
      go_wp2
      go_ret2
      exact ⟨by first | rfl | (simp; done) | (simp [*]; done), by repeat (first | exact Drawn0.refl _ | apply Drawn0.step)⟩
     ·rw [if_neg c6] at H
      have c6b0 : decide (a0 ≤ 26) = false := decide_eq_false c6
      clear c6
      simp only [Option.some.injEq, Prod.mk.injEq] at H
      obtain ⟨rfl, rfl⟩ := H
      go_wp2
      go_ret2
      exact ⟨by first | rfl | (simp; done) | (simp [*]; done), by repeat (first | exact Drawn0.refl _ | apply Drawn0.step)⟩

end Go.Proofs.Ytclbjddcenkidaa.PS
namespace Go.Proofs.Ytclbjddcenkidaa.PS
open Go.RowKit Go.Proofs.YtclbjddcenkidaaW.PrintWords Go.Proofs.YtclbjddcenkidaaW.PrintLast Go.Proofs.YtclbjddcenkidaaW.PrintMore
attribute [local go_sem] max2_int min2_int max_two min_two max_three min_three max_four min_four   -- for this text's walks alone

def qrversion_Smallest.l0 : Nat → List Int → Int → Int → Int → List (S54) → Int → Int → Option (Int × (List (S54)) × Int)
 | 0, _, _, _, _, _, _, _ => none
 | k + 1, x0, x1, x2, x10, x11, x12, x13 => if x13 ≤ 40 then ((modes_Class.f k x13).bind fun bt159 => (if bt159.1 = x10 then ((qrversion_capacity.f x13 x1).bind fun t161 => (if x12 ≤ (wrap64 (8 * t161)) then (if x2 ≤ (wrap64 ((wrap64 (8 * t161)) - x12)) then (some (x13, x11, 0)) else (qrversion_Smallest.l0 k x0 x1 x2 x10 x11 x12 (wrap64 (x13 + 1)))) else (qrversion_Smallest.l0 k x0 x1 x2 x10 x11 x12 (wrap64 (x13 + 1))))) else ((modes_Best.f k x0 bt159.1).bind fun bt162 => (if bt162.2.2 = 0 then ((qrversion_capacity.f x13 x1).bind fun t167 => (if bt162.2.1 ≤ (wrap64 (8 * t167)) then (if x2 ≤ (wrap64 ((wrap64 (8 * t167)) - bt162.2.1)) then (some (x13, bt162.1, 0)) else (qrversion_Smallest.l0 k x0 x1 x2 bt159.1 bt162.1 bt162.2.1 (wrap64 (x13 + 1)))) else (qrversion_Smallest.l0 k x0 x1 x2 bt159.1 bt162.1 bt162.2.1 (wrap64 (x13 + 1))))) else (some (0, ([] : List (S54)), bt162.2.2)))))) else (some (0, ([] : List (S54)), 16))
def qrversion_Smallest.f (k : Nat) (l0 : List Int) (a1 : Int) (a2 : Int) : Option (Int × (List (S54)) × Int) := (qrversion_level.f 1 a1).bind fun t158 => (if t158 = 0 then (if a2 < 0 then (some (0, ([] : List (S54)), 3)) else (qrversion_Smallest.l0 k l0 a1 a2 (-1) ([] : List (S54)) 0 1)) else (some (0, ([] : List (S54)), t158)))
theorem qrversion_Smallest.mono_l : ∀ k, (∀ y0 y1 y2 y3 y4 y5 y6, LeO (qrversion_Smallest.l0 k y0 y1 y2 y3 y4 y5 y6) (qrversion_Smallest.l0 (k + 1) y0 y1 y2 y3 y4 y5 y6))
 | 0 => fun _ _ _ _ _ _ _ r h => by simp [qrversion_Smallest.l0] at h
 | k + 1 => by
  have ih0 := qrversion_Smallest.mono_l k
  ·intro y0 y1 y2 y3 y4 y5 y6
   unfold qrversion_Smallest.l0
   repeat' first
   | (with_reducible exact ih0 _ _ _ _ _ _ _)
   | (with_reducible exact modes_Best.mono _ _ _)
   | (with_reducible exact modes_Class.mono _ _)
   | (with_reducible exact LeO.refl _)
   | (with_reducible exact LeO.none _)
   | (with_reducible refine LeO.ite ?_ ?_)
   | (with_reducible refine LeO.bind ?_ (fun _ => ?_))
   | exact ih0 _ _ _ _ _ _ _
   | exact modes_Best.mono _ _ _
   | exact modes_Class.mono _ _
   | exact LeO.none _
   | refine LeO.ite ?_ ?_
   | refine LeO.bind ?_ (fun _ => ?_)
theorem qrversion_Smallest.mono : ∀ a0 a1 a2 k, LeO (qrversion_Smallest.f k a0 a1 a2) (qrversion_Smallest.f (k + 1) a0 a1 a2) := by
 intro a0 a1 a2 k
 have ih0 := qrversion_Smallest.mono_l k
 unfold qrversion_Smallest.f
 repeat' first
   | (with_reducible exact ih0 _ _ _ _ _ _ _)
   | (with_reducible exact modes_Best.mono _ _ _)
   | (with_reducible exact modes_Class.mono _ _)
   | (with_reducible exact LeO.refl _)
   | (with_reducible exact LeO.none _)
   | (with_reducible refine LeO.ite ?_ ?_)
   | (with_reducible refine LeO.bind ?_ (fun _ => ?_))
   | exact ih0 _ _ _ _ _ _ _
   | exact modes_Best.mono _ _ _
   | exact modes_Class.mono _ _
   | exact LeO.none _
   | refine LeO.ite ?_ ?_
   | refine LeO.bind ?_ (fun _ => ?_)
set_option maxHeartbeats 8000000 in
set_option maxRecDepth 100000 in
theorem qrversion_Smallest.calls (k : Nat) (A0 : Option Addr) (c0 : Nat) (l0 : List Int) (a1 : Int) (a2 : Int) (r1 : Int) (r2 : List (S54)) (r3 : Int) (w : World) (hr0 : Kd.C (Kd.int .u8) w A0 l0.length l0) (hc0 : l0.length ≤ c0) (h : qrversion_Smallest.f k l0 a1 a2 = some (r1, r2, r3)) :
  Calls Try.prog 34 #[.slice A0 l0.length c0, .int .i64 a1, .int .i64 a2] w fun e w' => ∃ v1_ : Value, e = .returned (.tuple #[.int .i64 r1, v1_, .int .i64 r3]) ∧ Kd.N k54 54 w' w.heap.size (fun k_ => (w.heap.size ≤ k_)) v1_ r2 ∧ Below w.heap.size w w' := by
 have HR0 := Aside0.mk hr0
 have HC0 := Aside0.mk hc0
 clear hr0 hc0
 have HB := Aside0.mk (Below.refl w.heap.size w)
 have H : ((qrversion_level.f 1 a1).bind fun t158 => (if t158 = 0 then (if a2 < 0 then (some (0, ([] : List (S54)), 3)) else (qrversion_Smallest.l0 k l0 a1 a2 (-1) ([] : List (S54)) 0 1)) else (some (0, ([] : List (S54)), t158)))) = some (r1, r2, r3) := h
 clear h
 replace H := Option.bind_eq_some_iff.mp H
 obtain ⟨t158, A40, H⟩ := H
 replace H : (if t158 = 0 then (if a2 < 0 then (some (0, ([] : List (S54)), 3)) else (qrversion_Smallest.l0 k l0 a1 a2 (-1) ([] : List (S54)) 0 1)) else (some (0, ([] : List (S54)), t158))) = some (r1, r2, r3) := H
 have A4 := Aside0.mk A40
 clear A40
 by_cases c5 : t158 = 0
 ·rw [if_pos c5] at H
  have c5b0 : (t158 == 0) = true := beq_iff_eq.mpr c5
  have c5b1 : (t158 != 0) = false := bne_eq_false_iff_eq.mpr c5
  clear c5
  by_cases c6 : a2 < 0
  ·rw [if_pos c6] at H
   have c6b0 : decide (a2 < 0) = true := decide_eq_true c6
   clear c6
   simp only [Option.some.injEq, Prod.mk.injEq] at H
   obtain ⟨rfl, rfl, rfl⟩ := H
   go_enter Try.func34, Try.ntmps34
   go_wp2_with (first | ((with_reducible refine gate_callee (f := 32) rfl ?_); refine goesL_ (some 21) rfl rfl Try.func32 (by kernel_rfl) rfl #[.int .i64 1, .int .i64 a1] rfl (by (try simp only [List.map_toArray, List.map_cons, List.map_nil]); first | done | rfl | (simp only [List.length_drop, List.length_take]; rfl)) ?_; (with_reducible refine (qrversion_level.calls 1 a1 t158 _ A4.out).mono ?_); rintro e w' ⟨rfl, ⟨nd, rfl⟩⟩; refine ⟨_, rfl, ?_⟩))
   go_ret3
   exact ⟨_, by first | rfl | (simp [errW_none, errW_some] <;> rfl) | (simp [*, errW_none, errW_some] <;> rfl), by first | exact Kd.S_nil _ _ _ _ _ | exact Kd.N_nil _ _ _ _ _ | exact Kd.V_nil _ _ _ _ _ | exact Kd.Q_nil _ _ _ _ _ | exact Kd.R_nil _ _ _ _ _, by repeat (first | (with_reducible first | exact HB.out | apply below_alloc | apply pw_below_drewN | apply below_drew1) | exact HB.out)⟩
  ·rw [if_neg c6] at H
   have c6b0 : decide (a2 < 0) = false := decide_eq_false c6
   clear c6
   have H' := Aside0.mk H
   clear H
   go_enter Try.func34, Try.ntmps34
   go_wp2_with (first | ((with_reducible refine gate_callee (f := 32) rfl ?_); refine goesL_ (some 21) rfl rfl Try.func32 (by kernel_rfl) rfl #[.int .i64 1, .int .i64 a1] rfl (by (try simp only [List.map_toArray, List.map_cons, List.map_nil]); first | done | rfl | (simp only [List.length_drop, List.length_take]; rfl)) ?_; (with_reducible refine (qrversion_level.calls 1 a1 t158 _ A4.out).mono ?_); rintro e w' ⟨rfl, ⟨nd, rfl⟩⟩; refine ⟨_, rfl, ?_⟩))
   go_loopg [10, 11, 12, 13] k (fun kq v10 v11 v12 v13 w' => ∃ (x10_1 : Int) (x11_1 : List (S54)) (x12_1 : Int) (x13_1 : Int), v10 = .int .i64 x10_1 ∧ v12 = .int .i64 x12_1 ∧ v13 = .int .i64 x13_1 ∧ Aside0 (qrversion_Smallest.l0 kq l0 a1 a2 x10_1 x11_1 x12_1 x13_1 = some (r1, r2, r3)) ∧ Aside0 (kq ≤ k) ∧ Aside0 (Kd.N k54 54 w' w.heap.size (fun k_ => (w.heap.size ≤ k_)) v11 x11_1) ∧ Aside0 (Below w.heap.size w w'))
   case atStart => exact ⟨((-1)), (([] : List (S54))), (0), (1), (by first | rfl | (simp; done) | (simp [*]; done)), (by first | rfl | (simp; done) | (simp [*]; done)), (by first | rfl | (simp; done) | (simp [*]; done)), H', ⟨Nat.le_refl _⟩, ⟨by first | exact Kd.S_nil _ _ _ _ _ | exact Kd.N_nil _ _ _ _ _ | exact Kd.V_nil _ _ _ _ _ | exact Kd.Q_nil _ _ _ _ _ | exact Kd.R_nil _ _ _ _ _⟩, ⟨by repeat (first | (with_reducible first | exact HB.out | apply below_alloc | apply pw_below_drewN | apply below_drew1) | exact HB.out)⟩⟩
   case round =>
    clear H'
    try clear p2
    try clear c3
    try clear c5
    try clear c5b0
    try clear c5b1
    try clear c6
    try clear c6b0
    obtain ⟨x10_1, x11_1, x12_1, x13_1, rfl, rfl, rfl, HA, HK1, HO_11, HB⟩ := hrel
    cases gk with
    | zero => exact absurd HA.out (by simp [qrversion_Smallest.l0])
    | succ k1 =>
     have H := HA.out
     clear HA
     simp only [qrversion_Smallest.l0] at H
     by_cases c7 : x13_1 ≤ 40
     ·rw [if_pos c7] at H
      have c7b0 : decide (x13_1 ≤ 40) = true := decide_eq_true c7
      clear c7
      replace H := Option.bind_eq_some_iff.mp H
      obtain ⟨⟨t159, t160⟩, A80, H⟩ := H
      replace H : (if t159 = x10_1 then ((qrversion_capacity.f x13_1 a1).bind fun t161 => (if x12_1 ≤ (wrap64 (8 * t161)) then (if a2 ≤ (wrap64 ((wrap64 (8 * t161)) - x12_1)) then (some (x13_1, x11_1, 0)) else (qrversion_Smallest.l0 k1 l0 a1 a2 x10_1 x11_1 x12_1 (wrap64 (x13_1 + 1)))) else (qrversion_Smallest.l0 k1 l0 a1 a2 x10_1 x11_1 x12_1 (wrap64 (x13_1 + 1))))) else ((modes_Best.f k1 l0 t159).bind fun bt162 => (if bt162.2.2 = 0 then ((qrversion_capacity.f x13_1 a1).bind fun t167 => (if bt162.2.1 ≤ (wrap64 (8 * t167)) then (if a2 ≤ (wrap64 ((wrap64 (8 * t167)) - bt162.2.1)) then (some (x13_1, bt162.1, 0)) else (qrversion_Smallest.l0 k1 l0 a1 a2 t159 bt162.1 bt162.2.1 (wrap64 (x13_1 + 1)))) else (qrversion_Smallest.l0 k1 l0 a1 a2 t159 bt162.1 bt162.2.1 (wrap64 (x13_1 + 1))))) else (some (0, ([] : List (S54)), bt162.2.2))))) = some (r1, r2, r3) := H
      have A8 := Aside0.mk A80
      clear A80
      by_cases c9 : t159 = x10_1
      ·rw [if_pos c9] at H
       have c9b0 : (t159 == x10_1) = true := beq_iff_eq.mpr c9
       have c9b1 : (t159 != x10_1) = false := bne_eq_false_iff_eq.mpr c9
       clear c9
       replace H := Option.bind_eq_some_iff.mp H
       obtain ⟨t161, A100, H⟩ := H
       replace H : (if x12_1 ≤ (wrap64 (8 * t161)) then (if a2 ≤ (wrap64 ((wrap64 (8 * t161)) - x12_1)) then (some (x13_1, x11_1, 0)) else (qrversion_Smallest.l0 k1 l0 a1 a2 x10_1 x11_1 x12_1 (wrap64 (x13_1 + 1)))) else (qrversion_Smallest.l0 k1 l0 a1 a2 x10_1 x11_1 x12_1 (wrap64 (x13_1 + 1)))) = some (r1, r2, r3) := H
       have A10 := Aside0.mk A100
       clear A100
       by_cases c11 : x12_1 ≤ (wrap64 (8 * t161))
       ·rw [if_pos c11] at H
        have c11b0 : decide (x12_1 ≤ (wrap64 (8 * t161))) = true := decide_eq_true c11
        clear c11
        by_cases c12 : a2 ≤ (wrap64 ((wrap64 (8 * t161)) - x12_1))
        ·rw [if_pos c12] at H
         have c12b0 : decide (a2 ≤ (wrap64 ((wrap64 (8 * t161)) - x12_1))) = true := decide_eq_true c12
         clear c12
         simp only [Option.some.injEq, Prod.mk.injEq] at H
         obtain ⟨rfl, rfl, rfl⟩ := H
         go_wp2_with (first | ((with_reducible refine gate_callee (f := 47) rfl ?_); refine goesL_ (some 33) rfl rfl Try.func47 (by kernel_rfl) rfl #[.int .i64 x13_1] rfl (by (try simp only [List.map_toArray, List.map_cons, List.map_nil]); first | done | rfl | (simp only [List.length_drop, List.length_take]; rfl)) ?_; (with_reducible refine (modes_Class.calls k1 x13_1 t159 t160 _ A8.out).mono ?_); rintro e w' ⟨rfl, ⟨nd, rfl⟩⟩; refine ⟨_, rfl, ?_⟩) | ((with_reducible refine gate_callee (f := 33) rfl ?_); refine goesL_ (some 54) rfl rfl Try.func33 (by kernel_rfl) rfl #[.int .i64 x13_1, .int .i64 a1] rfl (by (try simp only [List.map_toArray, List.map_cons, List.map_nil]); first | done | rfl | (simp only [List.length_drop, List.length_take]; rfl)) ?_; (with_reducible refine (qrversion_capacity.calls x13_1 a1 t161 _ A10.out).mono ?_); rintro e w13 ⟨rfl, hb⟩; refine ⟨_, rfl, ?_⟩; have n0_ := Aside0.mk (Kd.N_below (by (with_reducible repeat (first | apply Kd.N_alloc | apply Kd.N_drewN | apply Kd.N_drew)); exact HO_11.out) hb); have n1_ := Aside0.mk (below_step (by repeat (first | (with_reducible first | exact HB.out | apply below_alloc | apply pw_below_drewN | apply below_drew1) | exact HB.out)) hb); clear HO_11; clear HB; have HO_11 := n0_; have HB := n1_; clear n0_ n1_; (try clear hb); (try clear hb2); (try clear hk); (try clear hi)))
         go_ret3
         exact ⟨_, by first | rfl | (simp [errW_none, errW_some] <;> rfl) | (simp [*, errW_none, errW_some] <;> rfl), by (with_reducible repeat (first | apply Kd.N_alloc | apply Kd.N_drewN | apply Kd.N_drew)); exact HO_11.out, by repeat (first | (with_reducible first | exact HB.out | apply below_alloc | apply pw_below_drewN | apply below_drew1) | exact HB.out)⟩
        ·rw [if_neg c12] at H
         have c12b0 : decide (a2 ≤ (wrap64 ((wrap64 (8 * t161)) - x12_1))) = false := decide_eq_false c12
         clear c12
         have H' := Aside0.mk H
         clear H
         go_wp2_with (first | ((with_reducible refine gate_callee (f := 47) rfl ?_); refine goesL_ (some 33) rfl rfl Try.func47 (by kernel_rfl) rfl #[.int .i64 x13_1] rfl (by (try simp only [List.map_toArray, List.map_cons, List.map_nil]); first | done | rfl | (simp only [List.length_drop, List.length_take]; rfl)) ?_; (with_reducible refine (modes_Class.calls k1 x13_1 t159 t160 _ A8.out).mono ?_); rintro e w' ⟨rfl, ⟨nd, rfl⟩⟩; refine ⟨_, rfl, ?_⟩) | ((with_reducible refine gate_callee (f := 33) rfl ?_); refine goesL_ (some 54) rfl rfl Try.func33 (by kernel_rfl) rfl #[.int .i64 x13_1, .int .i64 a1] rfl (by (try simp only [List.map_toArray, List.map_cons, List.map_nil]); first | done | rfl | (simp only [List.length_drop, List.length_take]; rfl)) ?_; (with_reducible refine (qrversion_capacity.calls x13_1 a1 t161 _ A10.out).mono ?_); rintro e w14 ⟨rfl, hb⟩; refine ⟨_, rfl, ?_⟩; have n0_ := Aside0.mk (Kd.N_below (by (with_reducible repeat (first | apply Kd.N_alloc | apply Kd.N_drewN | apply Kd.N_drew)); exact HO_11.out) hb); have n1_ := Aside0.mk (below_step (by repeat (first | (with_reducible first | exact HB.out | apply below_alloc | apply pw_below_drewN | apply below_drew1) | exact HB.out)) hb); clear HO_11; clear HB; have HO_11 := n0_; have HB := n1_; clear n0_ n1_; (try clear hb); (try clear hb2); (try clear hk); (try clear hi)))
         go_roundg k1
         case measure => have := HK1.out; omega
         case rel => exact ⟨(x10_1), (x11_1), (x12_1), (wrap64 (x13_1 + 1)), (by first | rfl | (simp; done) | (simp [*]; done)), (by first | rfl | (simp; done) | (simp [*]; done)), (by first | rfl | (simp; done) | (simp [*]; done)), H', ⟨by have := HK1.out; omega⟩, ⟨by (with_reducible repeat (first | apply Kd.N_alloc | apply Kd.N_drewN | apply Kd.N_drew)); exact HO_11.out⟩, ⟨by repeat (first | (with_reducible first | exact HB.out | apply below_alloc | apply pw_below_drewN | apply below_drew1) | exact HB.out)⟩⟩
       ·rw [if_neg c11] at H
        have c11b0 : decide (x12_1 ≤ (wrap64 (8 * t161))) = false := decide_eq_false c11
        clear c11
        have H' := Aside0.mk H
        clear H
        go_wp2_with (first | ((with_reducible refine gate_callee (f := 47) rfl ?_); refine goesL_ (some 33) rfl rfl Try.func47 (by kernel_rfl) rfl #[.int .i64 x13_1] rfl (by (try simp only [List.map_toArray, List.map_cons, List.map_nil]); first | done | rfl | (simp only [List.length_drop, List.length_take]; rfl)) ?_; (with_reducible refine (modes_Class.calls k1 x13_1 t159 t160 _ A8.out).mono ?_); rintro e w' ⟨rfl, ⟨nd, rfl⟩⟩; refine ⟨_, rfl, ?_⟩) | ((with_reducible refine gate_callee (f := 33) rfl ?_); refine goesL_ (some 54) rfl rfl Try.func33 (by kernel_rfl) rfl #[.int .i64 x13_1, .int .i64 a1] rfl (by (try simp only [List.map_toArray, List.map_cons, List.map_nil]); first | done | rfl | (simp only [List.length_drop, List.length_take]; rfl)) ?_; (with_reducible refine (qrversion_capacity.calls x13_1 a1 t161 _ A10.out).mono ?_); rintro e w15 ⟨rfl, hb⟩; refine ⟨_, rfl, ?_⟩; have n0_ := Aside0.mk (Kd.N_below (by (with_reducible repeat (first | apply Kd.N_alloc | apply Kd.N_drewN | apply Kd.N_drew)); exact HO_11.out) hb); have n1_ := Aside0.mk (below_step (by repeat (first | (with_reducible first | exact HB.out | apply below_alloc | apply pw_below_drewN | apply below_drew1) | exact HB.out)) hb); clear HO_11; clear HB; have HO_11 := n0_; have HB := n1_; clear n0_ n1_; (try clear hb); (try clear hb2); (try clear hk); (try clear hi)))
        go_roundg k1
        case measure => have := HK1.out; omega
        case rel => exact ⟨(x10_1), (x11_1), (x12_1), (wrap64 (x13_1 + 1)), (by first | rfl | (simp; done) | (simp [*]; done)), (by first | rfl | (simp; done) | (simp [*]; done)), (by first | rfl | (simp; done) | (simp [*]; done)), H', ⟨by have := HK1.out; omega⟩, ⟨by (with_reducible repeat (first | apply Kd.N_alloc | apply Kd.N_drewN | apply Kd.N_drew)); exact HO_11.out⟩, ⟨by repeat (first | (with_reducible first | exact HB.out | apply below_alloc | apply pw_below_drewN | apply below_drew1) | exact HB.out)⟩⟩
      ·rw [if_neg c9] at H
       have c9b0 : (t159 == x10_1) = false := beq_eq_false_iff_ne.mpr c9
       have c9b1 : (t159 != x10_1) = true := bne_iff_ne.mpr c9
       replace H := Option.bind_eq_some_iff.mp H
       obtain ⟨⟨t162, t165, t166⟩, A160, H⟩ := H
       replace H : (if t166 = 0 then ((qrversion_capacity.f x13_1 a1).bind fun t167 => (if t165 ≤ (wrap64 (8 * t167)) then (if a2 ≤ (wrap64 ((wrap64 (8 * t167)) - t165)) then (some (x13_1, t162, 0)) else (qrversion_Smallest.l0 k1 l0 a1 a2 t159 t162 t165 (wrap64 (x13_1 + 1)))) else (qrversion_Smallest.l0 k1 l0 a1 a2 t159 t162 t165 (wrap64 (x13_1 + 1))))) else (some (0, ([] : List (S54)), t166))) = some (r1, r2, r3) := H
       have A16 := Aside0.mk A160
       clear A160
       by_cases c17 : t166 = 0
       ·rw [if_pos c17] at H
        have c17b0 : (t166 == 0) = true := beq_iff_eq.mpr c17
        have c17b1 : (t166 != 0) = false := bne_eq_false_iff_eq.mpr c17
        clear c17
        replace H := Option.bind_eq_some_iff.mp H
        obtain ⟨t167, A180, H⟩ := H
        replace H : (if t165 ≤ (wrap64 (8 * t167)) then (if a2 ≤ (wrap64 ((wrap64 (8 * t167)) - t165)) then (some (x13_1, t162, 0)) else (qrversion_Smallest.l0 k1 l0 a1 a2 t159 t162 t165 (wrap64 (x13_1 + 1)))) else (qrversion_Smallest.l0 k1 l0 a1 a2 t159 t162 t165 (wrap64 (x13_1 + 1)))) = some (r1, r2, r3) := H
        have A18 := Aside0.mk A180
        clear A180
        by_cases c19 : t165 ≤ (wrap64 (8 * t167))
        ·rw [if_pos c19] at H
         have c19b0 : decide (t165 ≤ (wrap64 (8 * t167))) = true := decide_eq_true c19
         clear c19
         by_cases c20 : a2 ≤ (wrap64 ((wrap64 (8 * t167)) - t165))
         ·rw [if_pos c20] at H
          have c20b0 : decide (a2 ≤ (wrap64 ((wrap64 (8 * t167)) - t165))) = true := decide_eq_true c20
          clear c20
          simp only [Option.some.injEq, Prod.mk.injEq] at H
          obtain ⟨rfl, rfl, rfl⟩ := H
          go_wp2_with (first | ((with_reducible refine gate_callee (f := 47) rfl ?_); refine goesL_ (some 33) rfl rfl Try.func47 (by kernel_rfl) rfl #[.int .i64 x13_1] rfl (by (try simp only [List.map_toArray, List.map_cons, List.map_nil]); first | done | rfl | (simp only [List.length_drop, List.length_take]; rfl)) ?_; (with_reducible refine (modes_Class.calls k1 x13_1 t159 t160 _ A8.out).mono ?_); rintro e w' ⟨rfl, ⟨nd, rfl⟩⟩; refine ⟨_, rfl, ?_⟩) | ((with_reducible refine gate_callee (f := 48) rfl ?_); refine goesL_ (some 43) rfl rfl Try.func48 (by kernel_rfl) rfl #[.slice A0 l0.length c0, .int .i64 t159] rfl (by (try simp only [List.map_toArray, List.map_cons, List.map_nil]); first | done | rfl | (simp only [List.length_drop, List.length_take]; rfl)) ?_; (with_reducible refine (modes_Best.calls k1 _ _ l0 t159 t162 t165 t166 _ ?side1 ?side2 A16.out).mono ?_); (case side1 => repeat (first | exact (Kd.C_below HR0.out (by repeat (first | (with_reducible first | exact HB.out | apply below_alloc | apply pw_below_drewN | apply below_drew1) | exact HB.out))) | (with_reducible refine Kd.C_alloc ?_ _) | (with_reducible refine Kd.C_drewN ?_ _) | (with_reducible refine Kd.C_drew ?_))); (case side2 => exact HC0.out); rintro e w21 ⟨v163, rfl, ho0, hb⟩; refine ⟨_, rfl, ?_⟩; have n0_ := Aside0.mk (Kd.N_elder' (by (with_reducible repeat (first | apply Kd.N_alloc | apply Kd.N_drewN | apply Kd.N_drew)); exact HO_11.out) (Kd.N_base ho0) hb); have n1_ := Aside0.mk (Kd.N_lower (Kd.N_mono (ok' := fun k_ => (w.heap.size ≤ k_) ∧ some k_ ≠ (u11 : Value).ownBlock) ho0 (fun k_ hk_ => ⟨(Nat.le_trans (below_size (by repeat (first | (with_reducible first | exact HB.out | apply below_alloc | apply pw_below_drewN | apply below_drew1) | exact HB.out))) hk_), (Kd.fresh' (Kd.N_lt (by (with_reducible repeat (first | apply Kd.N_alloc | apply Kd.N_drewN | apply Kd.N_drew)); exact HO_11.out)) k_ hk_)⟩)) (below_size (by repeat (first | (with_reducible first | exact HB.out | apply below_alloc | apply pw_below_drewN | apply below_drew1) | exact HB.out)))); have n2_ := Aside0.mk (below_step (by repeat (first | (with_reducible first | exact HB.out | apply below_alloc | apply pw_below_drewN | apply below_drew1) | exact HB.out)) hb); clear HO_11; clear HB; have HO_11 := n0_; have HO164 := n1_; have HB := n2_; clear n0_ n1_ n2_; (try clear hb); (try clear hb2); (try clear hk); (try clear hi); (try clear ho0)) | ((with_reducible refine gate_callee (f := 33) rfl ?_); refine goesL_ (some 54) rfl rfl Try.func33 (by kernel_rfl) rfl #[.int .i64 x13_1, .int .i64 a1] rfl (by (try simp only [List.map_toArray, List.map_cons, List.map_nil]); first | done | rfl | (simp only [List.length_drop, List.length_take]; rfl)) ?_; (with_reducible refine (qrversion_capacity.calls x13_1 a1 t167 _ A18.out).mono ?_); rintro e w22 ⟨rfl, hb⟩; refine ⟨_, rfl, ?_⟩; have n0_ := Aside0.mk (Kd.N_below (by (with_reducible repeat (first | apply Kd.N_alloc | apply Kd.N_drewN | apply Kd.N_drew)); exact HO_11.out) hb); have n1_ := Aside0.mk (Kd.N_below (by (with_reducible repeat (first | apply Kd.N_alloc | apply Kd.N_drewN | apply Kd.N_drew)); exact HO164.out) hb); have n2_ := Aside0.mk (below_step (by repeat (first | (with_reducible first | exact HB.out | apply below_alloc | apply pw_below_drewN | apply below_drew1) | exact HB.out)) hb); clear HO_11; clear HO164; clear HB; have HO_11 := n0_; have HO164 := n1_; have HB := n2_; clear n0_ n1_ n2_; (try clear hb); (try clear hb2); (try clear hk); (try clear hi)))
          go_ret3
          exact ⟨_, by first | rfl | (simp [errW_none, errW_some] <;> rfl) | (simp [*, errW_none, errW_some] <;> rfl), by (with_reducible repeat (first | apply Kd.N_alloc | apply Kd.N_drewN | apply Kd.N_drew)); exact Kd.N_mono HO164.out (fun _ hk => hk.1), by repeat (first | (with_reducible first | exact HB.out | apply below_alloc | apply pw_below_drewN | apply below_drew1) | exact HB.out)⟩
         ·rw [if_neg c20] at H
          have c20b0 : decide (a2 ≤ (wrap64 ((wrap64 (8 * t167)) - t165))) = false := decide_eq_false c20
          clear c20
          have H' := Aside0.mk H
          clear H
          go_wp2_with (first | ((with_reducible refine gate_callee (f := 47) rfl ?_); refine goesL_ (some 33) rfl rfl Try.func47 (by kernel_rfl) rfl #[.int .i64 x13_1] rfl (by (try simp only [List.map_toArray, List.map_cons, List.map_nil]); first | done | rfl | (simp only [List.length_drop, List.length_take]; rfl)) ?_; (with_reducible refine (modes_Class.calls k1 x13_1 t159 t160 _ A8.out).mono ?_); rintro e w' ⟨rfl, ⟨nd, rfl⟩⟩; refine ⟨_, rfl, ?_⟩) | ((with_reducible refine gate_callee (f := 48) rfl ?_); refine goesL_ (some 43) rfl rfl Try.func48 (by kernel_rfl) rfl #[.slice A0 l0.length c0, .int .i64 t159] rfl (by (try simp only [List.map_toArray, List.map_cons, List.map_nil]); first | done | rfl | (simp only [List.length_drop, List.length_take]; rfl)) ?_; (with_reducible refine (modes_Best.calls k1 _ _ l0 t159 t162 t165 t166 _ ?side1 ?side2 A16.out).mono ?_); (case side1 => repeat (first | exact (Kd.C_below HR0.out (by repeat (first | (with_reducible first | exact HB.out | apply below_alloc | apply pw_below_drewN | apply below_drew1) | exact HB.out))) | (with_reducible refine Kd.C_alloc ?_ _) | (with_reducible refine Kd.C_drewN ?_ _) | (with_reducible refine Kd.C_drew ?_))); (case side2 => exact HC0.out); rintro e w23 ⟨v163, rfl, ho0, hb⟩; refine ⟨_, rfl, ?_⟩; have n0_ := Aside0.mk (Kd.N_elder' (by (with_reducible repeat (first | apply Kd.N_alloc | apply Kd.N_drewN | apply Kd.N_drew)); exact HO_11.out) (Kd.N_base ho0) hb); have n1_ := Aside0.mk (Kd.N_lower (Kd.N_mono (ok' := fun k_ => (w.heap.size ≤ k_) ∧ some k_ ≠ (u11 : Value).ownBlock) ho0 (fun k_ hk_ => ⟨(Nat.le_trans (below_size (by repeat (first | (with_reducible first | exact HB.out | apply below_alloc | apply pw_below_drewN | apply below_drew1) | exact HB.out))) hk_), (Kd.fresh' (Kd.N_lt (by (with_reducible repeat (first | apply Kd.N_alloc | apply Kd.N_drewN | apply Kd.N_drew)); exact HO_11.out)) k_ hk_)⟩)) (below_size (by repeat (first | (with_reducible first | exact HB.out | apply below_alloc | apply pw_below_drewN | apply below_drew1) | exact HB.out)))); have n2_ := Aside0.mk (below_step (by repeat (first | (with_reducible first | exact HB.out | apply below_alloc | apply pw_below_drewN | apply below_drew1) | exact HB.out)) hb); clear HO_11; clear HB; have HO_11 := n0_; have HO164 := n1_; have HB := n2_; clear n0_ n1_ n2_; (try clear hb); (try clear hb2); (try clear hk); (try clear hi); (try clear ho0)) | ((with_reducible refine gate_callee (f := 33) rfl ?_); refine goesL_ (some 54) rfl rfl Try.func33 (by kernel_rfl) rfl #[.int .i64 x13_1, .int .i64 a1] rfl (by (try simp only [List.map_toArray, List.map_cons, List.map_nil]); first | done | rfl | (simp only [List.length_drop, List.length_take]; rfl)) ?_; (with_reducible refine (qrversion_capacity.calls x13_1 a1 t167 _ A18.out).mono ?_); rintro e w24 ⟨rfl, hb⟩; refine ⟨_, rfl, ?_⟩; have n0_ := Aside0.mk (Kd.N_below (by (with_reducible repeat (first | apply Kd.N_alloc | apply Kd.N_drewN | apply Kd.N_drew)); exact HO_11.out) hb); have n1_ := Aside0.mk (Kd.N_below (by (with_reducible repeat (first | apply Kd.N_alloc | apply Kd.N_drewN | apply Kd.N_drew)); exact HO164.out) hb); have n2_ := Aside0.mk (below_step (by repeat (first | (with_reducible first | exact HB.out | apply below_alloc | apply pw_below_drewN | apply below_drew1) | exact HB.out)) hb); clear HO_11; clear HO164; clear HB; have HO_11 := n0_; have HO164 := n1_; have HB := n2_; clear n0_ n1_ n2_; (try clear hb); (try clear hb2); (try clear hk); (try clear hi)))
          go_roundg k1
          case measure => have := HK1.out; omega
          case rel => exact ⟨(t159), (t162), (t165), (wrap64 (x13_1 + 1)), (by first | rfl | (simp; done) | (simp [*]; done)), (by first | rfl | (simp; done) | (simp [*]; done)), (by first | rfl | (simp; done) | (simp [*]; done)), H', ⟨by have := HK1.out; omega⟩, ⟨by (with_reducible repeat (first | apply Kd.N_alloc | apply Kd.N_drewN | apply Kd.N_drew)); exact Kd.N_mono HO164.out (fun _ hk => hk.1)⟩, ⟨by repeat (first | (with_reducible first | exact HB.out | apply below_alloc | apply pw_below_drewN | apply below_drew1) | exact HB.out)⟩⟩
        ·rw [if_neg c19] at H
         have c19b0 : decide (t165 ≤ (wrap64 (8 * t167))) = false := decide_eq_false c19
         clear c19
         have H' := Aside0.mk H
         clear H
         go_wp2_with (first | ((with_reducible refine gate_callee (f := 47) rfl ?_); refine goesL_ (some 33) rfl rfl Try.func47 (by kernel_rfl) rfl #[.int .i64 x13_1] rfl (by (try simp only [List.map_toArray, List.map_cons, List.map_nil]); first | done | rfl | (simp only [List.length_drop, List.length_take]; rfl)) ?_; (with_reducible refine (modes_Class.calls k1 x13_1 t159 t160 _ A8.out).mono ?_); rintro e w' ⟨rfl, ⟨nd, rfl⟩⟩; refine ⟨_, rfl, ?_⟩) | ((with_reducible refine gate_callee (f := 48) rfl ?_); refine goesL_ (some 43) rfl rfl Try.func48 (by kernel_rfl) rfl #[.slice A0 l0.length c0, .int .i64 t159] rfl (by (try simp only [List.map_toArray, List.map_cons, List.map_nil]); first | done | rfl | (simp only [List.length_drop, List.length_take]; rfl)) ?_; (with_reducible refine (modes_Best.calls k1 _ _ l0 t159 t162 t165 t166 _ ?side1 ?side2 A16.out).mono ?_); (case side1 => repeat (first | exact (Kd.C_below HR0.out (by repeat (first | (with_reducible first | exact HB.out | apply below_alloc | apply pw_below_drewN | apply below_drew1) | exact HB.out))) | (with_reducible refine Kd.C_alloc ?_ _) | (with_reducible refine Kd.C_drewN ?_ _) | (with_reducible refine Kd.C_drew ?_))); (case side2 => exact HC0.out); rintro e w25 ⟨v163, rfl, ho0, hb⟩; refine ⟨_, rfl, ?_⟩; have n0_ := Aside0.mk (Kd.N_elder' (by (with_reducible repeat (first | apply Kd.N_alloc | apply Kd.N_drewN | apply Kd.N_drew)); exact HO_11.out) (Kd.N_base ho0) hb); have n1_ := Aside0.mk (Kd.N_lower (Kd.N_mono (ok' := fun k_ => (w.heap.size ≤ k_) ∧ some k_ ≠ (u11 : Value).ownBlock) ho0 (fun k_ hk_ => ⟨(Nat.le_trans (below_size (by repeat (first | (with_reducible first | exact HB.out | apply below_alloc | apply pw_below_drewN | apply below_drew1) | exact HB.out))) hk_), (Kd.fresh' (Kd.N_lt (by (with_reducible repeat (first | apply Kd.N_alloc | apply Kd.N_drewN | apply Kd.N_drew)); exact HO_11.out)) k_ hk_)⟩)) (below_size (by repeat (first | (with_reducible first | exact HB.out | apply below_alloc | apply pw_below_drewN | apply below_drew1) | exact HB.out)))); have n2_ := Aside0.mk (below_step (by repeat (first | (with_reducible first | exact HB.out | apply below_alloc | apply pw_below_drewN | apply below_drew1) | exact HB.out)) hb); clear HO_11; clear HB; have HO_11 := n0_; have HO164 := n1_; have HB := n2_; clear n0_ n1_ n2_; (try clear hb); (try clear hb2); (try clear hk); (try clear hi); (try clear ho0)) | ((with_reducible refine gate_callee (f := 33) rfl ?_); refine goesL_ (some 54) rfl rfl Try.func33 (by kernel_rfl) rfl #[.int .i64 x13_1, .int .i64 a1] rfl (by (try simp only [List.map_toArray, List.map_cons, List.map_nil]); first | done | rfl | (simp only [List.length_drop, List.length_take]; rfl)) ?_; (with_reducible refine (qrversion_capacity.calls x13_1 a1 t167 _ A18.out).mono ?_); rintro e w26 ⟨rfl, hb⟩; refine ⟨_, rfl, ?_⟩; have n0_ := Aside0.mk (Kd.N_below (by (with_reducible repeat (first | apply Kd.N_alloc | apply Kd.N_drewN | apply Kd.N_drew)); exact HO_11.out) hb); have n1_ := Aside0.mk (Kd.N_below (by (with_reducible repeat (first | apply Kd.N_alloc | apply Kd.N_drewN | apply Kd.N_drew)); exact HO164.out) hb); have n2_ := Aside0.mk (below_step (by repeat (first | (with_reducible first | exact HB.out | apply below_alloc | apply pw_below_drewN | apply below_drew1) | exact HB.out)) hb); clear HO_11; clear HO164; clear HB; have HO_11 := n0_; have HO164 := n1_; have HB := n2_; clear n0_ n1_ n2_; (try clear hb); (try clear hb2); (try clear hk); (try clear hi)))
         go_roundg k1
         case measure => have := HK1.out; omega
         case rel => exact ⟨(t159), (t162), (t165), (wrap64 (x13_1 + 1)), (by first | rfl | (simp; done) | (simp [*]; done)), (by first | rfl | (simp; done) | (simp [*]; done)), (by first | rfl | (simp; done) | (simp [*]; done)), H', ⟨by have := HK1.out; omega⟩, ⟨by (with_reducible repeat (first | apply Kd.N_alloc | apply Kd.N_drewN | apply Kd.N_drew)); exact Kd.N_mono HO164.out (fun _ hk => hk.1)⟩, ⟨by repeat (first | (with_reducible first | exact HB.out | apply below_alloc | apply pw_below_drewN | apply below_drew1) | exact HB.out)⟩⟩
       ·rw [if_neg c17] at H
        have c17b0 : (t166 == 0) = false := beq_eq_false_iff_ne.mpr c17
        have c17b1 : (t166 != 0) = true := bne_iff_ne.mpr c17
        simp only [Option.some.injEq, Prod.mk.injEq] at H
        obtain ⟨rfl, rfl, rfl⟩ := H
        go_wp2_with (first | ((with_reducible refine gate_callee (f := 47) rfl ?_); refine goesL_ (some 33) rfl rfl Try.func47 (by kernel_rfl) rfl #[.int .i64 x13_1] rfl (by (try simp only [List.map_toArray, List.map_cons, List.map_nil]); first | done | rfl | (simp only [List.length_drop, List.length_take]; rfl)) ?_; (with_reducible refine (modes_Class.calls k1 x13_1 t159 t160 _ A8.out).mono ?_); rintro e w' ⟨rfl, ⟨nd, rfl⟩⟩; refine ⟨_, rfl, ?_⟩) | ((with_reducible refine gate_callee (f := 48) rfl ?_); refine goesL_ (some 43) rfl rfl Try.func48 (by kernel_rfl) rfl #[.slice A0 l0.length c0, .int .i64 t159] rfl (by (try simp only [List.map_toArray, List.map_cons, List.map_nil]); first | done | rfl | (simp only [List.length_drop, List.length_take]; rfl)) ?_; (with_reducible refine (modes_Best.calls k1 _ _ l0 t159 t162 t165 t166 _ ?side1 ?side2 A16.out).mono ?_); (case side1 => repeat (first | exact (Kd.C_below HR0.out (by repeat (first | (with_reducible first | exact HB.out | apply below_alloc | apply pw_below_drewN | apply below_drew1) | exact HB.out))) | (with_reducible refine Kd.C_alloc ?_ _) | (with_reducible refine Kd.C_drewN ?_ _) | (with_reducible refine Kd.C_drew ?_))); (case side2 => exact HC0.out); rintro e w27 ⟨v163, rfl, ho0, hb⟩; refine ⟨_, rfl, ?_⟩; have n0_ := Aside0.mk (Kd.N_elder' (by (with_reducible repeat (first | apply Kd.N_alloc | apply Kd.N_drewN | apply Kd.N_drew)); exact HO_11.out) (Kd.N_base ho0) hb); have n1_ := Aside0.mk (Kd.N_lower (Kd.N_mono (ok' := fun k_ => (w.heap.size ≤ k_) ∧ some k_ ≠ (u11 : Value).ownBlock) ho0 (fun k_ hk_ => ⟨(Nat.le_trans (below_size (by repeat (first | (with_reducible first | exact HB.out | apply below_alloc | apply pw_below_drewN | apply below_drew1) | exact HB.out))) hk_), (Kd.fresh' (Kd.N_lt (by (with_reducible repeat (first | apply Kd.N_alloc | apply Kd.N_drewN | apply Kd.N_drew)); exact HO_11.out)) k_ hk_)⟩)) (below_size (by repeat (first | (with_reducible first | exact HB.out | apply below_alloc | apply pw_below_drewN | apply below_drew1) | exact HB.out)))); have n2_ := Aside0.mk (below_step (by repeat (first | (with_reducible first | exact HB.out | apply below_alloc | apply pw_below_drewN | apply below_drew1) | exact HB.out)) hb); clear HO_11; clear HB; have HO_11 := n0_; have HO164 := n1_; have HB := n2_; clear n0_ n1_ n2_; (try clear hb); (try clear hb2); (try clear hk); (try clear hi); (try clear ho0)))
        go_ret3
        exact ⟨_, by first | rfl | (simp [errW_none, errW_some] <;> rfl) | (simp [*, errW_none, errW_some] <;> rfl), by first | exact Kd.S_nil _ _ _ _ _ | exact Kd.N_nil _ _ _ _ _ | exact Kd.V_nil _ _ _ _ _ | exact Kd.Q_nil _ _ _ _ _ | exact Kd.R_nil _ _ _ _ _, by repeat (first | (with_reducible first | exact HB.out | apply below_alloc | apply pw_below_drewN | apply below_drew1) | exact HB.out)⟩
     ·rw [if_neg c7] at H
      have c7b0 : decide (x13_1 ≤ 40) = false := decide_eq_false c7
      clear c7
      simp only [Option.some.injEq, Prod.mk.injEq] at H
      obtain ⟨rfl, rfl, rfl⟩ := H
      go_wp2
      go_ret3
      exact ⟨_, by first | rfl | (simp [errW_none, errW_some] <;> rfl) | (simp [*, errW_none, errW_some] <;> rfl), by first | exact Kd.S_nil _ _ _ _ _ | exact Kd.N_nil _ _ _ _ _ | exact Kd.V_nil _ _ _ _ _ | exact Kd.Q_nil _ _ _ _ _ | exact Kd.R_nil _ _ _ _ _, by repeat (first | (with_reducible first | exact HB.out | apply below_alloc | apply pw_below_drewN | apply below_drew1) | exact HB.out)⟩
 ·rw [if_neg c5] at H
  have c5b0 : (t158 == 0) = false := beq_eq_false_iff_ne.mpr c5
  have c5b1 : (t158 != 0) = true := bne_iff_ne.mpr c5
  simp only [Option.some.injEq, Prod.mk.injEq] at H
  obtain ⟨rfl, rfl, rfl⟩ := H
  go_enter Try.func34, Try.ntmps34
  go_wp2_with (first | ((with_reducible refine gate_callee (f := 32) rfl ?_); refine goesL_ (some 21) rfl rfl Try.func32 (by kernel_rfl) rfl #[.int .i64 1, .int .i64 a1] rfl (by (try simp only [List.map_toArray, List.map_cons, List.map_nil]); first | done | rfl | (simp only [List.length_drop, List.length_take]; rfl)) ?_; (with_reducible refine (qrversion_level.calls 1 a1 t158 _ A4.out).mono ?_); rintro e w' ⟨rfl, ⟨nd, rfl⟩⟩; refine ⟨_, rfl, ?_⟩))
  go_ret3
  exact ⟨_, by first | rfl | (simp [errW_none, errW_some] <;> rfl) | (simp [*, errW_none, errW_some] <;> rfl), by first | exact Kd.S_nil _ _ _ _ _ | exact Kd.N_nil _ _ _ _ _ | exact Kd.V_nil _ _ _ _ _ | exact Kd.Q_nil _ _ _ _ _ | exact Kd.R_nil _ _ _ _ _, by repeat (first | (with_reducible first | exact HB.out | apply below_alloc | apply pw_below_drewN | apply below_drew1) | exact HB.out)⟩

end Go.Proofs.Ytclbjddcenkidaa.PS
namespace Go.Proofs.Ytclbjddcenkidaa.PS
open Go.RowKit Go.Proofs.YtclbjddcenkidaaW.PrintWords Go.Proofs.YtclbjddcenkidaaW.PrintLast Go.Proofs.YtclbjddcenkidaaW.PrintMore
attribute [local go_sem] max2_int min2_int max_two min_two max_three min_three max_four min_four
theorem Ev.ifp {α : Type} {c : Prop} [Decidable c] {g f : Nat → Option α} {r : α} (hc : c) (h : Ev g r) : Ev (fun n => if c then g n else f n) r := Ev.congr (fun _ => if_pos hc) h
theorem Ev.ifn {α : Type} {c : Prop} [Decidable c] {g f : Nat → Option α} {r : α} (hc : ¬ c) (h : Ev f r) : Ev (fun n => if c then g n else f n) r := Ev.congr (fun _ => if_neg hc) h
theorem w64 {x : Int} (h0 : -9223372036854775808 ≤ x) (h1 : x ≤ 9223372036854775807) : wrap64 x = x := by unfold wrap64; omega
theorem fits_tab : ∀ c : Nat, c < 256 → modes_Fits.f 1 c = some (fitS 1 c) ∧ modes_Fits.f 2 c = some (fitS 2 c) ∧ modes_Fits.f 4 c = some (fitS 4 c) := by decide +kernel
theorem fits_eq (m c : Int) (hm : m = 1 ∨ m = 2 ∨ m = 4) (h0 : 0 ≤ c) (h1 : c < 256) : modes_Fits.f m c = some (fitS m c) := by
  obtain ⟨n, rfl⟩ := Int.eq_ofNat_of_zero_le h0
  have := fits_tab n (by omega)
  rcases hm with rfl | rfl | rfl
  · exact this.1
  · exact this.2.1
  · exact this.2.2
theorem dataBits_eq (m : Int) (k : Nat) (hm : m = 1 ∨ m = 2 ∨ m = 4) (hk : k ≤ 4096) : modes_dataBits.f m k = some (dbN m k : Int) := by
  rcases hm with rfl | rfl | rfl
  · have e1 : Int.tdiv (k : Int) 3 = ((k / 3 : Nat) : Int) := by rw [Int.tdiv_eq_ediv_of_nonneg (by omega)]; omega
    have e2 : Int.tmod (k : Int) 3 = ((k % 3 : Nat) : Int) := by rw [Int.tmod_eq_emod_of_nonneg (by omega)]; omega
    have e3 : wrap64 ((k / 3 : Nat) : Int) = ((k / 3 : Nat) : Int) := w64 (by omega) (by omega)
    have e4 : wrap64 (((k / 3 : Nat) : Int) * 10) = ((k / 3 : Nat) : Int) * 10 := w64 (by omega) (by omega)
    have h3 : rd [0, 4, 7, 10] 3 = 10 := rfl
    unfold modes_dataBits.f modes_group.f
    rw [if_pos rfl]
    simp only [Option.bind_some, e1, e2, e3, h3, e4]
    rw [if_neg (by omega), if_pos (by omega), if_pos (by simp), if_pos (by omega), if_pos (by simp; omega)]
    unfold dbN
    rw [if_pos rfl]
    rcases (by omega : k % 3 = 0 ∨ k % 3 = 1 ∨ k % 3 = 2) with h | h | h <;> rw [h] <;> simp [rd] <;> rw [w64 (by omega) (by omega)]
  · have e1 : Int.tdiv (k : Int) 2 = ((k / 2 : Nat) : Int) := by rw [Int.tdiv_eq_ediv_of_nonneg (by omega)]; omega
    have e2 : Int.tmod (k : Int) 2 = ((k % 2 : Nat) : Int) := by rw [Int.tmod_eq_emod_of_nonneg (by omega)]; omega
    have e3 : wrap64 ((k / 2 : Nat) : Int) = ((k / 2 : Nat) : Int) := w64 (by omega) (by omega)
    have e4 : wrap64 (((k / 2 : Nat) : Int) * 11) = ((k / 2 : Nat) : Int) * 11 := w64 (by omega) (by omega)
    have h3 : rd [0, 6, 11] 2 = 11 := rfl
    unfold modes_dataBits.f modes_group.f
    rw [if_neg (by decide), if_pos rfl]
    simp only [Option.bind_some, e1, e2, e3, h3, e4]
    rw [if_neg (by omega), if_pos (by omega), if_pos (by simp), if_pos (by omega), if_pos (by simp; omega)]
    unfold dbN
    rw [if_neg (by decide), if_pos rfl]
    rcases (by omega : k % 2 = 0 ∨ k % 2 = 1) with h | h <;> rw [h] <;> simp [rd] <;> rw [w64 (by omega) (by omega)]
  · have e1 : Int.tdiv (k : Int) 1 = (k : Int) := by simp
    have e2 : Int.tmod (k : Int) 1 = 0 := by simp
    have e3 : wrap64 (k : Int) = (k : Int) := w64 (by omega) (by omega)
    have e4 : wrap64 ((k : Int) * 8) = (k : Int) * 8 := w64 (by omega) (by omega)
    have h3 : rd [0, 8] 1 = 8 := rfl
    unfold modes_dataBits.f modes_group.f
    rw [if_neg (by decide), if_neg (by decide)]
    simp only [Option.bind_some, e1, e2, e3, h3, e4]
    simp [rd, dbN, e4]
    omega
theorem countBits_ev (m cls : Int) (hm : m = 1 ∨ m = 2 ∨ m = 4) (h0 : 0 ≤ cls) (h2 : cls ≤ 2) : Ev (fun k => modes_countBits.f k m cls) (cbN m cls : Int) := by
  refine ⟨1, fun k hk => ?_⟩
  obtain ⟨k, rfl⟩ : ∃ j, k = j + 1 := ⟨k - 1, by omega⟩
  show modes_countBits.f (k + 1) m cls = _
  unfold modes_countBits.f
  rw [if_neg (by omega)]
  simp only [modes_countBits.j0]
  rw [if_neg (by simp; omega)]
  rcases (by omega : cls = 0 ∨ cls = 1 ∨ cls = 2) with rfl | rfl | rfl <;> rcases hm with rfl | rfl | rfl <;> decide +kernel
theorem better_eq (a b : S106) : modes_plan_better.f a.f0 a.f1 a.f2 a.f3 b.f0 b.f1 b.f2 b.f3 = some (betS a b) := by
  unfold modes_plan_better.f betS
  split
  · split
    · split <;> rfl
    · rfl
  · rfl
theorem rd106 (P : List S106) (i : Nat) : rd_T106 P (i : Int) = P.getD i z106 := by unfold rd_T106; rw [Int.toNat_natCast]
theorem getD_drop {P : List S106} {i : Nat} {p : S106} {rest : List S106} (h : P.drop i = p :: rest) : P.getD i z106 = p := by
  have : (P.drop i)[0]? = some p := by rw [h]; rfl
  rw [List.getElem?_drop] at this
  simp at this
  rw [List.getD_eq_getElem?_getD, this]
  rfl
theorem rd_drop {l : List Int} {i : Nat} {c : Int} {s : List Int} (h : l.drop i = c :: s) : rd l (i : Int) = c := by
  have : (l.drop i)[0]? = some c := by rw [h]; rfl
  rw [List.getElem?_drop] at this
  simp at this
  unfold rd
  rw [Int.toNat_natCast, List.getD_eq_getElem?_getD, this]
  rfl
theorem drop_next {α : Type} {l : List α} {i : Nat} {c : α} {s : List α} (h : l.drop i = c :: s) : l.drop (i + 1) = s := by
  rw [← List.drop_drop, h]; rfl
theorem set_getD {α : Type} (P : List α) (i : Nat) (z : α) (h : i < P.length) : P.set i (P.getD i z) = P := by
  rw [List.getD_eq_getElem?_getD, List.getElem?_eq_getElem h]
  exact List.set_getElem_self h
theorem getD_set {α : Type} (P : List α) (i : Nat) (z x : α) (h : i < P.length) : (P.set i x).getD i z = x := by
  rw [List.getD_eq_getElem?_getD, List.getElem?_set_self h]
  rfl
theorem wr_add1 (k : Nat) (h : k ≤ 5000) : wrap64 ((k : Int) + 1) = ((k + 1 : Nat) : Int) := by
  rw [w64 (by omega) (by omega)]
  omega
theorem wr_cand (cb db n : Nat) (p0 p1 : Int) (h1 : cb ≤ 16) (h2 : db ≤ 40000) (h3 : n ≤ 4096) (h4 : 0 ≤ p0) (h5 : p0 ≤ 28 * n) (h6 : 0 ≤ p1) (h7 : p1 ≤ n) :
    wrap64 (4 + (cb : Int)) = 4 + cb ∧ wrap64 (4 + (cb : Int) + db) = 4 + (cb : Int) + db ∧ wrap64 (4 + (cb : Int) + db + p0) = 4 + (cb : Int) + db + p0 ∧ wrap64 (1 + p1) = 1 + p1 := by
  refine ⟨w64 ?_ ?_, w64 ?_ ?_, w64 ?_ ?_, w64 ?_ ?_⟩ <;> omega
theorem wr_at (a k : Nat) (h : a + k ≤ 10000) (hk : 1 ≤ k) : wrap64 ((a : Int) + k) = (a : Int) + k ∧ wrap64 ((a : Int) + k - 1) = (a : Int) + k - 1 := by
  refine ⟨w64 ?_ ?_, w64 ?_ ?_⟩ <;> omega
section
variable {x0 : List Int} {cls : Int} (h0 : 0 ≤ cls) (h2 : cls ≤ 2) (hn : x0.length ≤ 4096) (hx : ∀ c ∈ x0, 0 ≤ c ∧ c < 256)
include h0 h2 hn hx
set_option maxHeartbeats 1000000 in
theorem best_l2 (m : Int) (hm : m = 1 ∨ m = 2 ∨ m = 4) (at_ : Nat) (hat : at_ < x0.length) (X : List Int) (x47 x48 : Int) (r : List S54 × Int × Int) : ∀ (s : List Int) (k : Nat) (P : List S106) (rest : List S106),
    1 ≤ k → x0.drop (at_ + k - 1) = s → s.length + k = x0.length - at_ + 1 → P.length = x0.length + 1 → P.drop (at_ + k) = rest → RestOk (x0.length - at_ - k) rest →
    Ev (fun f => modes_Best.l1 f x0 cls x0.length (P.set at_ (innerS cls m s rest k (P.getD at_ z106))) at_ X x47 (wrap64 (x48 + 1))) r →
    Ev (fun f => modes_Best.l2 f x0 cls x0.length P at_ m ((min (x0.length - at_) (mostN m cls) : Nat) : Int) k X x47 x48) r := by
  intro s
  induction s with
  | nil =>
    intro k P rest hk hs hl hP hr hok hE
    unfold innerS at hE
    rw [set_getD P at_ z106 (by omega)] at hE
    refine Ev.step (fun f => modes_Best.l2.eq_2 ..) ?_
    refine Ev.ifn (by simp at hl; omega) ?_
    refine Ev.step (fun f => modes_Best.j4.eq_2 ..) ?_
    exact Ev.ifn (by simp) hE
  | cons c s ih =>
    intro k P rest hk hs hl hP hr hok hE
    have hlen : k ≤ x0.length - at_ := by simp at hl; omega
    cases rest with
    | nil =>
      have := congrArg List.length hr
      simp at this
      omega
    | cons p rest =>
      have hP1 : P.getD (at_ + k) z106 = p := getD_drop hr
      have hc : c ∈ x0 := List.mem_of_mem_drop (i := at_ + k - 1) (by rw [hs]; simp)
      have hcb := hx c hc
      have hfe := fits_eq m c hm hcb.1 hcb.2
      have hrd : rd x0 ((at_ : Int) + k - 1) = c := by
        have := rd_drop hs
        rwa [show ((at_ + k - 1 : Nat) : Int) = (at_ : Int) + k - 1 by omega] at this
      obtain ⟨hw1, hw2⟩ := wr_at at_ k (by omega) hk
      refine Ev.step (fun f => modes_Best.l2.eq_2 ..) ?_
      unfold innerS at hE
      by_cases hmo : k ≤ mostN m cls
      · refine Ev.ifp (by omega) ?_
        simp only [hw1, hw2, hrd, hfe, Option.bind_some]
        refine Ev.ifp (by omega) (Ev.ifp (by omega) ?_)
        refine Ev.step (fun f => modes_Best.j4.eq_2 ..) ?_
        cases hb : fitS m c with
        | false =>
          refine Ev.ifn (by simp) ?_
          rw [if_neg (by simp [hb])] at hE
          rw [set_getD P at_ z106 (by omega)] at hE
          exact hE
        | true =>
          refine Ev.ifp rfl ?_
          rw [if_pos ⟨hmo, hb⟩] at hE
          have hpok := (hok 0 p rfl).2
          have hcl := cbN_le m cls h0 h2
          have hdl := dbN_le m k
          have i1 : 0 ≤ (at_ : Int) + k := by omega
          have i2 : (at_ : Int) + k < (P.length : Int) := by omega
          have i3 : 0 ≤ (at_ : Int) := by omega
          have i4 : (at_ : Int) < (P.length : Int) := by omega
          have i5 : k ≤ 4096 := by omega
          have i6 : s.length + (k + 1) = x0.length - at_ + 1 := by simp at hl; omega
          have i7 : at_ < P.length := by omega
          have i8 : at_ < at_ + (k + 1) := by omega
          have hs' : x0.drop (at_ + (k + 1) - 1) = s := by
            have := drop_next hs
            rwa [show at_ + k - 1 + 1 = at_ + (k + 1) - 1 by omega] at this
          have hr' : P.drop (at_ + (k + 1)) = rest := by
            have := drop_next hr
            rwa [show at_ + k + 1 = at_ + (k + 1) by omega] at this
          have hok' : RestOk (x0.length - at_ - (k + 1)) rest := by
            by_cases e : x0.length - at_ = k
            · intro i q hq
              have := (hok (i + 1) q (by simpa using hq)).1
              omega
            · have e8 : x0.length - at_ - k = x0.length - at_ - (k + 1) + 1 := by omega
              rw [e8] at hok
              exact hok.tail
          have e6 : rd_T106 P ((at_ : Int) + k) = p := by rw [show (at_ : Int) + k = ((at_ + k : Nat) : Int) by omega, rd106, hP1]
          have e7 : rd_T106 P (at_ : Int) = P.getD at_ z106 := rd106 P at_
          obtain ⟨e1, e2, e3, e4⟩ := wr_cand (cbN m cls) (dbN m k) (x0.length - at_ - k) p.f0 p.f1 hcl.2 (by omega) (by omega) hpok.b0 hpok.b1 hpok.s0 hpok.s1
          have e5 := wr_add1 k (by omega)
          clear hpok
          simp only [hw1, e6, e7, e4, e5]
          refine Ev.ifp i1 (Ev.ifp i2 ?_)
          refine Ev.bind (g := fun f => modes_countBits.f f m cls) (countBits_ev m cls hm h0 h2) ?_
          rw [dataBits_eq m k hm i5]
          simp only [Option.bind_some, e1, e2, e3]
          refine Ev.ifp i3 (Ev.ifp i4 ?_)
          have hbe := better_eq (candS m cls k p) (P.getD at_ z106)
          simp only [candS] at hbe
          rw [hbe]
          simp only [Option.bind_some]
          have hcd : (⟨4 + (cbN m cls : Int) + dbN m k + p.f0, 1 + p.f1, k, m⟩ : S106) = candS m cls k p := rfl
          cases hbt : betS (candS m cls k p) (P.getD at_ z106) with
          | false =>
            have hbt' := hbt
            simp only [candS] at hbt'
            rw [hbt']
            refine Ev.ifn (by simp) ?_
            refine ih (k + 1) P rest (Nat.succ_pos k) hs' i6 hP hr' hok' ?_
            rw [hbt, if_neg (by simp)] at hE
            exact hE
          | true =>
            have hbt' := hbt
            simp only [candS] at hbt'
            rw [hbt']
            refine Ev.ifp rfl ?_
            rw [hcd, Int.toNat_natCast]
            refine ih (k + 1) _ rest (Nat.succ_pos k) hs' i6 (by rw [List.length_set]; exact hP) ?_ hok' ?_
            · rw [List.drop_set_of_lt i8]
              exact hr'
            · rw [hbt, if_pos rfl] at hE
              rw [List.set_set]
              have hg : (P.set at_ (candS m cls k p)).getD at_ z106 = candS m cls k p := getD_set P at_ _ _ i7
              rw [hg]
              exact hE
      · refine Ev.ifn (by omega) ?_
        rw [if_neg (by omega)] at hE
        rw [set_getD P at_ z106 (by omega)] at hE
        refine Ev.step (fun f => modes_Best.j4.eq_2 ..) ?_
        exact Ev.ifn (by simp) hE
end
theorem shl_most (m cls : Int) (hm : m = 1 ∨ m = 2 ∨ m = 4) (h0 : 0 ≤ cls) (h2 : cls ≤ 2) : wrap64 (shl .i64 1 (cbN m cls : Int) - 1) = (mostN m cls : Int) := by
  rcases (by omega : cls = 0 ∨ cls = 1 ∨ cls = 2) with rfl | rfl | rfl <;> rcases hm with rfl | rfl | rfl <;> decide +kernel
theorem mn_min (a b : Nat) : mn (a : Int) (b : Int) = ((min a b : Nat) : Int) := by unfold mn; split <;> omega
theorem wr_sub (n a : Nat) (hn : n ≤ 10000) (ha : a ≤ n) : wrap64 ((n : Int) - a) = ((n - a : Nat) : Int) := by
  rw [w64 (by omega) (by omega)]
  omega
section
variable {x0 : List Int} {cls : Int} (h0 : 0 ≤ cls) (h2 : cls ≤ 2) (hn : x0.length ≤ 4096) (hx : ∀ c ∈ x0, 0 ≤ c ∧ c < 256)
include h0 h2 hn hx
theorem best_mode (m : Int) (hm : m = 1 ∨ m = 2 ∨ m = 4) (j : Nat) (hj : j < 3) (hrd : rd [1, 2, 4] (j : Int) = m) (at_ : Nat) (hat : at_ < x0.length) (P : List S106) (rest : List S106) (hP : P.length = x0.length + 1) (hr : P.drop (at_ + 1) = rest) (hok : RestOk (x0.length - at_ - 1) rest) (r : List S54 × Int × Int)
    (hE : Ev (fun f => modes_Best.l1 f x0 cls x0.length (P.set at_ (innerS cls m (x0.drop at_) rest 1 (P.getD at_ z106))) at_ [1, 2, 4] 3 ((j + 1 : Nat) : Int)) r) :
    Ev (fun f => modes_Best.l1 f x0 cls x0.length P at_ [1, 2, 4] 3 (j : Int)) r := by
  have hs := shl_most m cls hm h0 h2
  have hw := wr_sub x0.length at_ (by omega) (by omega)
  have hl := best_l2 h0 h2 hn hx m hm at_ hat [1, 2, 4] 3 j r (x0.drop at_) 1 P rest (by omega) (by simp) (by rw [List.length_drop]) hP hr hok (by rw [wr_add1 j (by omega)]; exact hE)
  have i1 : (j : Int) < 3 := by omega
  have i2 : 0 ≤ (j : Int) := by omega
  have i3 : (j : Int) < (([1, 2, 4] : List Int).length : Int) := i1
  have i4 : 0 ≤ (cbN m cls : Int) := by omega
  refine Ev.step (fun f => modes_Best.l1.eq_2 ..) ?_
  refine Ev.ifp i1 (Ev.ifp i2 (Ev.ifp i3 ?_))
  simp only [hrd]
  refine Ev.bind (g := fun f => modes_countBits.f f m cls) (countBits_ev m cls hm h0 h2) ?_
  refine Ev.ifp i4 ?_
  rw [hs, hw, mn_min]
  exact hl
theorem best_l1 (at_ : Nat) (hat : at_ < x0.length) (P : List S106) (rest : List S106) (hP : P.length = x0.length + 1) (hr : P.drop (at_ + 1) = rest) (hok : RestOk (x0.length - at_ - 1) rest) (hini : P.getD at_ z106 = initS) (r : List S54 × Int × Int)
    (hE : Ev (fun f => modes_Best.l0 f x0 cls x0.length (P.set at_ (bestS cls (x0.drop at_) rest)) (wrap64 ((at_ : Int) - 1))) r) :
    Ev (fun f => modes_Best.l1 f x0 cls x0.length P at_ [1, 2, 4] 3 0) r := by
  have hlt : at_ < P.length := by omega
  have i8 : at_ < at_ + 1 := by omega
  refine best_mode h0 h2 hn hx 1 (.inl rfl) 0 (by omega) rfl at_ hat P rest hP hr hok r ?_
  refine best_mode h0 h2 hn hx 2 (.inr (.inl rfl)) 1 (by omega) rfl at_ hat _ rest (by rw [List.length_set]; exact hP) (by rw [List.drop_set_of_lt i8]; exact hr) hok r ?_
  refine best_mode h0 h2 hn hx 4 (.inr (.inr rfl)) 2 (by omega) rfl at_ hat _ rest (by rw [List.length_set, List.length_set]; exact hP) (by rw [List.drop_set_of_lt i8, List.drop_set_of_lt i8]; exact hr) hok r ?_
  simp only [getD_set P at_ z106 _ hlt, List.set_set, hini]
  refine Ev.step (fun f => modes_Best.l1.eq_2 ..) ?_
  exact Ev.ifn (by decide) hE
theorem best_l0 (r : List S54 × Int × Int) (hE : Ev (fun f => modes_Best.l3 f x0.length (planS cls x0) x0 [] 0) r) : ∀ (i : Nat) (P : List S106), i ≤ x0.length → P.length = x0.length + 1 → P.drop i = planS cls (x0.drop i) →
    Ev (fun f => modes_Best.l0 f x0 cls x0.length P ((i : Int) - 1)) r := by
  intro i
  induction i with
  | zero =>
    intro P _ hP hd
    refine Ev.step (fun f => modes_Best.l0.eq_2 ..) ?_
    refine Ev.ifn (by decide) ?_
    have hcl : slices_Clone_byte_byte.f x0 = some x0 := by unfold slices_Clone_byte_byte.f; rw [if_pos (by omega)]
    rw [hcl]
    simp only [List.drop_zero] at hd
    subst hd
    exact hE
  | succ i ih =>
    intro P hi hP hd
    have hw : wrap64 ((i : Int) - 1) = (i : Int) - 1 := w64 (by omega) (by omega)
    have e0 : (((i + 1 : Nat) : Int) - 1) = (i : Int) := by omega
    have i1 : (i : Int) ≥ 0 := by omega
    have i2 : (i : Int) < (P.length : Int) := by omega
    have hlt : i < x0.length := by omega
    have hlp : i < P.length := by omega
    have i8 : i < i + 1 := by omega
    have hok := planS_ok h0 h2 (x0.drop (i + 1)) (by rw [List.length_drop]; omega)
    rw [List.length_drop, show x0.length - (i + 1) = x0.length - i - 1 by omega] at hok
    rw [e0]
    refine Ev.step (fun f => modes_Best.l0.eq_2 ..) ?_
    refine Ev.ifp i1 (Ev.ifp i1 (Ev.ifp i2 ?_))
    simp only [Option.bind_some, Int.toNat_natCast]
    refine best_l1 h0 h2 hn hx i hlt _ (planS cls (x0.drop (i + 1))) (by rw [List.length_set]; exact hP) (by rw [List.drop_set_of_lt i8]; exact hd) hok (getD_set P i _ _ hlp) r ?_
    rw [List.set_set, hw]
    refine ih _ (by omega) (by rw [List.length_set]; exact hP) ?_
    rw [List.drop_eq_getElem_cons (by rw [List.length_set]; exact hlp), List.getElem_set_self, List.drop_set_of_lt i8, hd, List.drop_eq_getElem_cons hlt]
    rfl
omit hx in
theorem best_l3 : ∀ (d i : Nat) (out : List S54), x0.length - i ≤ d → i ≤ x0.length → out.length ≤ i →
    Ev (fun f => modes_Best.l3 f x0.length (planS cls x0) x0 out i) (out ++ segS cls d (x0.drop i), bitsS cls x0, 0) := by
  intro d
  induction d with
  | zero =>
    intro i out hd hi ho
    have i1 : ¬ (i : Int) < (x0.length : Int) := by omega
    have i2 : (0 : Int) < ((planS cls x0).length : Int) := by have := planS_len cls x0; omega
    refine Ev.step (fun f => modes_Best.l3.eq_2 ..) ?_
    refine Ev.ifn i1 (Ev.ifp i2 ?_)
    have e1 : (rd_T106 (planS cls x0) 0).f0 = bitsS cls x0 := by
      unfold bitsS rd_T106
      cases planS cls x0 <;> rfl
    rw [e1]
    simp only [segS, List.append_nil]
    exact Ev.now _
  | succ d ih =>
    intro i out hd hi ho
    have hPl := planS_len cls x0
    by_cases hlt : i < x0.length
    · have hok := planS_ok h0 h2 (x0.drop i) (by rw [List.length_drop]; omega)
      have hdr := planS_drop cls x0 i (by omega)
      cases hp : planS cls (x0.drop i) with
      | nil =>
        have := planS_len cls (x0.drop i)
        rw [hp] at this
        simp at this
      | cons p rest =>
        have hpk := (hok 0 p (by rw [hp]; rfl)).2
        have hp1 := hpk.l0 (by simp; omega)
        have hp2 := hpk.l1
        simp only [List.length_drop, Nat.sub_zero] at hp2
        have hg : (planS cls x0).getD i z106 = p := getD_drop (by rw [hdr, hp])
        obtain ⟨n, hn'⟩ := Int.eq_ofNat_of_zero_le (show 0 ≤ p.f2 by omega)
        have e1 : rd_T106 (planS cls x0) (i : Int) = p := by rw [rd106, hg]
        have e2 : wrap64 ((i : Int) + p.f2) = ((i + n : Nat) : Int) := by rw [hn', w64 (by omega) (by omega)]; omega
        have i1 : (i : Int) < (x0.length : Int) := by omega
        have i2 : 0 ≤ (i : Int) := by omega
        have i3 : (i : Int) < ((planS cls x0).length : Int) := by omega
        have i4 : (i : Int) ≤ ((i + n : Nat) : Int) := by omega
        have i5 : ((i + n : Nat) : Int) ≤ (x0.length : Int) := by omega
        have i6 : out.length < 4398046511104 := by omega
        have ihh := ih (i + n) (out ++ [⟨p.f3, (x0.drop i).take n⟩]) (by omega) (by omega) (by simp; omega)
        refine Ev.step (fun f => modes_Best.l3.eq_2 ..) ?_
        refine Ev.ifp i1 (Ev.ifp i2 (Ev.ifp i3 ?_))
        simp only [e1, e2]
        refine Ev.ifp i4 (Ev.ifp i5 (Ev.ifp i6 ?_))
        simp only [Int.toNat_natCast]
        have hcut : (x0.take (i + n)).drop i = (x0.drop i).take n := by rw [List.drop_take]; congr 1; omega
        rw [hcut]
        have hseg : out ++ segS cls (d + 1) (x0.drop i) = out ++ [⟨p.f3, (x0.drop i).take n⟩] ++ segS cls d (x0.drop (i + n)) := by
          rw [segS, if_neg (by intro h; have := congrArg List.length h; simp at this; omega), hp]
          simp only [List.headD_cons, hn', Int.toNat_natCast, List.append_assoc, List.cons_append, List.nil_append, List.drop_drop]
        rw [hseg]
        exact ihh
    · have i1 : ¬ (i : Int) < (x0.length : Int) := by omega
      have i2 : (0 : Int) < ((planS cls x0).length : Int) := by omega
      refine Ev.step (fun f => modes_Best.l3.eq_2 ..) ?_
      refine Ev.ifn i1 (Ev.ifp i2 ?_)
      have e1 : (rd_T106 (planS cls x0) 0).f0 = bitsS cls x0 := by
        unfold bitsS rd_T106
        cases planS cls x0 <;> rfl
      rw [e1, segS, if_pos (List.drop_eq_nil_of_le (by omega)), List.append_nil]
      exact Ev.now _
theorem best_ev : Ev (fun k => modes_Best.f k x0 cls) (segS cls x0.length x0, bitsS cls x0, 0) := by
  have hw1 : wrap64 ((x0.length : Int) + 1) = ((x0.length + 1 : Nat) : Int) := wr_add1 _ (by omega)
  have hw2 : wrap64 ((x0.length : Int) - 1) = (x0.length : Int) - 1 := w64 (by omega) (by omega)
  have i1 : ¬ cls < 0 := by omega
  have i2 : ¬ decide (cls > 2) = true := by simp; omega
  have i3 : ¬ (x0.length : Int) > 4096 := by omega
  have i4 : 0 ≤ ((x0.length + 1 : Nat) : Int) := by omega
  have i5 : (((x0.length + 1 : Nat) : Int)).toNat ≤ 8796093022208 := by rw [Int.toNat_natCast]; omega
  have h3 := best_l3 (cls := cls) h0 h2 hn x0.length 0 [] (by omega) (by omega) (by simp)
  simp only [List.nil_append, List.drop_zero] at h3
  have hz := best_l0 h0 h2 hn hx _ h3 x0.length (List.replicate (x0.length + 1) z106) (Nat.le_refl _) (by simp) (by
    rw [List.drop_replicate, List.drop_length, show x0.length + 1 - x0.length = 1 by omega]
    rfl)
  unfold modes_Best.f
  refine Ev.ifn i1 ?_
  refine Ev.step (fun f => modes_Best.j0.eq_2 ..) ?_
  refine Ev.ifn i2 (Ev.ifn i3 ?_)
  simp only [hw1, hw2]
  refine Ev.ifp i4 (Ev.ifp i5 ?_)
  simp only [Int.toNat_natCast]
  exact hz
end

end Go.Proofs.Ytclbjddcenkidaa.PS
namespace Go.Proofs.Ytclbjddcenkidaa.PS
open Go.RowKit Go.Proofs.YtclbjddcenkidaaW.PrintWords Go.Proofs.YtclbjddcenkidaaW.PrintLast Go.Proofs.YtclbjddcenkidaaW.PrintMore
attribute [local go_sem] max2_int min2_int max_two min_two max_three min_three max_four min_four
open Go.Maps
theorem wr_nat (i : Nat) (h : i ≤ 1000000) : wrap64 ((i : Int) + 1) = ((i + 1 : Nat) : Int) := by unfold wrap64; omega
theorem rd42 {l : List S42} {i : Nat} (h : i < l.length) : rd_T42 l (i : Int) = l[i] := by rw [rd_T42, Int.toNat_natCast]; simp [List.getD_eq_getElem?_getD, List.getElem?_eq_getElem h]
theorem rd54 {l : List S54} {i : Nat} (h : i < l.length) : rd_T54 l (i : Int) = l[i] := by rw [rd_T54, Int.toNat_natCast]; simp [List.getD_eq_getElem?_getD, List.getElem?_eq_getElem h]
/-- few messages, of few segments, of few bytes -/
def fewM (m : S42) : Prop := m.f0.length ≤ 100 ∧ (joinS m.f0).length ≤ 100000
def fewL (l : List S42) : Prop := l.length ≤ 100 ∧ ∀ m ∈ l, fewM m
theorem join_take (l : List S54) (i : Nat) (h : i < l.length) : joinS (l.take (i + 1)) = joinS (l.take i) ++ l[i].f1 := by
  show (l.take (i + 1)).flatMap (·.f1) = (l.take i).flatMap (·.f1) ++ l[i].f1
  rw [List.take_add_one, List.getElem?_eq_getElem h, List.flatMap_append]
  congr 1
  exact List.flatMap_singleton (·.f1) l[i]
theorem join_le (l : List S54) (i : Nat) : (joinS (l.take i)).length ≤ (joinS l).length := by
  have e2 : joinS l = joinS (l.take i) ++ joinS (l.drop i) := by
    rw [joinS, joinS, joinS, ← List.flatMap_append, List.take_append_drop]
  rw [e2, List.length_append]; omega
theorem rjoin_ev {l : List S54} (h1 : l.length ≤ 100) (h2 : (joinS l).length ≤ 100000) : Ev (fun f => barscanref16_Join.f f l) (joinS l) := by
  unfold barscanref16_Join.f
  suffices H : ∀ n i, i + n = l.length → Ev (fun f => barscanref16_Join.l0 f l (joinS (l.take i)) (i : Int)) (joinS l) from H l.length 0 (by omega)
  intro n
  induction n with
  | zero =>
    intro i hi
    refine Ev.step (fun f => barscanref16_Join.l0.eq_2 ..) ?_
    refine Ev.ifn (by omega) ?_
    rw [show i = l.length by omega, List.take_length]
    exact Ev.now _
  | succ n ih =>
    intro i hi
    have hlt : i < l.length := by omega
    have hb := join_le l (i + 1)
    rw [join_take l i hlt, List.length_append] at hb
    refine Ev.step (fun f => barscanref16_Join.l0.eq_2 ..) ?_
    refine Ev.ifp (by omega) (Ev.ifp (by omega) (Ev.ifp (by rw [rd54 hlt]; omega) ?_))
    rw [wr_nat i (by omega), rd54 hlt, ← join_take l i hlt]
    exact ih (i + 1) (by omega)
theorem contents_ev {m : S42} (h : fewM m) : Ev (fun f => barscanref23_contents.f f m.f0 m.f1.f0 m.f1.f1 m.f1.f2) (textB m) := by
  unfold barscanref23_contents.f
  exact Ev.bind (g := fun f => barscanref16_Join.f f m.f0) (rjoin_ev h.1 h.2) (Ev.now _)
theorem header_f (a : S40) : barscanref23_header.f a.f0 a.f1 a.f2 = some (validS a) := by
  unfold barscanref23_header.f validS
  repeat' split
  all_goals first | (simp_all; done) | (simp_all; omega)
def findS (l : List S42) (x : Int) : Int := match l.findIdx? (fun m => m.f1.f0 == x) with | some i => (i : Int) | none => -1
theorem find_ev {l : List S42} (h : l.length ≤ 100) (x : Int) : Ev (fun f => barscanref23_find.f f l x) (findS l x) := by
  unfold barscanref23_find.f
  suffices H : ∀ n i, i + n = l.length → (∀ j (hj : j < l.length), j < i → l[j].f1.f0 ≠ x) → Ev (fun f => barscanref23_find.l0 f l x (i : Int)) (findS l x) from H l.length 0 (by omega) (fun j _ hj => by omega)
  intro n
  induction n with
  | zero =>
    intro i hi hno
    refine Ev.step (fun f => barscanref23_find.l0.eq_2 ..) ?_
    refine Ev.ifn (by omega) ?_
    have : l.findIdx? (fun m => m.f1.f0 == x) = none := by
      rw [List.findIdx?_eq_none_iff]
      intro m hm
      obtain ⟨j, hj, rfl⟩ := List.mem_iff_getElem.1 hm
      exact beq_eq_false_iff_ne.2 (hno j hj (by omega))
    unfold findS
    rw [this]
    exact Ev.now _
  | succ n ih =>
    intro i hi hno
    have hlt : i < l.length := by omega
    refine Ev.step (fun f => barscanref23_find.l0.eq_2 ..) ?_
    refine Ev.ifp (by omega) (Ev.ifp (by omega) ?_)
    rw [rd42 hlt]
    by_cases e : l[i].f1.f0 = x
    · refine Ev.ifp e ?_
      have : l.findIdx? (fun m => m.f1.f0 == x) = some i := by
        rw [List.findIdx?_eq_some_iff_getElem]
        exact ⟨hlt, by simpa using e, fun j hj => by simpa using hno j (by omega) hj⟩
      unfold findS
      rw [this]
      exact Ev.now _
    · refine Ev.ifn e ?_
      rw [wr_nat i (by omega)]
      refine ih (i + 1) (by omega) fun j hj hji => ?_
      by_cases e2 : j = i
      · subst e2; exact e
      · exact hno j hj (by omega)
theorem find_some {l : List S42} {x : Int} {i : Nat} (h : i < l.length) (hx : l[i].f1.f0 = x) : ∃ k, ∃ hk : k < l.length, findS l x = (k : Int) ∧ l[k].f1.f0 = x := by
  unfold findS
  cases hf : l.findIdx? (fun m => m.f1.f0 == x) with
  | none =>
    rw [List.findIdx?_eq_none_iff] at hf
    have := hf _ (List.getElem_mem h)
    simp [hx] at this
  | some k =>
    rw [List.findIdx?_eq_some_iff_getElem] at hf
    obtain ⟨hk, h1, _⟩ := hf
    exact ⟨k, hk, rfl, by simpa using h1⟩
theorem find_none {l : List S42} {x : Int} (h : ∀ m ∈ l, m.f1.f0 ≠ x) : findS l x = -1 := by
  unfold findS
  have : l.findIdx? (fun m => m.f1.f0 == x) = none := by
    rw [List.findIdx?_eq_none_iff]
    intro m hm
    exact beq_eq_false_iff_ne.2 (h m hm)
  rw [this]
section
variable {l : List S42} (hl : fewL l)
include hl
theorem chk_l2_ok {i : Nat} (hi : i < l.length) {r : Int} (hr : Ev (fun f => barscanref23_Check.l1 f l ((i + 1 : Nat) : Int)) r) (a b : Int)
    (hok : ∀ k (hk : k < l.length), k < i → l[k].f1.f0 = l[i].f1.f0 → textB l[k] = textB l[i]) : ∀ n k, k + n = i → Ev (fun f => barscanref23_Check.l2 f l (i : Int) (k : Int) l[i].f1.f0 a b) r := by
  intro n
  induction n with
  | zero =>
    intro k hk
    refine Ev.step (fun f => barscanref23_Check.l2.eq_2 ..) ?_
    refine Ev.ifn (by omega) ?_
    rw [wr_nat i (by have := hl.1; omega)]
    exact hr
  | succ n ih =>
    intro k hk
    have hkl : k < l.length := by omega
    have hnx := ih (k + 1) (by omega)
    have hb := hl.1
    refine Ev.step (fun f => barscanref23_Check.l2.eq_2 ..) ?_
    refine Ev.ifp (by omega) (Ev.ifp (by omega) (Ev.ifp (by omega) ?_))
    rw [rd42 hkl, wr_nat k (by omega)]
    by_cases e : l[k].f1.f0 = l[i].f1.f0
    · refine Ev.ifp e ?_
      refine Ev.bind (g := fun f => barscanref23_contents.f f l[k].f0 l[k].f1.f0 l[k].f1.f1 l[k].f1.f2) (contents_ev (hl.2 _ (List.getElem_mem hkl))) ?_
      refine Ev.ifp (by omega) (Ev.ifp (by omega) ?_)
      rw [rd42 hi]
      refine Ev.bind (g := fun f => barscanref23_contents.f f l[i].f0 l[i].f1.f0 l[i].f1.f1 l[i].f1.f2) (contents_ev (hl.2 _ (List.getElem_mem hi))) ?_
      exact Ev.ifp (by rw [hok k hkl (by omega) e]) hnx
    · exact Ev.ifn e hnx
theorem chk_l2_bad {i j : Nat} (hi : i < l.length) (hj : j < l.length) (hji : j < i) (he : l[j].f1.f0 = l[i].f1.f0) (hne : textB l[j] ≠ textB l[i]) (a b : Int) : ∀ n k, k + n = j → Ev (fun f => barscanref23_Check.l2 f l (i : Int) (k : Int) l[i].f1.f0 a b) 34 := by
  intro n
  have hb := hl.1
  induction n with
  | zero =>
    intro k hk
    obtain rfl : k = j := by omega
    refine Ev.step (fun f => barscanref23_Check.l2.eq_2 ..) ?_
    refine Ev.ifp (by omega) (Ev.ifp (by omega) (Ev.ifp (by omega) ?_))
    rw [rd42 hj]
    refine Ev.ifp he ?_
    refine Ev.bind (g := fun f => barscanref23_contents.f f l[k].f0 l[k].f1.f0 l[k].f1.f1 l[k].f1.f2) (contents_ev (hl.2 _ (List.getElem_mem hj))) ?_
    refine Ev.ifp (by omega) (Ev.ifp (by omega) ?_)
    rw [rd42 hi]
    refine Ev.bind (g := fun f => barscanref23_contents.f f l[i].f0 l[i].f1.f0 l[i].f1.f1 l[i].f1.f2) (contents_ev (hl.2 _ (List.getElem_mem hi))) ?_
    exact Ev.ifn (fun h => hne (same_bytes h)) (Ev.now _)
  | succ n ih =>
    intro k hk
    have hkl : k < l.length := by omega
    have hnx := ih (k + 1) (by omega)
    refine Ev.step (fun f => barscanref23_Check.l2.eq_2 ..) ?_
    refine Ev.ifp (by omega) (Ev.ifp (by omega) (Ev.ifp (by omega) ?_))
    rw [rd42 hkl, wr_nat k (by omega)]
    by_cases e : l[k].f1.f0 = l[i].f1.f0
    · refine Ev.ifp e ?_
      refine Ev.bind (g := fun f => barscanref23_contents.f f l[k].f0 l[k].f1.f0 l[k].f1.f1 l[k].f1.f2) (contents_ev (hl.2 _ (List.getElem_mem hkl))) ?_
      refine Ev.ifp (by omega) (Ev.ifp (by omega) ?_)
      rw [rd42 hi]
      refine Ev.bind (g := fun f => barscanref23_contents.f f l[i].f0 l[i].f1.f0 l[i].f1.f1 l[i].f1.f2) (contents_ev (hl.2 _ (List.getElem_mem hi))) ?_
      by_cases e2 : (textB l[k]).toList = (textB l[i]).toList
      · exact Ev.ifp e2 hnx
      · exact Ev.ifn e2 (Ev.now _)
    · exact Ev.ifn e hnx
theorem chk_l1 (hv : l.any (fun m => !validS m.f1) = false) (h0 : l.length ≠ 0) : ∀ n i, i + n = l.length → AgreeP (l.take i) → (∀ m ∈ l.take i, m.f1.f1 = (rd_T42 l 0).f1.f1 ∧ m.f1.f2 = (rd_T42 l 0).f1.f2) → ∃ r, ChkIs l r ∧ Ev (fun f => barscanref23_Check.l1 f l (i : Int)) r := by
  intro n
  have hb := hl.1
  induction n with
  | zero =>
    intro i hi ha _
    rw [show i = l.length by omega, List.take_length] at ha
    refine ⟨0, .inr (.inr (.inr ⟨h0, hv, ha, rfl⟩)), ?_⟩
    refine Ev.step (fun f => barscanref23_Check.l1.eq_2 ..) ?_
    exact Ev.ifn (by omega) (Ev.now _)
  | succ n ih =>
    intro i hi ha ht
    have hlt : i < l.length := by omega
    have hmi : l[i] ∈ l := List.getElem_mem hlt
    have hm0 := first_mem h0
    have hno : ∀ {p : Prop}, (AgreeP l → p) → ¬ p → ¬ AgreeP l := fun h1 h2 h3 => h2 (h1 h3)
    have hsub : ∀ k (hk : k < l.length), k < i → l[k] ∈ l.take i := fun k hk hki => by
      rw [List.mem_take_iff_getElem]
      exact ⟨k, by omega, rfl⟩
    by_cases e1 : (rd_T42 l 0).f1.f1 = l[i].f1.f1
    · by_cases e2 : (rd_T42 l 0).f1.f2 = l[i].f1.f2
      · by_cases hok : ∀ k (hk : k < l.length), k < i → l[k].f1.f0 = l[i].f1.f0 → textB l[k] = textB l[i]
        · have htk : ∀ m ∈ l.take (i + 1), m ∈ l.take i ∨ m = l[i] := fun m hm => by
            rw [List.take_add_one, List.getElem?_eq_getElem hlt, List.mem_append] at hm
            simpa using hm
          have hix : ∀ m ∈ l.take i, m.f1.f0 = l[i].f1.f0 → textB m = textB l[i] := fun m hm he => by
            rw [List.mem_take_iff_getElem] at hm
            obtain ⟨k, hk, rfl⟩ := hm
            exact hok k (by omega) (by omega) he
          obtain ⟨r, hc, hr⟩ := ih (i + 1) (by omega) (by
            intro m hm m' hm'
            rcases htk m hm with h | h <;> rcases htk m' hm' with h' | h'
            · exact ha m h m' h'
            · subst h'
              obtain ⟨t1, t2⟩ := ht m h
              exact ⟨t1.trans e1, t2.trans e2, hix m h⟩
            · subst h
              obtain ⟨t1, t2⟩ := ht m' h'
              exact ⟨e1.symm.trans t1.symm, e2.symm.trans t2.symm, fun he => (hix m' h' he.symm).symm⟩
            · subst h; subst h'
              exact ⟨rfl, rfl, fun _ => rfl⟩) (by
            intro m hm
            rcases htk m hm with h | h
            · exact ht m h
            · subst h; exact ⟨e1.symm, e2.symm⟩)
          refine ⟨r, hc, ?_⟩
          refine Ev.step (fun f => barscanref23_Check.l1.eq_2 ..) ?_
          refine Ev.ifp (by omega) (Ev.ifp (by omega) (Ev.ifp (by omega) ?_))
          rw [rd42 hlt]
          refine Ev.ifp e1 ?_
          refine Ev.step (fun f => barscanref23_Check.j2.eq_2 ..) ?_
          refine Ev.ifn (by simp [e2]) ?_
          exact chk_l2_ok hl hlt hr _ _ hok i 0 (by omega)
        · have hx : ∃ k, ∃ hk : k < l.length, k < i ∧ l[k].f1.f0 = l[i].f1.f0 ∧ textB l[k] ≠ textB l[i] := by
            refine Classical.byContradiction fun hcon => hok fun k hk hki he => Classical.byContradiction fun hne => hcon ⟨k, hk, hki, he, hne⟩
          obtain ⟨k, hk, hki, he, hne⟩ := hx
          refine ⟨34, .inr (.inr (.inl ⟨h0, hv, fun hA => hne ((hA _ (List.getElem_mem hk) _ hmi).2.2 he), rfl⟩)), ?_⟩
          refine Ev.step (fun f => barscanref23_Check.l1.eq_2 ..) ?_
          refine Ev.ifp (by omega) (Ev.ifp (by omega) (Ev.ifp (by omega) ?_))
          rw [rd42 hlt]
          refine Ev.ifp e1 ?_
          refine Ev.step (fun f => barscanref23_Check.j2.eq_2 ..) ?_
          refine Ev.ifn (by simp [e2]) ?_
          exact chk_l2_bad hl hlt hk hki he hne _ _ k 0 (by omega)
      · refine ⟨34, .inr (.inr (.inl ⟨h0, hv, fun hA => e2 (hA _ hm0 _ hmi).2.1, rfl⟩)), ?_⟩
        refine Ev.step (fun f => barscanref23_Check.l1.eq_2 ..) ?_
        refine Ev.ifp (by omega) (Ev.ifp (by omega) (Ev.ifp (by omega) ?_))
        rw [rd42 hlt]
        refine Ev.ifp e1 ?_
        refine Ev.step (fun f => barscanref23_Check.j2.eq_2 ..) ?_
        exact Ev.ifp (by simp [e2]) (Ev.now _)
    · refine ⟨34, .inr (.inr (.inl ⟨h0, hv, fun hA => e1 (hA _ hm0 _ hmi).1, rfl⟩)), ?_⟩
      refine Ev.step (fun f => barscanref23_Check.l1.eq_2 ..) ?_
      refine Ev.ifp (by omega) (Ev.ifp (by omega) (Ev.ifp (by omega) ?_))
      rw [rd42 hlt]
      refine Ev.ifn e1 ?_
      refine Ev.step (fun f => barscanref23_Check.j2.eq_2 ..) ?_
      exact Ev.ifp rfl (Ev.now _)
theorem check_ev : Ev (fun f => barscanref23_Check.f f l) (colS l).1 := by
  have hb := hl.1
  suffices H : ∃ r, ChkIs l r ∧ Ev (fun f => barscanref23_Check.f f l) r by
    obtain ⟨r, hc, hr⟩ := H
    rwa [(col_chk l).1.one hc]
  unfold barscanref23_Check.f
  by_cases h0 : l.length = 0
  · exact ⟨5, .inl ⟨h0, rfl⟩, Ev.ifp (by omega) (Ev.now _)⟩
  · suffices H : ∀ n i, i + n = l.length → (∀ k (hk : k < l.length), k < i → validS l[k].f1 = true) → ∃ r, ChkIs l r ∧ Ev (fun f => barscanref23_Check.l0 f l (i : Int)) r by
      obtain ⟨r, hc, hr⟩ := H l.length 0 (by omega) (fun k _ hk => by omega)
      exact ⟨r, hc, Ev.ifn (by omega) hr⟩
    intro n
    induction n with
    | zero =>
      intro i hi hv
      have hva : l.any (fun m => !validS m.f1) = false := by
        rw [List.any_eq_false]
        intro m hm
        obtain ⟨k, hk, rfl⟩ := List.mem_iff_getElem.1 hm
        simp [hv k hk (by omega)]
      obtain ⟨r, hc, hr⟩ := chk_l1 hl hva h0 l.length 0 (by omega) (fun m hm => by simp at hm) (fun m hm => by simp at hm)
      refine ⟨r, hc, ?_⟩
      refine Ev.step (fun f => barscanref23_Check.l0.eq_2 ..) ?_
      exact Ev.ifn (by omega) hr
    | succ n ih =>
      intro i hi hv
      have hlt : i < l.length := by omega
      cases e : validS l[i].f1 with
      | true =>
        obtain ⟨r, hc, hr⟩ := ih (i + 1) (by omega) (fun k hk hki => by
          by_cases e2 : k = i
          · subst e2; exact e
          · exact hv k hk (by omega))
        refine ⟨r, hc, ?_⟩
        refine Ev.step (fun f => barscanref23_Check.l0.eq_2 ..) ?_
        refine Ev.ifp (by omega) (Ev.ifp (by omega) ?_)
        rw [rd42 hlt, header_f, wr_nat i (by omega)]
        refine Ev.bind (g := fun _ => some (validS l[i].f1)) (Ev.now _) ?_
        exact Ev.ifp e hr
      | false =>
        refine ⟨1, .inr (.inl ⟨h0, List.any_eq_true.2 ⟨_, List.getElem_mem hlt, by simp [e]⟩, rfl⟩), ?_⟩
        refine Ev.step (fun f => barscanref23_Check.l0.eq_2 ..) ?_
        refine Ev.ifp (by omega) (Ev.ifp (by omega) ?_)
        rw [rd42 hlt, header_f]
        refine Ev.bind (g := fun _ => some (validS l[i].f1)) (Ev.now _) ?_
        exact Ev.ifn (by simp [e]) (Ev.now _)
theorem rmissing_ev : Ev (fun f => barscanref23_Missing.f f l) (missS l) := by
  have hb := hl.1
  unfold barscanref23_Missing.f
  refine Ev.bind (g := fun f => barscanref23_Check.f f l) (check_ev hl) ?_
  unfold missS
  by_cases h0 : (colS l).1 = 0
  · rw [if_pos h0]
    refine Ev.ifp h0 ?_
    obtain ⟨ht, _⟩ := (col_chk l).2 h0
    have hlen := ok_len h0
    have htot := total_bd (ok_total h0)
    obtain ⟨n, hn⟩ : ∃ n : Nat, (rd_T42 l 0).f1.f1 = (n : Int) := ⟨(rd_T42 l 0).f1.f1.toNat, by omega⟩
    rw [hn, Int.toNat_natCast]
    have hn16 : n ≤ 16 := by omega
    suffices H : ∀ q i, i + q = n → Ev (fun f => barscanref23_Missing.l0 f l (missL (colS l).2 i) (i : Int)) (missL (colS l).2 n, (0 : Int)) from H n 0 (by omega)
    intro q
    induction q with
    | zero =>
      intro i hi
      obtain rfl : i = n := by omega
      refine Ev.step (fun f => barscanref23_Missing.l0.eq_2 ..) ?_
      refine Ev.ifp (by omega) ?_
      rw [hn]
      exact Ev.ifn (by omega) (Ev.now _)
    | succ q ih =>
      intro i hi
      have hnx := ih (i + 1) (by omega)
      have hml := missL_len (colS l).2 i
      have hms := missL_succ (colS l).2 i
      refine Ev.step (fun f => barscanref23_Missing.l0.eq_2 ..) ?_
      refine Ev.ifp (by omega) ?_
      rw [hn]
      refine Ev.ifp (by omega) ?_
      refine Ev.bind (g := fun f => barscanref23_find.f f l (i : Int)) (find_ev hb _) ?_
      rw [wr_nat i (by omega)]
      cases hlk : (colS l).2.lookup (i : Int) with
      | none =>
        have : findS l (i : Int) = -1 := find_none fun m hm he => by
          have := (ht.look (i : Int) (textB m)).2 ⟨m, hm, he, rfl⟩
          rw [hlk] at this
          simp at this
        rw [hlk] at hms
        rw [this]
        refine Ev.ifp (by omega) (Ev.ifp (by omega) ?_)
        rw [show missL (colS l).2 i ++ [(i : Int)] = missL (colS l).2 (i + 1) by rw [hms]; rfl]
        exact hnx
      | some s =>
        obtain ⟨m, hm, he, _⟩ := (ht.look _ _).1 hlk
        obtain ⟨j, hj, rfl⟩ := List.mem_iff_getElem.1 hm
        obtain ⟨k, hk, e1, _⟩ := find_some hj he
        rw [hlk] at hms
        rw [e1]
        refine Ev.ifn (by omega) ?_
        rw [show missL (colS l).2 i = missL (colS l).2 (i + 1) by rw [hms]; simp]
        exact hnx
  · rw [if_neg h0]
    exact Ev.ifn h0 (Ev.now _)
end

end Go.Proofs.Ytclbjddcenkidaa.PS
namespace Go.Proofs.Ytclbjddcenkidaa.PS
open Go.RowKit Go.Proofs.YtclbjddcenkidaaW.PrintWords Go.Proofs.YtclbjddcenkidaaW.PrintLast Go.Proofs.YtclbjddcenkidaaW.PrintMore
attribute [local go_sem] max2_int min2_int max_two min_two max_three min_three max_four min_four   -- for this text's walks alone

def barscanref23_Parity.l0 : Nat → List Int → Int → Int → Option (Int)
 | 0, _, _, _ => none
 | k + 1, x0, x3, x4 => if x4 < (x0.length : Int) then (if 0 ≤ x4 then (barscanref23_Parity.l0 k x0 (Go.bits .xor .i64 x3 (wrap64 (rd x0 x4))) (wrap64 (x4 + 1))) else (none)) else (some x3)
def barscanref23_Parity.f (k : Nat) (l0 : List Int) : Option (Int) := barscanref23_Parity.l0 k l0 0 0
theorem barscanref23_Parity.mono_l : ∀ k, (∀ y0 y1 y2, LeO (barscanref23_Parity.l0 k y0 y1 y2) (barscanref23_Parity.l0 (k + 1) y0 y1 y2))
 | 0 => fun _ _ _ r h => by simp [barscanref23_Parity.l0] at h
 | k + 1 => by
  have ih0 := barscanref23_Parity.mono_l k
  ·intro y0 y1 y2
   unfold barscanref23_Parity.l0
   repeat' first
   | (with_reducible exact ih0 _ _ _)
   | (with_reducible exact LeO.refl _)
   | (with_reducible exact LeO.none _)
   | (with_reducible refine LeO.ite ?_ ?_)
   | (with_reducible refine LeO.bind ?_ (fun _ => ?_))
   | exact ih0 _ _ _
   | exact LeO.none _
   | refine LeO.ite ?_ ?_
   | refine LeO.bind ?_ (fun _ => ?_)
theorem barscanref23_Parity.mono : ∀ a0 k, LeO (barscanref23_Parity.f k a0) (barscanref23_Parity.f (k + 1) a0) := by
 intro a0 k
 have ih0 := barscanref23_Parity.mono_l k
 unfold barscanref23_Parity.f
 repeat' first
   | (with_reducible exact ih0 _ _ _)
   | (with_reducible exact LeO.refl _)
   | (with_reducible exact LeO.none _)
   | (with_reducible refine LeO.ite ?_ ?_)
   | (with_reducible refine LeO.bind ?_ (fun _ => ?_))
   | exact ih0 _ _ _
   | exact LeO.none _
   | refine LeO.ite ?_ ?_
   | refine LeO.bind ?_ (fun _ => ?_)
set_option maxHeartbeats 8000000 in
set_option maxRecDepth 100000 in
theorem barscanref23_Parity.calls (k : Nat) (A0 : Option Addr) (c0 : Nat) (l0 : List Int) (r : Int) (w : World) (hr0 : Kd.C (Kd.int .u8) w A0 l0.length l0) (hc0 : l0.length ≤ c0) (h : barscanref23_Parity.f k l0 = some r) :
  Calls Try.prog 9 #[.slice A0 l0.length c0] w fun e w' => e = .returned (.int .i64 r) ∧ Drawn0 w w' := by
 have HR0 := Aside0.mk hr0
 have HC0 := Aside0.mk hc0
 clear hr0 hc0
 have H : (barscanref23_Parity.l0 k l0 0 0) = some r := h
 clear h
 have H' := Aside0.mk H
 clear H
 go_enter Try.func9, Try.ntmps9
 go_wp2
 go_loopg [3, 4] k (fun kq v3 v4 w' => ∃ (x3_1 : Int) (x4_1 : Int), v3 = .int .i64 x3_1 ∧ v4 = .int .i64 x4_1 ∧ Aside0 (barscanref23_Parity.l0 kq l0 x3_1 x4_1 = some r) ∧ Aside0 (kq ≤ k) ∧ Drawn0 w w')
 case atStart => exact ⟨(0), (0), (by first | rfl | (simp; done) | (simp [*]; done)), (by first | rfl | (simp; done) | (simp [*]; done)), H', ⟨Nat.le_refl _⟩, by repeat (first | exact Drawn0.refl _ | apply Drawn0.step)⟩
 case round =>
  clear H'
  obtain ⟨x3_1, x4_1, rfl, rfl, HA, HK1, ⟨m1, rfl⟩⟩ := hrel
  cases gk with
  | zero => exact absurd HA.out (by simp [barscanref23_Parity.l0])
  | succ k1 =>
   have H := HA.out
   clear HA
   simp only [barscanref23_Parity.l0] at H
   by_cases c2 : x4_1 < (l0.length : Int)
   ·rw [if_pos c2] at H
    have c2b0 : decide (x4_1 < (l0.length : Int)) = true := decide_eq_true c2
    clear c2
    by_cases c3 : 0 ≤ x4_1
    ·rw [if_pos c3] at H
     have c3b0 : decide (0 ≤ x4_1) = true := decide_eq_true c3
     clear c3
     have H' := Aside0.mk H
     clear H
     have p102 : 0 ≤ (x4_1 : Int) := of_decide_eq_true (by first | (with_reducible assumption) | assumption)
     have q102 : x4_1 < (l0.length : Int) := of_decide_eq_true (by first | (with_reducible assumption) | assumption)
     obtain ⟨ad102, e102, hx102_0⟩ := Kd.at_int HR0.out x4_1 p102 q102
     cases e102
     replace p102 := eq_true p102
     replace q102 := eq_true q102
     go_wp2
     go_roundg k1
     case measure => have := HK1.out; omega
     case rel => exact ⟨(Go.bits .xor .i64 x3_1 (wrap64 (rd l0 x4_1))), (wrap64 (x4_1 + 1)), (by first | rfl | (simp; done) | (simp [*]; done)), (by first | rfl | (simp; done) | (simp [*]; done)), H', ⟨by have := HK1.out; omega⟩, by repeat (first | exact Drawn0.refl _ | apply Drawn0.step)⟩
    ·rw [if_neg c3] at H
     exact absurd H (by simp)
   ·rw [if_neg c2] at H
    have c2b0 : decide (x4_1 < (l0.length : Int)) = false := decide_eq_false c2
    clear c2
    obtain rfl := Option.some.inj H
    go_wp2
    go_ret
    exact ⟨by first | rfl | (simp; done) | (simp [*]; done), by repeat (first | exact Drawn0.refl _ | apply Drawn0.step)⟩

end Go.Proofs.Ytclbjddcenkidaa.PS
namespace Go.Proofs.Ytclbjddcenkidaa.PS
open Go.RowKit Go.Proofs.YtclbjddcenkidaaW.PrintWords Go.Proofs.YtclbjddcenkidaaW.PrintLast Go.Proofs.YtclbjddcenkidaaW.PrintMore
attribute [local go_sem] max2_int min2_int max_two min_two max_three min_three max_four min_four
theorem bits_xor (k : IntKind) (hj : 8 ≤ k.bits) (hk : ∀ n : Int, 0 ≤ n → n < 2 ^ 8 → k.wrap n = n) (a b : Nat) (ha : a < 2 ^ 8) (hb : b < 2 ^ 8) : Go.bits .xor k a b = ((a ^^^ b : Nat) : Int) := by
  have hp : 2 ^ 8 ≤ 2 ^ k.bits := Nat.pow_le_pow_right (by decide) hj
  have ha' : a % 2 ^ k.bits = a := Nat.mod_eq_of_lt (Nat.lt_of_lt_of_le ha hp)
  have hb' : b % 2 ^ k.bits = b := Nat.mod_eq_of_lt (Nat.lt_of_lt_of_le hb hp)
  simp only [Go.bits, BitVec.ofInt_natCast, BitVec.toNat_xor, BitVec.toNat_ofNat, ha', hb']
  have hlt : a ^^^ b < 2 ^ 8 := Nat.xor_lt_two_pow ha hb
  exact hk _ (Int.natCast_nonneg _) (by exact_mod_cast hlt)
theorem xor_both (x c : Int) (hx : 0 ≤ x ∧ x < 256) (hc : 0 ≤ c ∧ c < 256) : Go.bits .xor .i64 x (wrap64 c) = Go.bits .xor .u8 x c ∧ 0 ≤ Go.bits .xor .u8 x c ∧ Go.bits .xor .u8 x c < 256 := by
  obtain ⟨a, rfl⟩ := Int.eq_ofNat_of_zero_le hx.1
  obtain ⟨b, rfl⟩ := Int.eq_ofNat_of_zero_le hc.1
  have hw : wrap64 (b : Int) = b := by unfold wrap64; omega
  have w64 : ∀ n : Int, 0 ≤ n → n < 2 ^ 8 → IntKind.i64.wrap n = n := fun n h0 h1 => IntWalk.i64_in _ (by omega)
  have hlt : a ^^^ b < 2 ^ 8 := Nat.xor_lt_two_pow (by omega) (by omega)
  rw [hw, bits_xor .u8 (by decide) wraps_u8 a b (by omega) (by omega), bits_xor .i64 (by decide) w64 a b (by omega) (by omega)]
  exact ⟨rfl, by omega, by omega⟩
theorem parF_bd (l : List Int) (hl : ∀ c ∈ l, 0 ≤ c ∧ c < 256) : 0 ≤ parF l ∧ parF l < 256 := by
  have H : ∀ (l : List Int) (x : Int), (∀ c ∈ l, 0 ≤ c ∧ c < 256) → 0 ≤ x ∧ x < 256 → 0 ≤ l.foldl (fun x c => Go.bits .xor .u8 x c) x ∧ l.foldl (fun x c => Go.bits .xor .u8 x c) x < 256 := by
    intro l
    induction l with
    | nil => intro x _ hx; exact hx
    | cons c l ih =>
      intro x h hx
      exact ih _ (fun d hd => h d (List.mem_cons_of_mem _ hd)) (xor_both x c hx (h c List.mem_cons_self)).2
  exact H l 0 hl (by omega)
theorem parS_eq (l : List Int) (hl : ∀ c ∈ l, 0 ≤ c ∧ c < 256) : parS l = parF l := by
  have := parF_bd l hl
  unfold parS wrap64
  omega
theorem refpar_ev (l : List Int) (hn : l.length < 4611686018427387904) (hl : ∀ c ∈ l, 0 ≤ c ∧ c < 256) : barscanref23_Parity.f (l.length + 1) l = some (parS l) := by
  suffices H : ∀ n i, i + n = l.length → barscanref23_Parity.l0 (n + 1) l (parF (l.take i)) (i : Int) = some (parF l) from by
    rw [parS_eq l hl]; exact H l.length 0 (by omega)
  intro n
  induction n with
  | zero =>
    intro i hi
    rw [barscanref23_Parity.l0, if_neg (by omega), show i = l.length by omega, List.take_length]
  | succ n ih =>
    intro i hi
    have hlt : i < l.length := by omega
    have hw : wrap64 ((i : Int) + 1) = ((i + 1 : Nat) : Int) := by unfold wrap64; omega
    have hr : rd l (i : Int) = l[i] := by rw [rd, Int.toNat_natCast]; simp [List.getD_eq_getElem?_getD, List.getElem?_eq_getElem hlt]
    have hb := parF_bd (l.take i) (fun c hc => hl c (List.mem_of_mem_take hc))
    have e : Go.bits .xor .i64 (parF (l.take i)) (wrap64 (rd l (i : Int))) = parF (l.take (i + 1)) := by
      rw [hr, (xor_both _ _ hb (hl _ (List.getElem_mem hlt))).1]
      unfold parF
      rw [List.take_add_one, List.getElem?_eq_getElem hlt, List.foldl_append]
      rfl
    rw [barscanref23_Parity.l0, if_pos (by omega), if_pos (by omega), hw, e]
    exact ih (i + 1) (by omega)
end Go.Proofs.Ytclbjddcenkidaa.PS
namespace Go.Proofs.Ytclbjddcenkidaa.PS
open Go.RowKit Go.Proofs.YtclbjddcenkidaaW.PrintWords Go.Proofs.YtclbjddcenkidaaW.PrintLast Go.Proofs.YtclbjddcenkidaaW.PrintMore
attribute [local go_sem] max2_int min2_int max_two min_two max_three min_three max_four min_four
open Go.Maps
def textAt (l : List S42) (x : Int) : ByteArray := textB (rd_T42 l (findS l x))
def catS (l : List S42) : Nat → ByteArray
  | 0 => ⟨#[]⟩
  | i + 1 => catS l i ++ textAt l (i : Int)
def rtext (l : List S42) : ByteArray := if 0 < (rd_T42 l 0).f1.f1 then catS l (rd_T42 l 0).f1.f1.toNat else textB (rd_T42 l 0)
def rjoinT (s : ByteArray) (a : S40) : List Int × Int := if 4096 < s.size then ([], 4) else if 0 < a.f1 ∧ parS (bytesOf s) ≠ a.f2 then ([], 8) else (bytesOf s, 0)
def rjoinP (l : List S42) : List Int × Int := if (missS l).2 ≠ 0 then ([], (missS l).2) else if 0 < (missS l).1.length then ([], 33) else rjoinT (rtext l) (rd_T42 l 0).f1
theorem text_size {m : S42} (h : fewM m) : (textB m).size ≤ 100000 := by rw [textB, strOfNums_size]; exact h.2
theorem missL_nil {es : List (Int × ByteArray)} {n : Nat} (h : missL es n = []) (i : Nat) (hi : i < n) : ∃ s, es.lookup (i : Int) = some s := by
  unfold missL at h
  rw [List.map_eq_nil_iff, List.filter_eq_nil_iff] at h
  have := h i (List.mem_range.2 hi)
  exact Option.isSome_iff_exists.1 (by simpa using this)
/-- what holds where nothing is missing -/
theorem whole {l : List S42} (h0 : (missS l).2 = 0) (h1 : (missS l).1.length = 0) : (colS l).1 = 0 ∧ l.length ≠ 0 ∧ 0 ≤ (rd_T42 l 0).f1.f1 ∧ (rd_T42 l 0).f1.f1 ≤ 16 ∧
    ∀ i : Nat, (i : Int) < (rd_T42 l 0).f1.f1 → ∃ k, ∃ hk : k < l.length, findS l (i : Int) = (k : Int) ∧ textAt l (i : Int) = textB l[k] ∧ (colS l).2.lookup (i : Int) = some (textB l[k]) := by
  unfold missS at h0 h1
  by_cases hc : (colS l).1 = 0
  · rw [if_pos hc] at h1
    have htot := total_bd (ok_total hc)
    refine ⟨hc, ok_len hc, htot.1, htot.2, fun i hi => ?_⟩
    obtain ⟨s, hs⟩ := missL_nil (List.length_eq_zero_iff.1 h1) i (by omega)
    obtain ⟨ht, _⟩ := (col_chk l).2 hc
    obtain ⟨m, hm, he, _⟩ := (ht.look _ _).1 hs
    obtain ⟨j, hj, rfl⟩ := List.mem_iff_getElem.1 hm
    obtain ⟨k, hk, e1, e2⟩ := find_some hj he
    refine ⟨k, hk, e1, ?_, (ht.look _ _).2 ⟨_, List.getElem_mem hk, e2, rfl⟩⟩
    rw [textAt, e1, rd42 hk]
  · rw [if_neg hc] at h0
    exact absurd h0 hc
theorem cat_size {l : List S42} (hl : fewL l) (hw : ∀ i : Nat, (i : Int) < (rd_T42 l 0).f1.f1 → ∃ k, ∃ hk : k < l.length, findS l (i : Int) = (k : Int) ∧ textAt l (i : Int) = textB l[k] ∧ (colS l).2.lookup (i : Int) = some (textB l[k])) :
    ∀ i : Nat, (i : Int) ≤ (rd_T42 l 0).f1.f1 → (catS l i).size ≤ i * 100000
  | 0, _ => by simp [catS, ByteArray.size]
  | i + 1, h => by
    have ih := cat_size hl hw i (by omega)
    obtain ⟨k, hk, _, e, _⟩ := hw i (by omega)
    have := text_size (hl.2 _ (List.getElem_mem hk))
    rw [catS, ByteArray.size_append, e]
    omega
theorem sj_step {w W W' : World} {p q : Addr} {u v : Value} (h : (W.cell? p = some u ∧ W.cell? q = some v) ∧ Aside0 (Below w.heap.size w W)) (hb : Below W.heap.size W W') :
    (W'.cell? p = some u ∧ W'.cell? q = some v) ∧ Aside0 (Below w.heap.size w W') :=
  ⟨⟨(hb.cell (World.block_lt_of_cell? W _ h.1.1)).trans h.1.1, (hb.cell (World.block_lt_of_cell? W _ h.1.2)).trans h.1.2⟩, ⟨below_then h.2.out h.2.out.size hb⟩⟩
theorem sj_bytes {w W : World} {p q : Addr} {u v : Value} {s : ByteArray} (h : (W.cell? p = some u ∧ W.cell? q = some v) ∧ Aside0 (Below w.heap.size w W)) :
    ((Lib.bytesWorld W 5 s).cell? p = some u ∧ (Lib.bytesWorld W 5 s).cell? q = some v) ∧ Aside0 (Below w.heap.size w (Lib.bytesWorld W 5 s)) := sj_step h (bytes_below (Below.refl _ _) (Nat.le_refl _) 5 s)
theorem sj_drewN {w W : World} {p q : Addr} {u v : Value} (n : Nat) (h : (W.cell? p = some u ∧ W.cell? q = some v) ∧ Aside0 (Below w.heap.size w W)) :
    ((W.drewN n).cell? p = some u ∧ (W.drewN n).cell? q = some v) ∧ Aside0 (Below w.heap.size w (W.drewN n)) := sj_step h (pw_below_drewN (Below.refl _ _) n)
theorem sj_drew {w W : World} {p q : Addr} {u v : Value} (h : (W.cell? p = some u ∧ W.cell? q = some v) ∧ Aside0 (Below w.heap.size w W)) :
    (W.drew.cell? p = some u ∧ W.drew.cell? q = some v) ∧ Aside0 (Below w.heap.size w W.drew) := sj_step h (below_drew1 (Below.refl _ _))
theorem C_bytesW (W : World) (s : ByteArray) (h : s.size ≤ 1600000) : (Kd.int .u8).C (Lib.bytesWorld W 5 s) (some ⟨W.heap.size, 0, none⟩) (bytesOf s).length (bytesOf s) := by
  have := (Kd.C_of_reads (enc := Value.int .u8) (d := (0 : Int)) (h1 := fun _ => rfl) (readsInt_of.1 (bytes_reads W 5 s (by omega))) : (Kd.int .u8).C (Lib.bytesWorld W 5 s) (some ⟨W.heap.size, 0, none⟩) s.size (bytesOf s))
  rwa [bytesOf_length]
theorem bytes_lt (s : ByteArray) : ∀ c ∈ bytesOf s, 0 ≤ c ∧ c < 256 := by
  intro c hc
  unfold bytesOf at hc
  obtain ⟨b, _, rfl⟩ := List.mem_map.1 hc
  have := b.toNat_lt
  exact ⟨by omega, by omega⟩
theorem C_none (w : World) : (Kd.int .u8).C w none ([] : List Int).length [] := by
  obtain ⟨A, c, he, _, hC⟩ := Kd.R_reads (Kd.R_nil (Kd.int .u8) 5 w 0 (fun _ => True))
  injection he with h1 h2 h3
  subst h1
  exact hC
theorem grown_bytes (W : World) (s : ByteArray) : (bytesOf s).length ≤ grownCap W s.size 0 5 := by rw [bytesOf_length]; exact grownCap_ge W s.size 0 5
set_option maxHeartbeats 8000000 in
set_option maxRecDepth 100000 in
theorem rJoin_calls (A : Option Addr) (c : Nat) (l : List S42) (w : World) (hC : Kd.C k42 w A l.length l) (hc : l.length ≤ c) (hl : fewL l) :
    Calls Try.prog 16 #[.slice A l.length c] w fun e w' => ∃ (A' : Option Addr) (c' : Nat), e = .returned (.tuple #[.slice A' (rjoinP l).1.length c', .int .i64 (rjoinP l).2]) ∧ (rjoinP l).1.length ≤ c' ∧ (Kd.int .u8).C w' A' (rjoinP l).1.length (rjoinP l).1 ∧ Below w.heap.size w w' := by
  have HC := Aside0.mk hC
  have HL := Aside0.mk hl
  have HCC := Aside0.mk hc
  obtain ⟨km, hkm⟩ := Ev.rounds (rmissing_ev hl)
  obtain ⟨r, hr⟩ : ∃ r, r = rjoinP l := ⟨_, rfl⟩
  rw [← hr]
  obtain ⟨ms, me, hms⟩ : ∃ ms me, missS l = (ms, me) := ⟨_, _, rfl⟩
  have HMC := Aside0.mk (barscanref23_Missing.calls km A c l ms me w hC hc (by rw [← hms]; exact hkm))
  clear hkm hC hc
  go_enter Try.func16, Try.ntmps16
  go_wp2_with (fail)
  refine HMC.out.mono ?_
  rintro e w1 ⟨v1, rfl, ho1, hb1⟩
  have HB1 := Aside0.mk hb1
  obtain ⟨A1, c1, rfl, hc1, hC1⟩ := Kd.R_reads ho1
  clear hb1 HMC ho1 hC1 hc1
  by_cases he : me = 0
  · subst he
    by_cases hn : ms.length = 0
    · have hn0 : decide ((0 : Int) < (ms.length : Int)) = false := decide_eq_false (by omega)
      have hn1 : decide (0 < ms.length) = false := decide_eq_false (by omega)
      have hwh := whole (l := l) (by rw [hms]) (by rw [hms]; exact hn)
      have hr : r = rjoinT (rtext l) (rd_T42 l 0).f1 := by rw [hr]; unfold rjoinP; rw [hms, if_neg (by simp), if_neg (by show ¬ 0 < ms.length; omega)]
      obtain ⟨_, hl0, ht0, ht1, hix⟩ := hwh
      have hcs := cat_size hl hix
      have HR := Aside0.mk hr
      have HIX := Aside0.mk hix
      have HCS := Aside0.mk hcs
      have hfm := hl.2 _ (first_mem hl0)
      obtain ⟨kc, hkc⟩ := Ev.rounds (contents_ev hfm)
      have hsz := text_size hfm
      clear hr hix hms hn hcs
      have HL0 := Aside0.mk hl0
      have hlp : 0 < l.length := by omega
      obtain ⟨ad, A0, c0, rfl, f0, f1, f2, f3, hl0', hi0⟩ := at_T42 HC.out 0 (by omega) (by omega)
      rw [show ((0 : Int)).toNat = 0 from rfl, show 0 * 4 = 0 from rfl, Addr.add_zero'] at f0 f1 f2 f3
      obtain ⟨m, hm⟩ : ∃ m, m = rd_T42 l 0 := ⟨_, rfl⟩
      rw [← hm] at f0 f1 f2 f3 hl0' hi0 hkc hsz HR HIX HCS ht0 ht1
      have F0 := Aside0.mk f0
      have F1 := Aside0.mk f1
      have F2 := Aside0.mk f2
      have F3 := Aside0.mk f3
      replace f0 := (HB1.out.cell (World.block_lt_of_cell? w _ f0)).trans f0
      replace f1 := (HB1.out.cell (World.block_lt_of_cell? w _ f1)).trans f1
      replace f2 := (HB1.out.cell (World.block_lt_of_cell? w _ f2)).trans f2
      replace f3 := (HB1.out.cell (World.block_lt_of_cell? w _ f3)).trans f3
      have HI0 := Aside0.mk (Kd.C_below hi0 HB1.out)
      have HLC0 := Aside0.mk hl0'
      have HKC := Aside0.mk hkc
      have HSZ := Aside0.mk hsz
      have HT1 := Aside0.mk ht1
      have HM := Aside0.mk hm
      have hu42 := Try.underlying42
      clear hi0 hl0' hkc hsz hl0 hfm hm ht1 hl
      have p0 : (0 < l.length) = True := eq_true hlp
      by_cases ht : 0 < m.f1.f1
      · have hd : decide (0 < m.f1.f1) = true := decide_eq_true ht
        have hrt : rtext l = catS l m.f1.f1.toNat := by unfold rtext; rw [← HM.out, if_pos ht]
        rw [hrt] at HR
        obtain ⟨n, hn⟩ : ∃ n : Nat, m.f1.f1 = (n : Int) := ⟨m.f1.f1.toNat, by omega⟩
        have HN := Aside0.mk hn
        clear hn
        go_wp2_with (first | ((with_reducible refine (barscanref23_contents.calls kc A0 c0 m.f0 m.f1.f0 m.f1.f1 m.f1.f2 _ _ HI0.out HLC0.out HKC.out).mono ?_); rintro e w2 ⟨rfl, hb2⟩; have HB2 := Aside0.mk (below_then HB1.out HB1.out.size hb2); replace f2 := (hb2.cell (World.block_lt_of_cell? w1 _ f2)).trans f2; clear hb2))
        go_loopg [6, 7] (n + 1) (fun kq v6 v7 wr => ∃ (i : Nat), v6 = .string (catS l i) ∧ v7 = .int .i64 i ∧ i ≤ n ∧ kq + i = n + 1 ∧ Aside0 (Below w.heap.size w wr))
        case atStart => exact ⟨0, rfl, rfl, Nat.zero_le _, rfl, HB2⟩
        case round =>
          obtain ⟨i, rfl, rfl, hi, hk, HBr⟩ := hrel
          obtain ⟨kk, rfl⟩ : ∃ kk, gk = kk + 1 := ⟨gk - 1, by omega⟩
          have f2 := F2.out
          replace f2 := (HBr.out.cell (World.block_lt_of_cell? w _ f2)).trans f2
          have hn := HN.out
          by_cases hlt : i < n
          · have hd1 : decide ((i : Int) < m.f1.f1) = true := decide_eq_true (by omega)
            obtain ⟨k, hk2, e1, e2, _⟩ := HIX.out i (by omega)
            have hm2 : l[k] ∈ l := List.getElem_mem hk2
            obtain ⟨kf, hkf⟩ := Ev.rounds (find_ev HL.out.1 (i : Int))
            rw [e1] at hkf
            obtain ⟨kd, hkd⟩ := Ev.rounds (contents_ev (HL.out.2 _ hm2))
            obtain ⟨ad', A3, c3, e3, g0, g1, g2, g3, hl3, hi3⟩ := at_T42 HC.out (k : Int) (by omega) (by omega)
            cases e3
            rw [Int.toNat_natCast, rd42 hk2] at g0 g1 g2 g3
            rw [rd42 hk2] at hl3 hi3
            have hsz1 := HCS.out i (by omega)
            have hsz2 := text_size (HL.out.2 _ hm2)
            have hn16 := HT1.out
            have hi6 : i ≤ 1000000 := by omega
            have hq : (9223372036854775807 < (catS l i).size + (textB l[k]).size) = False := eq_false (by omega)
            have hcat : catS l (i + 1) = catS l i ++ textB l[k] := by rw [catS, e2]
            have p1 : (0 ≤ (k : Int)) = True := eq_true (by omega)
            have p2 : ((k : Int) < (l.length : Int)) = True := eq_true (by omega)
            have p3 : (k < l.length) = True := eq_true hk2
            have HCAT := Aside0.mk hcat
            have G0 := Aside0.mk ((HBr.out.cell (World.block_lt_of_cell? w _ g0)).trans g0)
            have G1 := Aside0.mk ((HBr.out.cell (World.block_lt_of_cell? w _ g1)).trans g1)
            have G2 := Aside0.mk ((HBr.out.cell (World.block_lt_of_cell? w _ g2)).trans g2)
            have G3 := Aside0.mk ((HBr.out.cell (World.block_lt_of_cell? w _ g3)).trans g3)
            have HI3 := Aside0.mk (Kd.C_below hi3 HBr.out)
            have HL3 := Aside0.mk hl3
            have HKF := Aside0.mk hkf
            have HKD := Aside0.mk hkd
            have HCr := Aside0.mk (Kd.C_below HC.out HBr.out)
            generalize l[k] = mk at *
            clear hcat g0 g1 g2 g3 hi3 hl3 hkf hkd e1 e2 hm2 hsz1 hsz2 hn16 hn
            go_wp2_with (first | ((with_reducible refine (barscanref23_find.calls kf _ c l (i : Int) _ _ HCr.out HCC.out HKF.out).mono ?_); rintro e w3 ⟨rfl, ⟨nd, rfl⟩⟩; have g0 := G0.out; have g1 := G1.out; have g2 := G2.out; have g3 := G3.out) | ((with_reducible refine (barscanref23_contents.calls kd A3 c3 mk.f0 mk.f1.f0 mk.f1.f1 mk.f1.f2 _ _ (Kd.C_drewN HI3.out _) HL3.out HKD.out).mono ?_); rintro e w4 ⟨rfl, hb4⟩; have HB4 := Aside0.mk hb4; clear hb4))
            go_roundg kk
            case measure => omega
            case rel => exact ⟨i + 1, by rw [HCAT.out], by first | rfl | go_num, by omega, by omega, ⟨below_then (pw_below_drewN HBr.out _) (pw_below_drewN HBr.out _).size HB4.out⟩⟩
          · have hd1 : decide ((i : Int) < m.f1.f1) = false := decide_eq_false (by omega)
            obtain rfl : i = n := by omega
            have hr := HR.out
            rw [hn, Int.toNat_natCast] at hr
            have hsz := HCS.out i (by omega)
            have hn16 := HT1.out
            have HSB := Aside0.mk (by omega : (catS l i).size ≤ 1600000)
            generalize catS l i = s at *
            by_cases hbig : 4096 < s.size
            · have hb1 : decide ((4096 : Int) < (s.size : Int)) = true := decide_eq_true (by omega)
              have hb2 : decide (4096 < s.size) = true := decide_eq_true hbig
              unfold rjoinT at hr
              rw [if_pos hbig] at hr
              have HJ := Aside0.mk hr
              clear hr hsz hn16 hbig hn
              go_wp2
              go_ret2
              rw [HJ.out]
              exact ⟨none, 0, rfl, Nat.le_refl _, C_none _, by repeat (first | exact HBr.out | apply below_alloc | apply pw_below_drewN | apply below_drew1)⟩
            · have hb1 : decide ((4096 : Int) < (s.size : Int)) = false := decide_eq_false (by omega)
              have hb2 : decide (4096 < s.size) = false := decide_eq_false hbig
              unfold rjoinT at hr
              rw [if_neg hbig] at hr
              clear hsz hn16 hbig hn
              have kb : ∀ W : World, (convert 9 22 (.string s)).run Try.prog W = .ok (.slice (some ⟨W.heap.size, 0, none⟩) (bytesOf s).length (grownCap W s.size 0 5)) (Lib.bytesWorld W 5 s) := fun W => by rw [bytesOf_length]; exact print_bytes (P := Try.prog) 9 22 5 Try.underlying9 Try.underlying22 Try.underlying5 s W
              have HPE := Aside0.mk (refpar_ev (bytesOf s) (by rw [bytesOf_length]; have := HSB.out; omega) (bytes_lt s))
              have f3 := (HBr.out.cell (World.block_lt_of_cell? w _ F3.out)).trans F3.out
              have HJ := Aside0.mk hr
              clear hr
              go_wp2_with (fail)
              go_region_held (fun w' => (w'.cell? ⟨ad.block, ad.off + 2, none⟩ = some (.int .i64 m.f1.f1) ∧ w'.cell? ⟨ad.block, ad.off + 3, none⟩ = some (.int .i64 m.f1.f2)) ∧ Aside0 (Below w.heap.size w w'))
                (first | exact sj_drew ⟨⟨f2, f3⟩, HBr⟩ | exact sj_bytes (by first | assumption | exact ⟨⟨by assumption, by assumption⟩, by assumption⟩) | exact sj_drewN _ (by first | assumption | exact ⟨⟨by assumption, by assumption⟩, by assumption⟩))
                ((go_at_call 9; refine (barscanref23_Parity.calls _ _ _ (bytesOf s) _ _ (C_bytesW _ s HSB.out) (grown_bytes _ s) HPE.out).mono ?_; rintro e w5 ⟨rfl, ⟨nd, rfl⟩⟩))
              by_cases hp : parS (bytesOf s) = m.f1.f2
              · have hp1 : (parS (bytesOf s) != m.f1.f2) = false := bne_eq_false_iff_eq.mpr hp
                have hj := HJ.out
                rw [if_neg (by rw [hp]; simp)] at hj
                have HJ := Aside0.mk hj
                clear hj hp ht
                go_wp2
                go_ret2
                rw [HJ.out]
                have hbw := pw_below_drewN (bytes_below (below_drew1 HBr.out) HBr.out.size 5 s) nd
                exact ⟨_, _, rfl, grown_bytes _ s, by simpa using C_bytesW ((Lib.bytesWorld wr.drew 5 s).drewN nd) s HSB.out, bytes_below hbw hbw.size 5 s⟩
              · have hp1 : (parS (bytesOf s) != m.f1.f2) = true := bne_iff_ne.mpr hp
                have hj := HJ.out
                rw [if_pos ⟨ht, hp⟩] at hj
                have HJ := Aside0.mk hj
                clear hj hp ht
                go_wp2
                go_ret2
                rw [HJ.out]
                exact ⟨none, 0, rfl, Nat.le_refl _, C_none _, pw_below_drewN (bytes_below (below_drew1 HBr.out) HBr.out.size 5 s) nd⟩
      · have hd : decide (0 < m.f1.f1) = false := decide_eq_false ht
        have hrt : rtext l = textB m := by unfold rtext; rw [← HM.out, if_neg ht]
        rw [hrt] at HR
        have hr := HR.out
        have HSB := Aside0.mk (by have := HSZ.out; omega : (textB m).size ≤ 1600000)
        obtain ⟨s, hs⟩ : ∃ s, s = textB m := ⟨_, rfl⟩
        rw [← hs] at hr HSB HKC
        have HS := Aside0.mk hs
        clear hs
        by_cases hbig : 4096 < s.size
        · have hb1 : decide ((4096 : Int) < (s.size : Int)) = true := decide_eq_true (by omega)
          have hb2 : decide (4096 < s.size) = true := decide_eq_true hbig
          unfold rjoinT at hr
          rw [if_pos hbig] at hr
          have HJ := Aside0.mk hr
          clear hr hbig
          go_wp2_with (first | ((with_reducible refine (barscanref23_contents.calls kc A0 c0 m.f0 m.f1.f0 m.f1.f1 m.f1.f2 s _ HI0.out HLC0.out HKC.out).mono ?_); rintro e w2 ⟨rfl, hb2'⟩; have HB2 := Aside0.mk (below_then HB1.out HB1.out.size hb2'); replace f2 := (hb2'.cell (World.block_lt_of_cell? w1 _ f2)).trans f2; clear hb2'))
          go_ret2
          rw [HJ.out]
          exact ⟨none, 0, rfl, Nat.le_refl _, C_none _, by repeat (first | exact HB2.out | apply below_alloc | apply pw_below_drewN | apply below_drew1)⟩
        · have hb1 : decide ((4096 : Int) < (s.size : Int)) = false := decide_eq_false (by omega)
          have hb2 : decide (4096 < s.size) = false := decide_eq_false hbig
          unfold rjoinT at hr
          rw [if_neg hbig, if_neg (fun h => ht h.1)] at hr
          have HJ := Aside0.mk hr
          clear hr hbig
          have kb : ∀ W : World, (convert 9 22 (.string s)).run Try.prog W = .ok (.slice (some ⟨W.heap.size, 0, none⟩) (bytesOf s).length (grownCap W s.size 0 5)) (Lib.bytesWorld W 5 s) := fun W => by rw [bytesOf_length]; exact print_bytes (P := Try.prog) 9 22 5 Try.underlying9 Try.underlying22 Try.underlying5 s W
          go_wp2_with (first | ((with_reducible refine (barscanref23_contents.calls kc A0 c0 m.f0 m.f1.f0 m.f1.f1 m.f1.f2 s _ HI0.out HLC0.out HKC.out).mono ?_); rintro e w2 ⟨rfl, hb2'⟩; have HB2 := Aside0.mk (below_then HB1.out HB1.out.size hb2'); replace f2 := (hb2'.cell (World.block_lt_of_cell? w1 _ f2)).trans f2; clear hb2'))
          have f3 := (HB2.out.cell (World.block_lt_of_cell? w _ F3.out)).trans F3.out
          go_region
          all_goals
            go_wp2
            go_ret2
            rw [HJ.out]
            have hbw := below_drew1 HB2.out
            exact ⟨_, _, rfl, grown_bytes _ s, by simpa using C_bytesW w2.drew s HSB.out, bytes_below hbw hbw.size 5 s⟩
    · have hn0 : decide ((0 : Int) < (ms.length : Int)) = true := decide_eq_true (by omega)
      have hn1 : decide (0 < ms.length) = true := decide_eq_true (by omega)
      have hr : r = ([], 33) := by rw [hr]; unfold rjoinP; rw [hms, if_neg (by simp), if_pos (by show 0 < ms.length; omega)]
      have HR := Aside0.mk hr
      clear hr hms hn
      go_wp2
      go_ret2
      rw [HR.out]
      exact ⟨none, 0, rfl, Nat.le_refl _, C_none _, HB1.out⟩
  · have he1 : (me != 0) = true := bne_iff_ne.2 he
    have hr : r = ([], me) := by rw [hr]; unfold rjoinP; rw [hms, if_pos he]
    have HR := Aside0.mk hr
    clear hr hms
    go_wp2
    go_ret2
    rw [HR.out]
    exact ⟨none, 0, rfl, Nat.le_refl _, C_none _, HB1.out⟩

end Go.Proofs.Ytclbjddcenkidaa.PS
namespace Go.Proofs.Ytclbjddcenkidaa.PS
open Go.RowKit Go.Proofs.YtclbjddcenkidaaW.PrintWords Go.Proofs.YtclbjddcenkidaaW.PrintLast Go.Proofs.YtclbjddcenkidaaW.PrintMore
attribute [local go_sem] max2_int min2_int max_two min_two max_three min_three max_four min_four
open Go.Maps
theorem bytes_app (a b : ByteArray) : bytesOf (a ++ b) = bytesOf a ++ bytesOf b := by
  unfold bytesOf
  rw [ByteArray.data_append, Array.toList_append, List.map_append]
theorem valid_idx {a : S40} (h : validS a = true) : (a.f1 = 0 → a.f0 = 0) ∧ (0 < a.f1 → 0 ≤ a.f0 ∧ a.f0 < a.f1) := by
  unfold validS at h
  simp only [Bool.or_eq_true, Bool.and_eq_true, beq_iff_eq, decide_eq_true_eq] at h
  omega
def hereL (es : List (Int × ByteArray)) (n : Nat) : List Int := ((List.range n).filter fun (i : Nat) => (es.lookup (i : Int)).isSome).map fun (i : Nat) => (i : Int)
theorem here_len (es : List (Int × ByteArray)) : ∀ n, (hereL es n).length + (missL es n).length = n
  | 0 => rfl
  | n + 1 => by
    have ih := here_len es n
    have e : hereL es (n + 1) = hereL es n ++ (if (es.lookup (n : Int)).isSome then [(n : Int)] else []) := by
      unfold hereL
      rw [List.range_succ, List.filter_append, List.map_append]
      congr 1
      by_cases h : (es.lookup (n : Int)).isSome = true <;> simp [h]
    rw [e, missL_succ, List.length_append, List.length_append]
    cases h : es.lookup (n : Int) <;> simp <;> omega
theorem nodup_cast {l : List Nat} (h : l.Nodup) : (l.map fun (i : Nat) => (i : Int)).Nodup := by
  rw [List.Nodup, List.pairwise_map]
  exact List.Pairwise.imp (fun hne e => hne (by omega)) h
theorem keys_here {es : List (Int × ByteArray)} {l : List S42} (ht : HasT es l) (ha : AgreeP l) (hv : ∀ m ∈ l, validS m.f1 = true) (h0 : l.length ≠ 0) {n : Nat} (hn : (rd_T42 l 0).f1.f1 = (n : Int)) (hp : 0 < n) : (es.map (·.1)).Perm (hereL es n) := by
  refine (List.perm_ext_iff_of_nodup ht.nodup (nodup_cast (List.nodup_range.sublist List.filter_sublist))).2 fun x => ?_
  rw [has_mem ht]
  constructor
  · rintro ⟨m, hm, e⟩
    have h1 := (ha _ hm _ (first_mem h0)).1
    have h2 := (valid_idx (hv m hm)).2 (by omega)
    have hx : 0 ≤ x ∧ x < n := by omega
    refine List.mem_map.2 ⟨x.toNat, List.mem_filter.2 ⟨List.mem_range.2 (by omega), ?_⟩, by omega⟩
    rw [show ((x.toNat : Nat) : Int) = x by omega, (ht.look x (textB m)).2 ⟨m, hm, e, rfl⟩]
    rfl
  · intro hx
    obtain ⟨i, hi, rfl⟩ := List.mem_map.1 hx
    obtain ⟨_, h2⟩ := List.mem_filter.1 hi
    obtain ⟨s, hs⟩ := Option.isSome_iff_exists.1 h2
    obtain ⟨m, hm, e, _⟩ := (ht.look _ _).1 hs
    exact ⟨m, hm, e⟩
theorem ok_valid {l : List S42} (h : (colS l).1 = 0) : ∀ m ∈ l, validS m.f1 = true := by
  rcases (col_chk l).1 with ⟨_, e⟩ | ⟨_, _, e⟩ | ⟨_, _, _, e⟩ | ⟨_, hv, _, _⟩
  · rw [h] at e; simp at e
  · rw [h] at e; simp at e
  · rw [h] at e; simp at e
  · intro m hm
    have := List.any_eq_false.1 hv m hm
    simpa using this
theorem range_sorted (n : Nat) : ((List.range n).map fun (i : Nat) => (i : Int)).mergeSort leI = (List.range n).map fun (i : Nat) => (i : Int) := by
  refine List.mergeSort_of_pairwise ?_
  rw [List.pairwise_map]
  exact List.Pairwise.imp (fun h => by simp [leI]; omega) List.pairwise_lt_range
theorem cat_bytes {l : List S42} (hl : (colS l).1 = 0) {n : Nat} (hw : ∀ i : Nat, i < n → ∃ k, ∃ hk : k < l.length, findS l (i : Int) = (k : Int) ∧ textAt l (i : Int) = textB l[k] ∧ (colS l).2.lookup (i : Int) = some (textB l[k])) :
    ∀ i, i ≤ n → bytesOf (catS l i) = ((List.range i).map fun (i : Nat) => (i : Int)).flatMap (pieceS (colS l).2)
  | 0, _ => rfl
  | i + 1, h => by
    have ih := cat_bytes hl hw i (by omega)
    obtain ⟨k, hk, _, e, e2⟩ := hw i (by omega)
    rw [catS, bytes_app, ih, List.range_succ, List.map_append, List.flatMap_append, e]
    congr 1
    show bytesOf (textB l[k]) = List.flatMap _ [(i : Int)]
    rw [List.flatMap_singleton, pieceS, e2]
theorem rjoin_eq (l : List S42) : rjoinP l = joinP l := by
  unfold rjoinP joinP
  by_cases hc : (colS l).1 = 0
  · rw [if_pos hc]
    have hms : missS l = (missL (colS l).2 (rd_T42 l 0).f1.f1.toNat, 0) := by unfold missS; rw [if_pos hc]
    have h0 := ok_len hc
    have hv := ok_valid hc
    obtain ⟨ht, ha⟩ := (col_chk l).2 hc
    have htot := total_bd (ok_total hc)
    obtain ⟨n, hn⟩ : ∃ n : Nat, (rd_T42 l 0).f1.f1 = (n : Int) := ⟨(rd_T42 l 0).f1.f1.toNat, by omega⟩
    rw [hms, if_neg (by simp)]
    by_cases hz : n = 0
    · subst hz
      have e0 : ∀ m ∈ l, m.f1.f0 = 0 := fun m hm => (valid_idx (hv m hm)).1 (by have := (ha _ hm _ (first_mem h0)).1; omega)
      have hk : ((colS l).2.map (·.1)).Perm [0] := by
        refine (List.perm_ext_iff_of_nodup ht.nodup (by simp)).2 fun x => ?_
        rw [has_mem ht]
        constructor
        · rintro ⟨m, hm, e⟩; rw [e0 m hm] at e; simp [e]
        · intro hx
          have hx0 : x = 0 := by simpa using hx
          exact ⟨_, first_mem h0, by rw [e0 _ (first_mem h0), hx0]⟩
      have hks : keysS (colS l).2 = [0] := (mergeSort_of_perm_i hk).trans (List.mergeSort_singleton 0)
      have hln : (colS l).2.length = 1 := by simpa using hk.length_eq
      have hlk : (colS l).2.lookup 0 = some (textB (rd_T42 l 0)) := (ht.look _ _).2 ⟨_, first_mem h0, e0 _ (first_mem h0), rfl⟩
      have ho : outS (colS l).2 = bytesOf (textB (rd_T42 l 0)) := by
        unfold outS
        rw [hks, List.flatMap_singleton, pieceS, hlk]
      have hrt : rtext l = textB (rd_T42 l 0) := by unfold rtext; rw [if_neg (by omega)]
      rw [if_neg (by rw [hn]; simp [missL])]
      unfold rjoinT joinR
      have hm : ¬ (((1 : Nat) : Int) < max 1 (rd_T42 l 0).f1.f1) := by omega
      rw [hrt, ho, hln, bytesOf_length, if_neg hm]
    · have hp := keys_here ht ha hv h0 hn (by omega)
      have hlen := here_len (colS l).2 n
      have hel : (colS l).2.length = (hereL (colS l).2 n).length := by rw [← hp.length_eq, List.length_map]
      rw [hn, Int.toNat_natCast]
      by_cases hm : 0 < (missL (colS l).2 n).length
      · rw [if_pos hm]
        unfold joinR
        rw [if_pos (by omega)]
      · rw [if_neg hm]
        have hw : ∀ i : Nat, i < n → ∃ k, ∃ hk : k < l.length, findS l (i : Int) = (k : Int) ∧ textAt l (i : Int) = textB l[k] ∧ (colS l).2.lookup (i : Int) = some (textB l[k]) := fun i hi => by
          obtain ⟨_, _, _, _, hq⟩ := whole (l := l) (by rw [hms]) (by rw [hms, hn, Int.toNat_natCast]; show (missL (colS l).2 n).length = 0; omega)
          exact hq i (by omega)
        have hall : hereL (colS l).2 n = (List.range n).map fun (i : Nat) => (i : Int) := by
          unfold hereL
          congr 1
          rw [List.filter_eq_self]
          intro i hi
          obtain ⟨k, hk, _, _, e⟩ := hw i (List.mem_range.1 hi)
          rw [e]; rfl
        have hks : keysS (colS l).2 = (List.range n).map fun (i : Nat) => (i : Int) := by
          unfold keysS
          rw [mergeSort_of_perm_i (hall ▸ hp), range_sorted]
        have ho : outS (colS l).2 = bytesOf (catS l n) := by
          unfold outS
          rw [hks, cat_bytes hc hw n (Nat.le_refl _)]
        have hrt : rtext l = catS l n := by unfold rtext; rw [if_pos (by omega), hn, Int.toNat_natCast]
        unfold rjoinT joinR
        rw [hrt, ho, bytesOf_length, if_neg (by omega : ¬ (((colS l).2.length : Int) < max 1 (rd_T42 l 0).f1.f1))]
  · rw [if_neg hc]
    have hms : missS l = ([], (colS l).1) := by unfold missS; rw [if_neg hc]
    rw [hms, if_pos hc]

end Go.Proofs.Ytclbjddcenkidaa.PS
namespace Go.Proofs.Ytclbjddcenkidaa.PS
open Go.RowKit Go.Proofs.YtclbjddcenkidaaW.PrintWords Go.Proofs.YtclbjddcenkidaaW.PrintLast Go.Proofs.YtclbjddcenkidaaW.PrintMore
attribute [local go_sem] max2_int min2_int max_two min_two max_three min_three max_four min_four   -- for this text's walks alone

def barscanlaw23_same.l0 : Nat → List Int → List Int → Int → Option (Bool)
 | 0, _, _, _ => none
 | k + 1, x0, x1, x5 => if x5 < (x0.length : Int) then (if 0 ≤ x5 then (if x5 < (x1.length : Int) then (if (rd x0 x5) = (rd x1 x5) then (barscanlaw23_same.l0 k x0 x1 (wrap64 (x5 + 1))) else (some false)) else (none)) else (none)) else (some true)
def barscanlaw23_same.f (k : Nat) (l0 : List Int) (l1 : List Int) : Option (Bool) := if (l0.length : Int) = (l1.length : Int) then (barscanlaw23_same.l0 k l0 l1 0) else (some false)
theorem barscanlaw23_same.mono_l : ∀ k, (∀ y0 y1 y2, LeO (barscanlaw23_same.l0 k y0 y1 y2) (barscanlaw23_same.l0 (k + 1) y0 y1 y2))
 | 0 => fun _ _ _ r h => by simp [barscanlaw23_same.l0] at h
 | k + 1 => by
  have ih0 := barscanlaw23_same.mono_l k
  ·intro y0 y1 y2
   unfold barscanlaw23_same.l0
   repeat' first
   | (with_reducible exact ih0 _ _ _)
   | (with_reducible exact LeO.refl _)
   | (with_reducible exact LeO.none _)
   | (with_reducible refine LeO.ite ?_ ?_)
   | (with_reducible refine LeO.bind ?_ (fun _ => ?_))
   | exact ih0 _ _ _
   | exact LeO.none _
   | refine LeO.ite ?_ ?_
   | refine LeO.bind ?_ (fun _ => ?_)
theorem barscanlaw23_same.mono : ∀ a0 a1 k, LeO (barscanlaw23_same.f k a0 a1) (barscanlaw23_same.f (k + 1) a0 a1) := by
 intro a0 a1 k
 have ih0 := barscanlaw23_same.mono_l k
 unfold barscanlaw23_same.f
 repeat' first
   | (with_reducible exact ih0 _ _ _)
   | (with_reducible exact LeO.refl _)
   | (with_reducible exact LeO.none _)
   | (with_reducible refine LeO.ite ?_ ?_)
   | (with_reducible refine LeO.bind ?_ (fun _ => ?_))
   | exact ih0 _ _ _
   | exact LeO.none _
   | refine LeO.ite ?_ ?_
   | refine LeO.bind ?_ (fun _ => ?_)
set_option maxHeartbeats 8000000 in
set_option maxRecDepth 100000 in
theorem barscanlaw23_same.calls (k : Nat) (A0 : Option Addr) (c0 : Nat) (l0 : List Int) (A1 : Option Addr) (c1 : Nat) (l1 : List Int) (r : Bool) (w : World) (hr0 : Kd.C (Kd.int .i64) w A0 l0.length l0) (hc0 : l0.length ≤ c0) (hr1 : Kd.C (Kd.int .i64) w A1 l1.length l1) (hc1 : l1.length ≤ c1) (h : barscanlaw23_same.f k l0 l1 = some r) :
  Calls Try.prog 13 #[.slice A0 l0.length c0, .slice A1 l1.length c1] w fun e w' => e = .returned (.bool r) ∧ Drawn0 w w' := by
 have HR0 := Aside0.mk hr0
 have HC0 := Aside0.mk hc0
 clear hr0 hc0
 have HR1 := Aside0.mk hr1
 have HC1 := Aside0.mk hc1
 clear hr1 hc1
 have H : (if (l0.length : Int) = (l1.length : Int) then (barscanlaw23_same.l0 k l0 l1 0) else (some false)) = some r := h
 clear h
 by_cases c3 : (l0.length : Int) = (l1.length : Int)
 ·rw [if_pos c3] at H
  have c3b0 : ((l0.length : Int) == (l1.length : Int)) = true := beq_iff_eq.mpr c3
  have c3b1 : ((l0.length : Int) != (l1.length : Int)) = false := bne_eq_false_iff_eq.mpr c3
  have c3b2 : (l0.length == l1.length) = true := by first | simpa using c3 | (simp at c3 ⊢; omega)
  clear c3
  have H' := Aside0.mk H
  clear H
  go_enter Try.func13, Try.ntmps13
  go_wp2
  repeat (go_quiet (fail); try go_wp2)
  go_loopg [5] k (fun kq v5 w' => ∃ (x5_1 : Int), v5 = .int .i64 x5_1 ∧ Aside0 (barscanlaw23_same.l0 kq l0 l1 x5_1 = some r) ∧ Aside0 (kq ≤ k) ∧ Drawn0 w w')
  case atStart => exact ⟨(0), (by first | rfl | (simp; done) | (simp [*]; done)), H', ⟨Nat.le_refl _⟩, by repeat (first | exact Drawn0.refl _ | apply Drawn0.step)⟩
  case round =>
   clear H'
   try clear c1
   try clear p2
   try clear c3
   try clear c3b0
   try clear c3b1
   try clear c3b2
   obtain ⟨x5_1, rfl, HA, HK1, ⟨m1, rfl⟩⟩ := hrel
   cases gk with
   | zero => exact absurd HA.out (by simp [barscanlaw23_same.l0])
   | succ k1 =>
    have H := HA.out
    clear HA
    simp only [barscanlaw23_same.l0] at H
    by_cases c4 : x5_1 < (l0.length : Int)
    ·rw [if_pos c4] at H
     have c4b0 : decide (x5_1 < (l0.length : Int)) = true := decide_eq_true c4
     clear c4
     by_cases c5 : 0 ≤ x5_1
     ·rw [if_pos c5] at H
      have c5b0 : decide (0 ≤ x5_1) = true := decide_eq_true c5
      clear c5
      by_cases c6 : x5_1 < (l1.length : Int)
      ·rw [if_pos c6] at H
       have c6b0 : decide (x5_1 < (l1.length : Int)) = true := decide_eq_true c6
       clear c6
       by_cases c7 : (rd l0 x5_1) = (rd l1 x5_1)
       ·rw [if_pos c7] at H
        have c7b0 : ((rd l0 x5_1) == (rd l1 x5_1)) = true := beq_iff_eq.mpr c7
        have c7b1 : ((rd l0 x5_1) != (rd l1 x5_1)) = false := bne_eq_false_iff_eq.mpr c7
        clear c7
        have H' := Aside0.mk H
        clear H
        have p173 : 0 ≤ (x5_1 : Int) := of_decide_eq_true (by first | (with_reducible assumption) | assumption)
        have q173 : x5_1 < (l0.length : Int) := of_decide_eq_true (by first | (with_reducible assumption) | assumption)
        obtain ⟨ad173, e173, hx173_0⟩ := Kd.at_int HR0.out x5_1 p173 q173
        cases e173
        replace p173 := eq_true p173
        replace q173 := eq_true q173
        have p174 : 0 ≤ (x5_1 : Int) := of_decide_eq_true (by first | (with_reducible assumption) | assumption)
        have q174 : x5_1 < (l1.length : Int) := of_decide_eq_true (by first | (with_reducible assumption) | assumption)
        obtain ⟨ad174, e174, hx174_0⟩ := Kd.at_int HR1.out x5_1 p174 q174
        cases e174
        replace p174 := eq_true p174
        replace q174 := eq_true q174
        go_wp2
        repeat (go_quiet (fail); try go_wp2)
        go_roundg k1
        case measure => have := HK1.out; omega
        case rel => exact ⟨(wrap64 (x5_1 + 1)), (by first | rfl | (simp; done) | (simp [*]; done)), H', ⟨by have := HK1.out; omega⟩, by repeat (first | exact Drawn0.refl _ | apply Drawn0.step)⟩
       ·rw [if_neg c7] at H
        have c7b0 : ((rd l0 x5_1) == (rd l1 x5_1)) = false := beq_eq_false_iff_ne.mpr c7
        have c7b1 : ((rd l0 x5_1) != (rd l1 x5_1)) = true := bne_iff_ne.mpr c7
        obtain rfl := Option.some.inj H
        have p173 : 0 ≤ (x5_1 : Int) := of_decide_eq_true (by first | (with_reducible assumption) | assumption)
        have q173 : x5_1 < (l0.length : Int) := of_decide_eq_true (by first | (with_reducible assumption) | assumption)
        obtain ⟨ad173, e173, hx173_0⟩ := Kd.at_int HR0.out x5_1 p173 q173
        cases e173
        replace p173 := eq_true p173
        replace q173 := eq_true q173
        have p174 : 0 ≤ (x5_1 : Int) := of_decide_eq_true (by first | (with_reducible assumption) | assumption)
        have q174 : x5_1 < (l1.length : Int) := of_decide_eq_true (by first | (with_reducible assumption) | assumption)
        obtain ⟨ad174, e174, hx174_0⟩ := Kd.at_int HR1.out x5_1 p174 q174
        cases e174
        replace p174 := eq_true p174
        replace q174 := eq_true q174
        go_wp2
        repeat (go_quiet (fail); try go_wp2)
        go_ret
        exact ⟨by first | rfl | (simp; done) | (simp [*]; done), by repeat (first | exact Drawn0.refl _ | apply Drawn0.step)⟩
      ·rw [if_neg c6] at H
       exact absurd H (by simp)
     ·rw [if_neg c5] at H
      exact absurd H (by simp)
    ·rw [if_neg c4] at H
     have c4b0 : decide (x5_1 < (l0.length : Int)) = false := decide_eq_false c4
     clear c4
     obtain rfl := Option.some.inj H
     go_wp2
     repeat (go_quiet (fail); try go_wp2)
     go_ret
     exact ⟨by first | rfl | (simp; done) | (simp [*]; done), by repeat (first | exact Drawn0.refl _ | apply Drawn0.step)⟩
 ·rw [if_neg c3] at H
  have c3b0 : ((l0.length : Int) == (l1.length : Int)) = false := beq_eq_false_iff_ne.mpr c3
  have c3b1 : ((l0.length : Int) != (l1.length : Int)) = true := bne_iff_ne.mpr c3
  have c3b2 : (l0.length == l1.length) = false := by first | simpa using c3 | (simp at c3 ⊢; omega)
  obtain rfl := Option.some.inj H
  go_enter Try.func13, Try.ntmps13
  go_wp2
  repeat (go_quiet (fail); try go_wp2)
  go_ret
  exact ⟨by first | rfl | (simp; done) | (simp [*]; done), by repeat (first | exact Drawn0.refl _ | apply Drawn0.step)⟩

end Go.Proofs.Ytclbjddcenkidaa.PS
namespace Go.Proofs.Ytclbjddcenkidaa.PS
open Go.RowKit Go.Proofs.YtclbjddcenkidaaW.PrintWords Go.Proofs.YtclbjddcenkidaaW.PrintLast Go.Proofs.YtclbjddcenkidaaW.PrintMore
attribute [local go_sem] max2_int min2_int max_two min_two max_three min_three max_four min_four   -- for this text's walks alone

mutual
def barscanlaw23_few.l0 : Nat → List (S42) → Int → Option (Bool)
 | 0, _, _ => none
 | k + 1, x0, x3 => if x3 < (x0.length : Int) then (if 0 ≤ x3 then (if (((rd_T42 x0 x3).f0).length : Int) > 10 then (some false) else (barscanlaw23_few.l1 k x0 x3 0)) else (none)) else (some true)
def barscanlaw23_few.l1 : Nat → List (S42) → Int → Int → Option (Bool)
 | 0, _, _, _ => none
 | k + 1, x0, x3, x4 => if 0 ≤ x3 then (if x3 < (x0.length : Int) then (if x4 < (((rd_T42 x0 x3).f0).length : Int) then (if 0 ≤ x4 then (if (((rd_T54 ((rd_T42 x0 x3).f0) x4).f1).length : Int) > 200 then (some false) else (barscanlaw23_few.l1 k x0 x3 (wrap64 (x4 + 1)))) else (none)) else (barscanlaw23_few.l0 k x0 (wrap64 (x3 + 1)))) else (none)) else (none)
end
def barscanlaw23_few.f (k : Nat) (l0 : List (S42)) : Option (Bool) := if (l0.length : Int) > 40 then (some false) else (barscanlaw23_few.l0 k l0 0)
theorem barscanlaw23_few.mono_l : ∀ k, (∀ y0 y1, LeO (barscanlaw23_few.l0 k y0 y1) (barscanlaw23_few.l0 (k + 1) y0 y1)) ∧ (∀ y0 y1 y2, LeO (barscanlaw23_few.l1 k y0 y1 y2) (barscanlaw23_few.l1 (k + 1) y0 y1 y2))
 | 0 => ⟨fun _ _ r h => by simp [barscanlaw23_few.l0] at h, fun _ _ _ r h => by simp [barscanlaw23_few.l1] at h⟩
 | k + 1 => by
  obtain ⟨ih0, ih1⟩ := barscanlaw23_few.mono_l k
  refine ⟨?_, ?_⟩
  ·intro y0 y1
   unfold barscanlaw23_few.l0
   repeat' first
   | (with_reducible exact ih0 _ _)
   | (with_reducible exact ih1 _ _ _)
   | (with_reducible exact LeO.refl _)
   | (with_reducible exact LeO.none _)
   | (with_reducible refine LeO.ite ?_ ?_)
   | (with_reducible refine LeO.bind ?_ (fun _ => ?_))
   | exact ih0 _ _
   | exact ih1 _ _ _
   | exact LeO.none _
   | refine LeO.ite ?_ ?_
   | refine LeO.bind ?_ (fun _ => ?_)
  ·intro y0 y1 y2
   unfold barscanlaw23_few.l1
   repeat' first
   | (with_reducible exact ih0 _ _)
   | (with_reducible exact ih1 _ _ _)
   | (with_reducible exact LeO.refl _)
   | (with_reducible exact LeO.none _)
   | (with_reducible refine LeO.ite ?_ ?_)
   | (with_reducible refine LeO.bind ?_ (fun _ => ?_))
   | exact ih0 _ _
   | exact ih1 _ _ _
   | exact LeO.none _
   | refine LeO.ite ?_ ?_
   | refine LeO.bind ?_ (fun _ => ?_)
theorem barscanlaw23_few.mono : ∀ a0 k, LeO (barscanlaw23_few.f k a0) (barscanlaw23_few.f (k + 1) a0) := by
 intro a0 k
 obtain ⟨ih0, ih1⟩ := barscanlaw23_few.mono_l k
 unfold barscanlaw23_few.f
 repeat' first
   | (with_reducible exact ih0 _ _)
   | (with_reducible exact ih1 _ _ _)
   | (with_reducible exact LeO.refl _)
   | (with_reducible exact LeO.none _)
   | (with_reducible refine LeO.ite ?_ ?_)
   | (with_reducible refine LeO.bind ?_ (fun _ => ?_))
   | exact ih0 _ _
   | exact ih1 _ _ _
   | exact LeO.none _
   | refine LeO.ite ?_ ?_
   | refine LeO.bind ?_ (fun _ => ?_)
set_option maxHeartbeats 8000000 in
set_option maxRecDepth 100000 in
theorem barscanlaw23_few.calls (k : Nat) (A0 : Option Addr) (c0 : Nat) (l0 : List (S42)) (r : Bool) (w : World) (hr0 : Kd.C k42 w A0 l0.length l0) (hc0 : l0.length ≤ c0) (h : barscanlaw23_few.f k l0 = some r) :
  Calls Try.prog 14 #[.slice A0 l0.length c0] w fun e w' => e = .returned (.bool r) ∧ Drawn0 w w' := by
 have HR0 := Aside0.mk hr0
 have HC0 := Aside0.mk hc0
 clear hr0 hc0
 have H : (if (l0.length : Int) > 40 then (some false) else (barscanlaw23_few.l0 k l0 0)) = some r := h
 clear h
 by_cases c2 : (l0.length : Int) > 40
 ·rw [if_pos c2] at H
  have c2b0 : decide (40 < (l0.length : Int)) = true := decide_eq_true c2
  have c2b1 : decide (40 < l0.length) = true := decide_eq_true (by omega)
  clear c2
  obtain rfl := Option.some.inj H
  go_enter Try.func14, Try.ntmps14
  go_wp2
  go_ret
  exact ⟨by first | rfl | (simp; done) | (simp [*]; done), by repeat (first | exact Drawn0.refl _ | apply Drawn0.step)⟩
 ·rw [if_neg c2] at H
  have c2b0 : decide (40 < (l0.length : Int)) = false := decide_eq_false c2
  have c2b1 : decide (40 < l0.length) = false := decide_eq_false (by omega)
  clear c2
  have H' := Aside0.mk H
  clear H
  go_enter Try.func14, Try.ntmps14
  go_wp2
  go_loopg [3] k (fun kq v3 w' => ∃ (x3_1 : Int), v3 = .int .i64 x3_1 ∧ Aside0 (barscanlaw23_few.l0 kq l0 x3_1 = some r) ∧ Aside0 (kq ≤ k) ∧ Drawn0 w w')
  case atStart => exact ⟨(0), (by first | rfl | (simp; done) | (simp [*]; done)), H', ⟨Nat.le_refl _⟩, by repeat (first | exact Drawn0.refl _ | apply Drawn0.step)⟩
  case round =>
   clear H'
   try clear c1
   try clear c2
   try clear c2b0
   try clear c2b1
   try clear p2
   obtain ⟨x3_1, rfl, HA, HK1, ⟨m1, rfl⟩⟩ := hrel
   cases gk with
   | zero => exact absurd HA.out (by simp [barscanlaw23_few.l0])
   | succ k1 =>
    have H := HA.out
    clear HA
    simp only [barscanlaw23_few.l0] at H
    by_cases c3 : x3_1 < (l0.length : Int)
    ·rw [if_pos c3] at H
     have c3b0 : decide (x3_1 < (l0.length : Int)) = true := decide_eq_true c3
     clear c3
     by_cases c4 : 0 ≤ x3_1
     ·rw [if_pos c4] at H
      have c4b0 : decide (0 ≤ x3_1) = true := decide_eq_true c4
      clear c4
      by_cases c5 : (((rd_T42 l0 x3_1).f0).length : Int) > 10
      ·rw [if_pos c5] at H
       have c5b0 : decide (10 < (((rd_T42 l0 x3_1).f0).length : Int)) = true := decide_eq_true c5
       have c5b1 : decide (10 < ((rd_T42 l0 x3_1).f0).length) = true := decide_eq_true (by omega)
       clear c5
       obtain rfl := Option.some.inj H
       have p297 : 0 ≤ (x3_1 : Int) := of_decide_eq_true (by first | (with_reducible assumption) | assumption)
       have q297 : x3_1 < (l0.length : Int) := of_decide_eq_true (by first | (with_reducible assumption) | assumption)
       obtain ⟨ad297, A297_0, c297_0, e297, hx297_0, hx297_1, hx297_2, hx297_3, hl297_0, hi297_0⟩ := at_T42 HR0.out x3_1 p297 q297
       cases e297
       have HR297_0 := Aside0.mk hi297_0
       have HC297_0 := Aside0.mk hl297_0
       clear hi297_0 hl297_0
       replace p297 := eq_true p297
       replace q297 := eq_true q297
       go_wp2
       go_ret
       exact ⟨by first | rfl | (simp; done) | (simp [*]; done), by repeat (first | exact Drawn0.refl _ | apply Drawn0.step)⟩
      ·rw [if_neg c5] at H
       have c5b0 : decide (10 < (((rd_T42 l0 x3_1).f0).length : Int)) = false := decide_eq_false c5
       have c5b1 : decide (10 < ((rd_T42 l0 x3_1).f0).length) = false := decide_eq_false (by omega)
       clear c5
       have H' := Aside0.mk H
       clear H
       have p297 : 0 ≤ (x3_1 : Int) := of_decide_eq_true (by first | (with_reducible assumption) | assumption)
       have q297 : x3_1 < (l0.length : Int) := of_decide_eq_true (by first | (with_reducible assumption) | assumption)
       obtain ⟨ad297, A297_0, c297_0, e297, hx297_0, hx297_1, hx297_2, hx297_3, hl297_0, hi297_0⟩ := at_T42 HR0.out x3_1 p297 q297
       cases e297
       have HR297_0 := Aside0.mk hi297_0
       have HC297_0 := Aside0.mk hl297_0
       clear hi297_0 hl297_0
       replace p297 := eq_true p297
       replace q297 := eq_true q297
       go_wp2
       go_loopg [4] k1 (fun kq v4 w' => ∃ (x4_2 : Int), v4 = .int .i64 x4_2 ∧ Aside0 (barscanlaw23_few.l1 kq l0 x3_1 x4_2 = some r) ∧ Aside0 (kq ≤ k1) ∧ Drawn0 w w')
       case atStart => exact ⟨(0), (by first | rfl | (simp; done) | (simp [*]; done)), H', ⟨Nat.le_refl _⟩, by repeat (first | exact Drawn0.refl _ | apply Drawn0.step)⟩
       case round =>
        clear H'
        try clear c1
        try clear c2
        try clear c2b0
        try clear c2b1
        try clear p2
        try clear q2
        try clear hx2
        try clear c3
        try clear c3b0
        try clear c4
        try clear c4b0
        try clear c5
        try clear c5b0
        try clear c5b1
        try clear hx297_0
        try clear hx297_1
        try clear hx297_2
        try clear hx297_3
        try clear p2
        try clear p297
        try clear q297
        obtain ⟨x4_2, rfl, HA, HK2, ⟨m2, rfl⟩⟩ := hrel
        cases gk with
        | zero => exact absurd HA.out (by simp [barscanlaw23_few.l1])
        | succ k2 =>
         have H := HA.out
         clear HA
         simp only [barscanlaw23_few.l1] at H
         by_cases c6 : 0 ≤ x3_1
         ·rw [if_pos c6] at H
          have c6b0 : decide (0 ≤ x3_1) = true := decide_eq_true c6
          clear c6
          by_cases c7 : x3_1 < (l0.length : Int)
          ·rw [if_pos c7] at H
           have c7b0 : decide (x3_1 < (l0.length : Int)) = true := decide_eq_true c7
           clear c7
           by_cases c8 : x4_2 < (((rd_T42 l0 x3_1).f0).length : Int)
           ·rw [if_pos c8] at H
            have c8b0 : decide (x4_2 < (((rd_T42 l0 x3_1).f0).length : Int)) = true := decide_eq_true c8
            clear c8
            by_cases c9 : 0 ≤ x4_2
            ·rw [if_pos c9] at H
             have c9b0 : decide (0 ≤ x4_2) = true := decide_eq_true c9
             clear c9
             by_cases c10 : (((rd_T54 ((rd_T42 l0 x3_1).f0) x4_2).f1).length : Int) > 200
             ·rw [if_pos c10] at H
              have c10b0 : decide (200 < (((rd_T54 ((rd_T42 l0 x3_1).f0) x4_2).f1).length : Int)) = true := decide_eq_true c10
              have c10b1 : decide (200 < ((rd_T54 ((rd_T42 l0 x3_1).f0) x4_2).f1).length) = true := decide_eq_true (by omega)
              clear c10
              obtain rfl := Option.some.inj H
              have p298 : 0 ≤ (x3_1 : Int) := of_decide_eq_true (by first | (with_reducible assumption) | assumption)
              have q298 : x3_1 < (l0.length : Int) := of_decide_eq_true (by first | (with_reducible assumption) | assumption)
              obtain ⟨ad298, A298_0, c298_0, e298, hx298_0, hx298_1, hx298_2, hx298_3, hl298_0, hi298_0⟩ := at_T42 HR0.out x3_1 p298 q298
              obtain rfl : ad297 = ad298 := (by injection e298)
              have HR298_0 := Aside0.mk hi298_0
              have HC298_0 := Aside0.mk hl298_0
              clear hi298_0 hl298_0
              replace p298 := eq_true p298
              replace q298 := eq_true q298
              have p299 : 0 ≤ (x3_1 : Int) := of_decide_eq_true (by first | (with_reducible assumption) | assumption)
              have q299 : x3_1 < (l0.length : Int) := of_decide_eq_true (by first | (with_reducible assumption) | assumption)
              obtain ⟨ad299, A299_0, c299_0, e299, hx299_0, hx299_1, hx299_2, hx299_3, hl299_0, hi299_0⟩ := at_T42 HR0.out x3_1 p299 q299
              obtain rfl : ad297 = ad299 := (by injection e299)
              have HR299_0 := Aside0.mk hi299_0
              have HC299_0 := Aside0.mk hl299_0
              clear hi299_0 hl299_0
              replace p299 := eq_true p299
              replace q299 := eq_true q299
              have ea_ := Option.some.inj (hx298_0.symm.trans hx299_0)
              injection ea_ with ea_ en_ ec_
              subst ea_
              subst ec_
              clear en_
              have p300 : 0 ≤ (x4_2 : Int) := of_decide_eq_true (by first | (with_reducible assumption) | assumption)
              have q300 : x4_2 < (((rd_T42 l0 x3_1).f0).length : Int) := of_decide_eq_true (by first | (with_reducible assumption) | assumption)
              obtain ⟨ad300, A300_1, c300_1, e300, hx300_0, hx300_1, hl300_1, hi300_1⟩ := at_T54 HR299_0.out x4_2 p300 q300
              cases e300
              have HR300_1 := Aside0.mk hi300_1
              have HC300_1 := Aside0.mk hl300_1
              clear hi300_1 hl300_1
              replace p300 := eq_true p300
              replace q300 := eq_true q300
              go_wp2
              go_ret
              exact ⟨by first | rfl | (simp; done) | (simp [*]; done), by repeat (first | exact Drawn0.refl _ | apply Drawn0.step)⟩
             ·rw [if_neg c10] at H
              have c10b0 : decide (200 < (((rd_T54 ((rd_T42 l0 x3_1).f0) x4_2).f1).length : Int)) = false := decide_eq_false c10
              have c10b1 : decide (200 < ((rd_T54 ((rd_T42 l0 x3_1).f0) x4_2).f1).length) = false := decide_eq_false (by omega)
              clear c10
              have H' := Aside0.mk H
              clear H
              have p298 : 0 ≤ (x3_1 : Int) := of_decide_eq_true (by first | (with_reducible assumption) | assumption)
              have q298 : x3_1 < (l0.length : Int) := of_decide_eq_true (by first | (with_reducible assumption) | assumption)
              obtain ⟨ad298, A298_0, c298_0, e298, hx298_0, hx298_1, hx298_2, hx298_3, hl298_0, hi298_0⟩ := at_T42 HR0.out x3_1 p298 q298
              obtain rfl : ad297 = ad298 := (by injection e298)
              have HR298_0 := Aside0.mk hi298_0
              have HC298_0 := Aside0.mk hl298_0
              clear hi298_0 hl298_0
              replace p298 := eq_true p298
              replace q298 := eq_true q298
              have p299 : 0 ≤ (x3_1 : Int) := of_decide_eq_true (by first | (with_reducible assumption) | assumption)
              have q299 : x3_1 < (l0.length : Int) := of_decide_eq_true (by first | (with_reducible assumption) | assumption)
              obtain ⟨ad299, A299_0, c299_0, e299, hx299_0, hx299_1, hx299_2, hx299_3, hl299_0, hi299_0⟩ := at_T42 HR0.out x3_1 p299 q299
              obtain rfl : ad297 = ad299 := (by injection e299)
              have HR299_0 := Aside0.mk hi299_0
              have HC299_0 := Aside0.mk hl299_0
              clear hi299_0 hl299_0
              replace p299 := eq_true p299
              replace q299 := eq_true q299
              have ea_ := Option.some.inj (hx298_0.symm.trans hx299_0)
              injection ea_ with ea_ en_ ec_
              subst ea_
              subst ec_
              clear en_
              have p300 : 0 ≤ (x4_2 : Int) := of_decide_eq_true (by first | (with_reducible assumption) | assumption)
              have q300 : x4_2 < (((rd_T42 l0 x3_1).f0).length : Int) := of_decide_eq_true (by first | (with_reducible assumption) | assumption)
              obtain ⟨ad300, A300_1, c300_1, e300, hx300_0, hx300_1, hl300_1, hi300_1⟩ := at_T54 HR299_0.out x4_2 p300 q300
              cases e300
              have HR300_1 := Aside0.mk hi300_1
              have HC300_1 := Aside0.mk hl300_1
              clear hi300_1 hl300_1
              replace p300 := eq_true p300
              replace q300 := eq_true q300
              go_wp2
              go_roundg k2
              case measure => have := HK1.out; have := HK2.out; omega
              case rel => exact ⟨(wrap64 (x4_2 + 1)), (by first | rfl | (simp; done) | (simp [*]; done)), H', ⟨by have := HK1.out; have := HK2.out; omega⟩, by repeat (first | exact Drawn0.refl _ | apply Drawn0.step)⟩
            ·rw [if_neg c9] at H
             exact absurd H (by simp)
           ·rw [if_neg c8] at H
            have c8b0 : decide (x4_2 < (((rd_T42 l0 x3_1).f0).length : Int)) = false := decide_eq_false c8
            clear c8
            have H' := Aside0.mk H
            clear H
            have p298 : 0 ≤ (x3_1 : Int) := of_decide_eq_true (by first | (with_reducible assumption) | assumption)
            have q298 : x3_1 < (l0.length : Int) := of_decide_eq_true (by first | (with_reducible assumption) | assumption)
            obtain ⟨ad298, A298_0, c298_0, e298, hx298_0, hx298_1, hx298_2, hx298_3, hl298_0, hi298_0⟩ := at_T42 HR0.out x3_1 p298 q298
            obtain rfl : ad297 = ad298 := (by injection e298)
            have HR298_0 := Aside0.mk hi298_0
            have HC298_0 := Aside0.mk hl298_0
            clear hi298_0 hl298_0
            replace p298 := eq_true p298
            replace q298 := eq_true q298
            go_wp2
            go_roundg k2
            case measure => have := HK1.out; have := HK2.out; omega
            case rel => exact ⟨(wrap64 (x3_1 + 1)), (by first | rfl | (simp; done) | (simp [*]; done)), H', ⟨by have := HK1.out; have := HK2.out; omega⟩, by repeat (first | exact Drawn0.refl _ | apply Drawn0.step)⟩
          ·rw [if_neg c7] at H
           exact absurd H (by simp)
         ·rw [if_neg c6] at H
          exact absurd H (by simp)
     ·rw [if_neg c4] at H
      exact absurd H (by simp)
    ·rw [if_neg c3] at H
     have c3b0 : decide (x3_1 < (l0.length : Int)) = false := decide_eq_false c3
     clear c3
     obtain rfl := Option.some.inj H
     go_wp2
     go_ret
     exact ⟨by first | rfl | (simp; done) | (simp [*]; done), by repeat (first | exact Drawn0.refl _ | apply Drawn0.step)⟩

end Go.Proofs.Ytclbjddcenkidaa.PS
namespace Go.Proofs.Ytclbjddcenkidaa.PS
open Go.RowKit Go.Proofs.YtclbjddcenkidaaW.PrintWords Go.Proofs.YtclbjddcenkidaaW.PrintLast Go.Proofs.YtclbjddcenkidaaW.PrintMore
attribute [local go_sem] max2_int min2_int max_two min_two max_three min_three max_four min_four
open Go.Maps
theorem same_self_ev (l : List Int) (hl : l.length < 4611686018427387904) : Ev (fun k => barscanlaw23_same.f k l l) true := by
  have H : ∀ n i : Nat, i + n = l.length → Ev (fun k => barscanlaw23_same.l0 k l l (i : Int)) true := by
    intro n
    induction n with
    | zero =>
      intro i hi
      refine Ev.step (fun f => barscanlaw23_same.l0.eq_2 ..) ?_
      exact Ev.ifn (by omega) (Ev.now _)
    | succ n ih =>
      intro i hi
      have i1 : (i : Int) < (l.length : Int) := by omega
      have i2 : 0 ≤ (i : Int) := by omega
      have hnext := ih (i + 1) (by omega)
      have hw : wrap64 ((i : Int) + 1) = ((i + 1 : Nat) : Int) := by unfold wrap64; omega
      refine Ev.step (fun f => barscanlaw23_same.l0.eq_2 ..) ?_
      simp only [hw]
      exact Ev.ifp i1 (Ev.ifp i2 (Ev.ifp i1 (Ev.ifp trivial hnext)))
  unfold barscanlaw23_same.f
  exact Ev.ifp rfl (H l.length 0 (by omega))
theorem join_bound : ∀ (l : List S54), (∀ s ∈ l, s.f1.length ≤ 200) → (joinS l).length ≤ l.length * 200
  | [], _ => by simp [joinS]
  | s :: l, h => by
    have ih := join_bound l (fun x hx => h x (List.mem_cons_of_mem _ hx))
    have h1 := h s List.mem_cons_self
    have e : joinS (s :: l) = s.f1 ++ joinS l := by simp [joinS]
    rw [e, List.length_append, List.length_cons, Nat.succ_mul]
    omega
/-- few -/
theorem few_l1 {l : List S42} (hl : l.length ≤ 40) {i : Nat} (hi : i < l.length) (hs : l[i].f0.length ≤ 10) (hnext : (∀ s ∈ l[i].f0, s.f1.length ≤ 200) → ∃ b, Ev (fun f => barscanlaw23_few.l0 f l ((i + 1 : Nat) : Int)) b ∧ (b = true → ∀ j (hj : j < l.length), fewM l[j])) :
    ∀ n k, k + n = l[i].f0.length → (∀ j (hj : j < l[i].f0.length), j < k → l[i].f0[j].f1.length ≤ 200) → ∃ b, Ev (fun f => barscanlaw23_few.l1 f l (i : Int) (k : Int)) b ∧ (b = true → ∀ j (hj : j < l.length), fewM l[j]) := by
  intro n
  induction n with
  | zero =>
    intro k hk hok
    obtain ⟨b, hb, hf⟩ := hnext (fun s hs => by
      obtain ⟨j, hj, rfl⟩ := List.mem_iff_getElem.1 hs
      exact hok j hj (by omega))
    refine ⟨b, ?_, hf⟩
    refine Ev.step (fun f => barscanlaw23_few.l1.eq_2 ..) ?_
    refine Ev.ifp (by omega) (Ev.ifp (by omega) ?_)
    rw [rd42 hi, wr_nat i (by omega)]
    exact Ev.ifn (by omega) hb
  | succ n ih =>
    intro k hk hok
    have hkl : k < l[i].f0.length := by omega
    by_cases h2 : l[i].f0[k].f1.length ≤ 200
    · obtain ⟨b, hb, hf⟩ := ih (k + 1) (by omega) (fun j hj hjk => by
        by_cases e : j = k
        · subst e; exact h2
        · exact hok j hj (by omega))
      refine ⟨b, ?_, hf⟩
      refine Ev.step (fun f => barscanlaw23_few.l1.eq_2 ..) ?_
      refine Ev.ifp (by omega) (Ev.ifp (by omega) ?_)
      rw [rd42 hi]
      refine Ev.ifp (by omega) (Ev.ifp (by omega) ?_)
      rw [rd54 hkl, wr_nat k (by omega)]
      exact Ev.ifn (by omega) hb
    · refine ⟨false, ?_, fun h => by simp at h⟩
      refine Ev.step (fun f => barscanlaw23_few.l1.eq_2 ..) ?_
      refine Ev.ifp (by omega) (Ev.ifp (by omega) ?_)
      rw [rd42 hi]
      refine Ev.ifp (by omega) (Ev.ifp (by omega) ?_)
      rw [rd54 hkl]
      exact Ev.ifp (by omega) (Ev.now _)
theorem few_ev (l : List S42) : ∃ b, Ev (fun f => barscanlaw23_few.f f l) b ∧ (b = true → fewL l ∧ l.length ≤ 40) := by
  unfold barscanlaw23_few.f
  by_cases hl : l.length ≤ 40
  · suffices H : ∀ n i, i + n = l.length → (∀ j (hj : j < l.length), j < i → fewM l[j]) → ∃ b, Ev (fun f => barscanlaw23_few.l0 f l (i : Int)) b ∧ (b = true → ∀ j (hj : j < l.length), fewM l[j]) by
      obtain ⟨b, hb, hf⟩ := H l.length 0 (by omega) (fun j _ hj => by omega)
      refine ⟨b, Ev.ifn (by omega) hb, fun h => ⟨⟨by omega, fun m hm => ?_⟩, hl⟩⟩
      obtain ⟨j, hj, rfl⟩ := List.mem_iff_getElem.1 hm
      exact hf h j hj
    intro n
    induction n with
    | zero =>
      intro i hi hok
      refine ⟨true, ?_, fun _ j hj => hok j hj (by omega)⟩
      refine Ev.step (fun f => barscanlaw23_few.l0.eq_2 ..) ?_
      exact Ev.ifn (by omega) (Ev.now _)
    | succ n ih =>
      intro i hi hok
      have hlt : i < l.length := by omega
      by_cases h2 : l[i].f0.length ≤ 10
      · obtain ⟨b, hb, hf⟩ := few_l1 hl hlt h2 (fun hall => ih (i + 1) (by omega) (fun j hj hji => by
          by_cases e : j = i
          · subst e
            have := join_bound _ hall
            exact ⟨by omega, by omega⟩
          · exact hok j hj (by omega))) l[i].f0.length 0 (by omega) (fun j _ hj => by omega)
        refine ⟨b, ?_, hf⟩
        refine Ev.step (fun f => barscanlaw23_few.l0.eq_2 ..) ?_
        refine Ev.ifp (by omega) (Ev.ifp (by omega) ?_)
        rw [rd42 hlt]
        exact Ev.ifn (by omega) hb
      · refine ⟨false, ?_, fun h => by simp at h⟩
        refine Ev.step (fun f => barscanlaw23_few.l0.eq_2 ..) ?_
        refine Ev.ifp (by omega) (Ev.ifp (by omega) ?_)
        rw [rd42 hlt]
        exact Ev.ifp (by omega) (Ev.now _)
  · exact ⟨false, Ev.ifp (by omega) (Ev.now _), fun h => by simp at h⟩
theorem few_small {l : List S42} (h : fewL l) : ∀ m ∈ l, smallM m := fun m hm => by
  obtain ⟨h1, h2⟩ := h.2 m hm
  exact ⟨by omega, by omega⟩
theorem colR_len (first : S40) : ∀ (l : List S42) (es es' : List (Int × ByteArray)), colR first l es = some es' → es'.length ≤ es.length + l.length
  | [], es, es', h => by
    rw [colR] at h
    cases h
    simp
  | m :: l, es, es', h => by
    rw [colR] at h
    split at h
    · simp at h
    · have := colR_len first l _ _ h
      have h2 : (putS es m).length ≤ es.length + 1 := by
        unfold putS
        split
        · omega
        · simp
      rw [List.length_cons]
      omega
theorem col_len (l : List S42) : (colS l).2.length ≤ l.length := by
  unfold colS
  split
  · simp
  · split
    · simp
    · split
      · simp
      · rename_i es h
        have := colR_len _ _ _ _ h
        simpa using this
theorem col_err {l : List S42} (h : (colS l).1 ≠ 0) : (colS l).2 = [] := by
  unfold colS at h ⊢
  split
  · rfl
  · rename_i h0
    rw [if_neg h0] at h
    split
    · rfl
    · rename_i h1
      rw [if_neg h1] at h
      split
      · rfl
      · rename_i es he
        rw [he] at h
        exact absurd rfl h
theorem flat_bound {α : Type} (f : α → List Int) (B : Nat) : ∀ (l : List α), (∀ x ∈ l, (f x).length ≤ B) → (l.flatMap f).length ≤ l.length * B
  | [], _ => by simp
  | x :: l, h => by
    have ih := flat_bound f B l (fun y hy => h y (List.mem_cons_of_mem _ hy))
    have h1 := h x List.mem_cons_self
    rw [List.flatMap_cons, List.length_append, List.length_cons, Nat.succ_mul]
    omega
theorem out_few {l : List S42} (h : fewL l) : (outS (colS l).2).length ≤ 10000000 := by
  by_cases hc : (colS l).1 = 0
  · obtain ⟨ht, _⟩ := (col_chk l).2 hc
    have h1 := flat_bound (pieceS (colS l).2) 100000 (keysS (colS l).2) (fun x _ => by
      unfold pieceS
      cases hx : (colS l).2.lookup x with
      | none => simp
      | some s =>
        obtain ⟨m, hm, _, e⟩ := (ht.look _ _).1 hx
        have := text_size (h.2 m hm)
        show (bytesOf s).length ≤ 100000
        rw [bytesOf_length, ← e]
        exact this)
    have h2 : (keysS (colS l).2).length = (colS l).2.length := by unfold keysS; rw [List.length_mergeSort, List.length_map]
    have h3 := col_len l
    have h4 := h.1
    rw [h2] at h1
    unfold outS
    omega
  · rw [col_err hc]
    unfold outS keysS
    rw [List.map_nil, List.mergeSort_nil]
    simp

end Go.Proofs.Ytclbjddcenkidaa.PS
namespace Go.Proofs.Ytclbjddcenkidaa.PS
open Go.RowKit Go.Proofs.YtclbjddcenkidaaW.PrintWords Go.Proofs.YtclbjddcenkidaaW.PrintLast Go.Proofs.YtclbjddcenkidaaW.PrintMore
attribute [local go_sem] max2_int min2_int max_two min_two max_three min_three max_four min_four   -- for this text's walks alone

def split_fits.f (k : Nat) (l0 : List Int) (a1 : Int) (a2 : Int) (a3 : Int) : Option (Bool) := (qrversion_Smallest.f k l0 a2 a3).bind fun bt168 => (if bt168.2.2 = 0 then (some (decide (bt168.1 ≤ a1))) else (some false))
theorem split_fits.mono : ∀ a0 a1 a2 a3 k, LeO (split_fits.f k a0 a1 a2 a3) (split_fits.f (k + 1) a0 a1 a2 a3) := by
 intro a0 a1 a2 a3 k
 unfold split_fits.f
 repeat' first
   | (with_reducible exact qrversion_Smallest.mono _ _ _ _)
   | (with_reducible exact LeO.refl _)
   | (with_reducible exact LeO.none _)
   | (with_reducible refine LeO.ite ?_ ?_)
   | (with_reducible refine LeO.bind ?_ (fun _ => ?_))
   | exact qrversion_Smallest.mono _ _ _ _
   | exact LeO.none _
   | refine LeO.ite ?_ ?_
   | refine LeO.bind ?_ (fun _ => ?_)
set_option maxHeartbeats 8000000 in
set_option maxRecDepth 100000 in
theorem split_fits.calls (k : Nat) (A0 : Option Addr) (c0 : Nat) (l0 : List Int) (a1 : Int) (a2 : Int) (a3 : Int) (r : Bool) (w : World) (hr0 : Kd.C (Kd.int .u8) w A0 l0.length l0) (hc0 : l0.length ≤ c0) (h : split_fits.f k l0 a1 a2 a3 = some r) :
  Calls Try.prog 22 #[.slice A0 l0.length c0, .int .i64 a1, .int .i64 a2, .int .i64 a3] w fun e w' => e = .returned (.bool r) ∧ Below w.heap.size w w' := by
 have HR0 := Aside0.mk hr0
 have HC0 := Aside0.mk hc0
 clear hr0 hc0
 have HB := Aside0.mk (Below.refl w.heap.size w)
 have H : ((qrversion_Smallest.f k l0 a2 a3).bind fun bt168 => (if bt168.2.2 = 0 then (some (decide (bt168.1 ≤ a1))) else (some false))) = some r := h
 clear h
 replace H := Option.bind_eq_some_iff.mp H
 obtain ⟨⟨t168, t169, t172⟩, A50, H⟩ := H
 replace H : (if t172 = 0 then (some (decide (t168 ≤ a1))) else (some false)) = some r := H
 have A5 := Aside0.mk A50
 clear A50
 by_cases c6 : t172 = 0
 ·rw [if_pos c6] at H
  have c6b0 : (t172 == 0) = true := beq_iff_eq.mpr c6
  have c6b1 : (t172 != 0) = false := bne_eq_false_iff_eq.mpr c6
  clear c6
  obtain rfl := Option.some.inj H
  go_enter Try.func22, Try.ntmps22
  go_wp2_with (first | ((with_reducible refine gate_callee (f := 34) rfl ?_); refine goesL_ (some 16) rfl rfl Try.func34 (by kernel_rfl) rfl #[.slice A0 l0.length c0, .int .i64 a2, .int .i64 a3] rfl (by (try simp only [List.map_toArray, List.map_cons, List.map_nil]); first | done | rfl | (simp only [List.length_drop, List.length_take]; rfl)) ?_; (with_reducible refine (qrversion_Smallest.calls k _ _ l0 a2 a3 t168 t169 t172 _ ?side1 ?side2 A5.out).mono ?_); (case side1 => repeat (first | exact HR0.out | (with_reducible refine Kd.C_alloc ?_ _) | (with_reducible refine Kd.C_drewN ?_ _) | (with_reducible refine Kd.C_drew ?_))); (case side2 => exact HC0.out); rintro e w7 ⟨v170, rfl, ho0, hb⟩; refine ⟨_, rfl, ?_⟩; have n0_ := Aside0.mk (Kd.N_lower (Kd.N_mono (ok' := fun k_ => True) ho0 (fun k_ hk_ => trivial)) (below_size (by repeat (first | (with_reducible first | exact HB.out | apply below_alloc | apply pw_below_drewN | apply below_drew1) | exact HB.out)))); have n1_ := Aside0.mk (below_step (by repeat (first | (with_reducible first | exact HB.out | apply below_alloc | apply pw_below_drewN | apply below_drew1) | exact HB.out)) hb); clear HB; have HO171 := n0_; have HB := n1_; clear n0_ n1_; (try clear hb); (try clear hb2); (try clear hk); (try clear hi); (try clear ho0)))
  go_ret
  exact ⟨by first | rfl | (simp [errW_none, errW_some] <;> rfl) | (simp [*, errW_none, errW_some] <;> rfl), by repeat (first | (with_reducible first | exact HB.out | apply below_alloc | apply pw_below_drewN | apply below_drew1) | exact HB.out)⟩
 ·rw [if_neg c6] at H
  have c6b0 : (t172 == 0) = false := beq_eq_false_iff_ne.mpr c6
  have c6b1 : (t172 != 0) = true := bne_iff_ne.mpr c6
  obtain rfl := Option.some.inj H
  go_enter Try.func22, Try.ntmps22
  go_wp2_with (first | ((with_reducible refine gate_callee (f := 34) rfl ?_); refine goesL_ (some 16) rfl rfl Try.func34 (by kernel_rfl) rfl #[.slice A0 l0.length c0, .int .i64 a2, .int .i64 a3] rfl (by (try simp only [List.map_toArray, List.map_cons, List.map_nil]); first | done | rfl | (simp only [List.length_drop, List.length_take]; rfl)) ?_; (with_reducible refine (qrversion_Smallest.calls k _ _ l0 a2 a3 t168 t169 t172 _ ?side1 ?side2 A5.out).mono ?_); (case side1 => repeat (first | exact HR0.out | (with_reducible refine Kd.C_alloc ?_ _) | (with_reducible refine Kd.C_drewN ?_ _) | (with_reducible refine Kd.C_drew ?_))); (case side2 => exact HC0.out); rintro e w8 ⟨v170, rfl, ho0, hb⟩; refine ⟨_, rfl, ?_⟩; have n0_ := Aside0.mk (Kd.N_lower (Kd.N_mono (ok' := fun k_ => True) ho0 (fun k_ hk_ => trivial)) (below_size (by repeat (first | (with_reducible first | exact HB.out | apply below_alloc | apply pw_below_drewN | apply below_drew1) | exact HB.out)))); have n1_ := Aside0.mk (below_step (by repeat (first | (with_reducible first | exact HB.out | apply below_alloc | apply pw_below_drewN | apply below_drew1) | exact HB.out)) hb); clear HB; have HO171 := n0_; have HB := n1_; clear n0_ n1_; (try clear hb); (try clear hb2); (try clear hk); (try clear hi); (try clear ho0)))
  go_ret
  exact ⟨by first | rfl | (simp [errW_none, errW_some] <;> rfl) | (simp [*, errW_none, errW_some] <;> rfl), by repeat (first | (with_reducible first | exact HB.out | apply below_alloc | apply pw_below_drewN | apply below_drew1) | exact HB.out)⟩

end Go.Proofs.Ytclbjddcenkidaa.PS
namespace Go.Proofs.Ytclbjddcenkidaa.PS
open Go.RowKit Go.Proofs.YtclbjddcenkidaaW.PrintWords Go.Proofs.YtclbjddcenkidaaW.PrintLast Go.Proofs.YtclbjddcenkidaaW.PrintMore
attribute [local go_sem] max2_int min2_int max_two min_two max_three min_three max_four min_four   -- for this text's walks alone

def qrversion_Capacity.f (a0 : Int) (a1 : Int) : Option (Int × Int) := (qrversion_level.f a0 a1).bind fun t104 => (if t104 = 0 then ((qrversion_capacity.f a0 a1).bind fun t105 => (some (t105, 0))) else (some (0, t104)))
set_option maxHeartbeats 8000000 in
set_option maxRecDepth 100000 in
theorem qrversion_Capacity.calls (a0 : Int) (a1 : Int) (r1 : Int) (r2 : Int) (w : World) (h : qrversion_Capacity.f a0 a1 = some (r1, r2)) :
  Calls Try.prog 21 #[.int .i64 a0, .int .i64 a1] w fun e w' => e = .returned (.tuple #[.int .i64 r1, .int .i64 r2]) ∧ Below w.heap.size w w' := by
 have HB := Aside0.mk (Below.refl w.heap.size w)
 have H : ((qrversion_level.f a0 a1).bind fun t104 => (if t104 = 0 then ((qrversion_capacity.f a0 a1).bind fun t105 => (some (t105, 0))) else (some (0, t104)))) = some (r1, r2) := h
 clear h
 replace H := Option.bind_eq_some_iff.mp H
 obtain ⟨t104, A30, H⟩ := H
 replace H : (if t104 = 0 then ((qrversion_capacity.f a0 a1).bind fun t105 => (some (t105, 0))) else (some (0, t104))) = some (r1, r2) := H
 have A3 := Aside0.mk A30
 clear A30
 by_cases c4 : t104 = 0
 ·rw [if_pos c4] at H
  have c4b0 : (t104 == 0) = true := beq_iff_eq.mpr c4
  have c4b1 : (t104 != 0) = false := bne_eq_false_iff_eq.mpr c4
  clear c4
  replace H := Option.bind_eq_some_iff.mp H
  obtain ⟨t105, A50, H⟩ := H
  replace H : (some (t105, 0)) = some (r1, r2) := H
  have A5 := Aside0.mk A50
  clear A50
  simp only [Option.some.injEq, Prod.mk.injEq] at H
  obtain ⟨rfl, rfl⟩ := H
  go_enter Try.func21, Try.ntmps21
  go_wp2_with (first | ((with_reducible refine gate_callee (f := 32) rfl ?_); refine goesL_ (some 9) rfl rfl Try.func32 (by kernel_rfl) rfl #[.int .i64 a0, .int .i64 a1] rfl (by (try simp only [List.map_toArray, List.map_cons, List.map_nil]); first | done | rfl | (simp only [List.length_drop, List.length_take]; rfl)) ?_; (with_reducible refine (qrversion_level.calls a0 a1 t104 _ A3.out).mono ?_); rintro e w' ⟨rfl, ⟨nd, rfl⟩⟩; refine ⟨_, rfl, ?_⟩) | ((with_reducible refine gate_callee (f := 33) rfl ?_); refine goesL_ (some 15) rfl rfl Try.func33 (by kernel_rfl) rfl #[.int .i64 a0, .int .i64 a1] rfl (by (try simp only [List.map_toArray, List.map_cons, List.map_nil]); first | done | rfl | (simp only [List.length_drop, List.length_take]; rfl)) ?_; (with_reducible refine (qrversion_capacity.calls a0 a1 t105 _ A5.out).mono ?_); rintro e w6 ⟨rfl, hb⟩; refine ⟨_, rfl, ?_⟩; have n0_ := Aside0.mk (below_step (by repeat (first | (with_reducible first | exact HB.out | apply below_alloc | apply pw_below_drewN | apply below_drew1) | exact HB.out)) hb); clear HB; have HB := n0_; clear n0_; (try clear hb); (try clear hb2); (try clear hk); (try clear hi)))
  go_ret2
  exact ⟨by first | rfl | (simp [errW_none, errW_some] <;> rfl) | (simp [*, errW_none, errW_some] <;> rfl), by repeat (first | (with_reducible first | exact HB.out | apply below_alloc | apply pw_below_drewN | apply below_drew1) | exact HB.out)⟩
 ·rw [if_neg c4] at H
  have c4b0 : (t104 == 0) = false := beq_eq_false_iff_ne.mpr c4
  have c4b1 : (t104 != 0) = true := bne_iff_ne.mpr c4
  simp only [Option.some.injEq, Prod.mk.injEq] at H
  obtain ⟨rfl, rfl⟩ := H
  go_enter Try.func21, Try.ntmps21
  go_wp2_with (first | ((with_reducible refine gate_callee (f := 32) rfl ?_); refine goesL_ (some 9) rfl rfl Try.func32 (by kernel_rfl) rfl #[.int .i64 a0, .int .i64 a1] rfl (by (try simp only [List.map_toArray, List.map_cons, List.map_nil]); first | done | rfl | (simp only [List.length_drop, List.length_take]; rfl)) ?_; (with_reducible refine (qrversion_level.calls a0 a1 t104 _ A3.out).mono ?_); rintro e w' ⟨rfl, ⟨nd, rfl⟩⟩; refine ⟨_, rfl, ?_⟩))
  go_ret2
  exact ⟨by first | rfl | (simp [errW_none, errW_some] <;> rfl) | (simp [*, errW_none, errW_some] <;> rfl), by repeat (first | (with_reducible first | exact HB.out | apply below_alloc | apply pw_below_drewN | apply below_drew1) | exact HB.out)⟩

end Go.Proofs.Ytclbjddcenkidaa.PS
namespace Go.Proofs.Ytclbjddcenkidaa.PS
open Go.RowKit Go.Proofs.YtclbjddcenkidaaW.PrintWords Go.Proofs.YtclbjddcenkidaaW.PrintLast Go.Proofs.YtclbjddcenkidaaW.PrintMore
attribute [local go_sem] max2_int min2_int max_two min_two max_three min_three max_four min_four
def clsOf (v : Nat) : Int := if v ≤ 9 then 0 else if v ≤ 26 then 1 else 2
/-- does the payload fit a version exactly -/
def fitV (l : List Int) (lev : Nat) (ex : Int) (v : Nat) : Bool := decide (bitsS (clsOf v) l + ex ≤ 8 * capV v lev)
def smallR (l : List Int) (lev : Nat) (ex : Int) : Nat → Nat → Option Nat
  | 0, _ => none
  | d + 1, v => if fitV l lev ex v = true then some v else smallR l lev ex d (v + 1)
def smallOut (l : List Int) : Option Nat → Int × List S54 × Int
  | some v => (v, segS (clsOf v) l.length l, 0)
  | none => (0, [], 16)
theorem capV_bd : ∀ v, v < 40 → ∀ l, l < 4 → 0 ≤ capV (v + 1) (l + 1) ∧ capV (v + 1) (l + 1) ≤ 4000 := by decide +kernel
theorem clsOf_bd (v : Nat) : 0 ≤ clsOf v ∧ clsOf v ≤ 2 := by
  unfold clsOf
  split
  · omega
  · split <;> omega
theorem class_ev (v : Nat) (h1 : 1 ≤ v) (h2 : v ≤ 40) : Ev (fun k => modes_Class.f k v) (clsOf v, 0) := by
  refine ⟨1, fun k hk => ?_⟩
  obtain ⟨k, rfl⟩ : ∃ j, k = j + 1 := ⟨k - 1, by omega⟩
  show modes_Class.f (k + 1) v = _
  unfold modes_Class.f clsOf
  rw [if_neg (by omega)]
  simp only [modes_Class.j0]
  rw [if_neg (by simp; omega)]
  by_cases a : v ≤ 9
  · rw [if_pos (by omega), if_pos a]
  · rw [if_neg (by omega), if_neg a]
    by_cases b : v ≤ 26
    · rw [if_pos (by omega), if_pos b]
    · rw [if_neg (by omega), if_neg b]
theorem bitsS_bd {cls : Int} (h0 : 0 ≤ cls) (h2 : cls ≤ 2) (l : List Int) (hl : l.length ≤ 4096) : 0 ≤ bitsS cls l ∧ bitsS cls l ≤ 28 * l.length := by
  have h := planS_ok h0 h2 l hl
  have hn := planS_len cls l
  unfold bitsS
  cases hp : planS cls l with
  | nil => rw [hp] at hn; simp at hn
  | cons p r =>
    have := (h 0 p (by rw [hp]; rfl)).2
    exact ⟨this.b0, by simpa using this.b1⟩
theorem wr_cap (c b : Int) (h0 : 0 ≤ c) (h1 : c ≤ 4000) (h2 : 0 ≤ b) (h3 : b ≤ 200000) : wrap64 (8 * c) = 8 * c ∧ wrap64 (8 * c - b) = 8 * c - b := by
  refine ⟨w64 ?_ ?_, w64 ?_ ?_⟩ <;> omega
section
variable {l : List Int} (hn : l.length ≤ 4096) (hx : ∀ c ∈ l, 0 ≤ c ∧ c < 256) {lv : Nat} (hlv : lv < 4) {ex : Int} (e0 : 0 ≤ ex) (e1 : ex ≤ 1000)
include hn hx hlv e0 e1
theorem small_l0 : ∀ (d v : Nat) (x10 : Int) (x11 : List S54) (x12 : Int), v + d = 41 → 1 ≤ v → (x10 = -1 ∨ 0 ≤ x10 ∧ x10 ≤ 2 ∧ x12 = bitsS x10 l ∧ x11 = segS x10 l.length l) →
    Ev (fun f => qrversion_Smallest.l0 f l ((lv : Int) + 1) ex x10 x11 x12 v) (smallOut l (smallR l (lv + 1) ex d v)) := by
  intro d
  induction d with
  | zero =>
    intro v x10 x11 x12 hd hv _
    have i1 : ¬ (v : Int) ≤ 40 := by omega
    refine Ev.step (fun f => qrversion_Smallest.l0.eq_2 ..) ?_
    exact Ev.ifn i1 (Ev.now _)
  | succ d ih =>
    intro v x10 x11 x12 hd hv hI
    have i1 : (v : Int) ≤ 40 := by omega
    have hc := clsOf_bd v
    have hb := bitsS_bd hc.1 hc.2 l hn
    have hcap := capV_bd (v - 1) (by omega) lv hlv
    rw [show v - 1 + 1 = v by omega] at hcap
    have hcf : qrversion_capacity.f (v : Int) ((lv : Int) + 1) = some (capV v (lv + 1)) := by
      unfold qrversion_capacity.f
      rw [if_pos (by omega), Int.toNat_natCast, show ((lv : Int) + 1).toNat = lv + 1 by omega]
    have hv5 : v ≤ 5000 := by omega
    have hv4 : v ≤ 40 := by omega
    have hb3 : bitsS (clsOf v) l ≤ 200000 := by omega
    have hne : clsOf v ≠ -1 := by omega
    have hnext := ih (v + 1) (clsOf v) (segS (clsOf v) l.length l) (bitsS (clsOf v) l) (by omega) (by omega) (.inr ⟨hc.1, hc.2, rfl, rfl⟩)
    have key : Ev (fun f => if bitsS (clsOf v) l ≤ 8 * capV v (lv + 1) then (if ex ≤ 8 * capV v (lv + 1) - bitsS (clsOf v) l then some ((v : Int), segS (clsOf v) l.length l, (0 : Int)) else qrversion_Smallest.l0 f l ((lv : Int) + 1) ex (clsOf v) (segS (clsOf v) l.length l) (bitsS (clsOf v) l) ((v + 1 : Nat) : Int)) else qrversion_Smallest.l0 f l ((lv : Int) + 1) ex (clsOf v) (segS (clsOf v) l.length l) (bitsS (clsOf v) l) ((v + 1 : Nat) : Int)) (smallOut l (smallR l (lv + 1) ex (d + 1) v)) := by
      unfold smallR fitV
      by_cases a : bitsS (clsOf v) l ≤ 8 * capV v (lv + 1)
      · refine Ev.ifp a ?_
        by_cases b : ex ≤ 8 * capV v (lv + 1) - bitsS (clsOf v) l
        · refine Ev.ifp b ?_
          rw [if_pos (by simp; omega)]
          exact Ev.now _
        · refine Ev.ifn b ?_
          rw [if_neg (by simp; omega)]
          exact hnext
      · refine Ev.ifn a ?_
        rw [if_neg (by simp; omega)]
        exact hnext
    obtain ⟨w1, w2⟩ := wr_cap (capV v (lv + 1)) (bitsS (clsOf v) l) hcap.1 hcap.2 hb.1 hb3
    have w3 := wr_add1 v hv5
    refine Ev.step (fun f => qrversion_Smallest.l0.eq_2 ..) ?_
    refine Ev.ifp i1 ?_
    refine Ev.bind (g := fun f => modes_Class.f f v) (class_ev v hv hv4) ?_
    simp only [hcf, Option.bind_some]
    by_cases hcl : clsOf v = x10
    · refine Ev.ifp hcl ?_
      rcases hI with rfl | ⟨_, _, rfl, rfl⟩
      · exact absurd hcl hne
      · subst hcl
        simp only [w1, w2, w3]
        exact key
    · refine Ev.ifn hcl ?_
      refine Ev.bind (g := fun f => modes_Best.f f l (clsOf v)) (best_ev hc.1 hc.2 hn hx) ?_
      refine Ev.ifp rfl ?_
      simp only [w1, w2, w3]
      exact key
theorem small_ev : Ev (fun k => qrversion_Smallest.f k l ((lv : Int) + 1) ex) (smallOut l (smallR l (lv + 1) ex 40 1)) := by
  have h := small_l0 hn hx hlv e0 e1 40 1 (-1) [] 0 (by omega) (by omega) (.inl rfl)
  have hlev : qrversion_level.f 1 ((lv : Int) + 1) = some 0 := by
    unfold qrversion_level.f qrversion_valid.f
    rw [if_pos (by decide)]
    simp only [Option.bind_some]
    rw [if_pos (by decide), if_neg (by omega), if_neg (by omega)]
  unfold qrversion_Smallest.f
  rw [hlev]
  simp only [Option.bind_some]
  exact Ev.ifp trivial (Ev.ifn (by omega) h)
def fitsS (l : List Int) (v : Int) (lev : Nat) (ex : Int) : Bool := match smallR l lev ex 40 1 with
  | some v' => decide ((v' : Int) ≤ v)
  | none => false
theorem fits_ev (v : Int) : Ev (fun k => split_fits.f k l v ((lv : Int) + 1) ex) (fitsS l v (lv + 1) ex) := by
  have h := small_ev hn hx hlv e0 e1
  unfold split_fits.f
  refine Ev.bind (g := fun k => qrversion_Smallest.f k l ((lv : Int) + 1) ex) h ?_
  unfold fitsS
  cases smallR l (lv + 1) ex 40 1 with
  | none => exact Ev.ifn (by simp [smallOut]) (Ev.now _)
  | some v' => exact Ev.ifp rfl (Ev.now _)
end

end Go.Proofs.Ytclbjddcenkidaa.PS
namespace Go.Proofs.Ytclbjddcenkidaa.PS
open Go.RowKit Go.Proofs.YtclbjddcenkidaaW.PrintWords Go.Proofs.YtclbjddcenkidaaW.PrintLast Go.Proofs.YtclbjddcenkidaaW.PrintMore
attribute [local go_sem] max2_int min2_int max_two min_two max_three min_three max_four min_four
/-- the binary search of sort.Search -/
def bsearch (p : Nat → Bool) : Nat → Nat → Nat → Nat
  | 0, lo, _ => lo
  | k + 1, lo, hi => if lo < hi then (if p ((lo + hi) / 2) = true then bsearch p k lo ((lo + hi) / 2) else bsearch p k ((lo + hi) / 2 + 1) hi) else lo
theorem bsearch_le (p : Nat → Bool) : ∀ k lo hi, lo ≤ hi → lo ≤ bsearch p k lo hi ∧ bsearch p k lo hi ≤ hi
  | 0, lo, hi, h => ⟨Nat.le_refl _, h⟩
  | k + 1, lo, hi, h => by
    unfold bsearch
    split
    · split
      · have := bsearch_le p k lo ((lo + hi) / 2) (by omega)
        omega
      · have := bsearch_le p k ((lo + hi) / 2 + 1) hi (by omega)
        omega
    · omega
set_option maxHeartbeats 4000000 in
set_option maxRecDepth 100000 in
theorem Search_calls (g : Nat) (cb : Array Value) (n : Nat) (p : Nat → Bool) (w : World) (eg : ∀ args w, (callFunc g args).run Try.prog w = .ok (.enter g args) w) (hsz : n < 4611686018427387904)
    (hf : ∀ (W : World) (i : Nat), Below w.heap.size w W → i < n → Calls Try.prog g (#[.int .i64 i] ++ cb) W fun e w' => e = .returned (.bool (p i)) ∧ Below w.heap.size w w') :
    Calls Try.prog 23 #[.int .i64 n, .func (.func g) #[] cb] w fun e w' => e = .returned (.int .i64 ((bsearch p n 0 n : Nat) : Int)) ∧ Below w.heap.size w w' := by
  have HF := Aside0.mk hf
  clear hf
  obtain ⟨res, hres⟩ : ∃ res, res = bsearch p n 0 n := ⟨_, rfl⟩
  rw [← hres]
  have HS := Aside0.mk hres
  clear hres
  go_enter Try.func23, Try.ntmps23
  go_wp2
  go_loopg [5, 6] n (fun kx s5 s6 wr => ∃ (lo hi : Nat), s5 = .int .i64 lo ∧ s6 = .int .i64 hi ∧ lo ≤ hi ∧ hi ≤ n ∧ hi - lo ≤ kx ∧ Aside0 (Below w.heap.size w wr) ∧ Aside0 (res = bsearch p kx lo hi))
  case atStart => exact ⟨0, n, rfl, rfl, Nat.zero_le _, Nat.le_refl _, by omega, ⟨Below.refl _ _⟩, HS⟩
  case round =>
    obtain ⟨lo, hi, rfl, rfl, hlh, hin, hg, HB, HR⟩ := hrel
    by_cases hlt : lo < hi
    · obtain ⟨kk, rfl⟩ : ∃ kk, gk = kk + 1 := ⟨gk - 1, by omega⟩
      have hc := HF.out wr ((lo + hi) / 2) HB.out (by omega)
      rw [show (((lo + hi) / 2 : Nat) : Int) = ((lo : Int) + (hi : Int)) / 2 by omega] at hc
      cases hp : p ((lo + hi) / 2) <;> rw [hp] at hc
      · have HP := Aside0.mk hp
        have HC := Aside0.mk hc
        clear hp hc
        go_wp2_with (fail)
        refine HC.out.mono ?_
        rintro e w1 ⟨rfl, hb1⟩
        have HB1 := Aside0.mk hb1
        clear hb1 HC
        go_wp2
        go_roundg kk
        case measure => omega
        case rel => exact ⟨(lo + hi) / 2 + 1, hi, by go_num, by go_num, by omega, by omega, by omega, HB1, ⟨by rw [HR.out, bsearch, if_pos hlt, if_neg (by rw [HP.out]; simp)]⟩⟩
      · have HP := Aside0.mk hp
        have HC := Aside0.mk hc
        clear hp hc
        go_wp2_with (fail)
        refine HC.out.mono ?_
        rintro e w1 ⟨rfl, hb1⟩
        have HB1 := Aside0.mk hb1
        clear hb1 HC
        go_wp2
        go_roundg kk
        case measure => omega
        case rel => exact ⟨lo, (lo + hi) / 2, by go_num, by go_num, by omega, by omega, by omega, HB1, ⟨by rw [HR.out, bsearch, if_pos hlt, if_pos HP.out]⟩⟩
    · have he : lo = hi := by omega
      go_wp2
      go_ret
      refine ⟨?_, HB.out⟩
      have : res = lo := by
        rw [HR.out]
        cases gk with
        | zero => rfl
        | succ k => rw [bsearch, if_neg hlt]
      rw [this]
      rfl

end Go.Proofs.Ytclbjddcenkidaa.PS
namespace Go.Proofs.Ytclbjddcenkidaa.PS
open Go.RowKit Go.Proofs.YtclbjddcenkidaaW.PrintWords Go.Proofs.YtclbjddcenkidaaW.PrintLast Go.Proofs.YtclbjddcenkidaaW.PrintMore
attribute [local go_sem] max2_int min2_int max_two min_two max_three min_three max_four min_four
theorem fits_take (k : Nat) (A : Option Addr) (c : Nat) (l : List Int) (n : Nat) (v lev ex : Int) (r : Bool) (W : World) (hn : n ≤ l.length) (hC : Kd.C (Kd.int .u8) W A l.length l) (hc : l.length ≤ c) (h : split_fits.f k (l.take n) v lev ex = some r) :
    Calls Try.prog 22 #[.slice A n c, .int .i64 v, .int .i64 lev, .int .i64 ex] W fun e w' => e = .returned (.bool r) ∧ Below W.heap.size W w' := by
  have hl : (l.take n).length = n := by rw [List.length_take]; omega
  have := split_fits.calls k A c (l.take n) v lev ex r W (Kd.C_take hC hn) (by omega) h
  rwa [hl] at this
set_option maxHeartbeats 4000000 in
set_option maxRecDepth 100000 in
theorem Cuts1_calls (b11 b4 b5 : Nat) (A : Option Addr) (c : Nat) (l : List Int) (v lev : Int) (i : Nat) (r : Bool) (k : Nat) (w : World)
    (h11 : w.cell? ⟨b11, 0, none⟩ = some (.slice A l.length c)) (h4 : w.cell? ⟨b4, 0, none⟩ = some (.int .i64 v)) (h5 : w.cell? ⟨b5, 0, none⟩ = some (.int .i64 lev))
    (hC : Kd.C (Kd.int .u8) w A l.length l) (hc : l.length ≤ c) (hi : i < l.length) (hlen : l.length ≤ 4096) (hf : split_fits.f k (l.take (i + 1)) v lev 20 = some r) :
    Calls Try.prog 24 #[.int .i64 i, .pointer (some ⟨b11, 0, none⟩), .pointer (some ⟨b4, 0, none⟩), .pointer (some ⟨b5, 0, none⟩)] w fun e w' => e = .returned (.bool !r) ∧ Below w.heap.size w w' := by
  have HC := Aside0.mk hC
  have HF := Aside0.mk hf
  have hw1 : IntKind.i64.wrap ((i : Int) + 1) = (i : Int) + 1 := IntWalk.i64_in _ (by omega)
  have hw2 : (0 : Int) ≤ (i : Int) + 1 := by omega
  have hw3 : (i : Int) + 1 ≤ (c : Int) := by omega
  have ht : ((i : Int) + 1).toNat = i + 1 := by omega
  clear hC hf
  go_enter Try.func24, Try.ntmps24
  go_wp2_with (fail)
  go_region_with (go_at_call 22; refine (fits_take k A c l (i + 1) v lev 20 r _ (by omega) (Kd.C_below HC.out (by repeat (first | exact Below.refl _ _ | apply below_alloc | apply pw_below_drewN | apply below_drew1))) hc HF.out).mono ?_; rintro e w1 ⟨rfl, hb1⟩)
  all_goals
    go_wp2
    go_ret
    exact ⟨rfl, below_step (by repeat (first | exact Below.refl _ _ | apply below_alloc | apply pw_below_drewN | apply below_drew1)) hb1⟩
/-- the greedy parts -/
def partS (v lev : Nat) (rest : List Int) : Nat := bsearch (fun i => !fitsS (rest.take (i + 1)) v lev 20) rest.length 0 rest.length
def cutsR (v lev : Nat) : Nat → List Int → List Int → List Int × Int
  | 0, rest, out => if rest.length = 0 then (out, 0) else ([], 16)
  | d + 1, rest, out => if rest.length = 0 then (out, 0) else if partS v lev rest = 0 then ([], 16) else cutsR v lev d (rest.drop (partS v lev rest)) (out ++ [(partS v lev rest : Int)])
def cutsS (l : List Int) (v lev : Nat) : List Int × Int := if fitsS l v lev 0 = true then ([(l.length : Int)], 0) else cutsR v lev 16 l []
def byteL (l : List Int) : Bool := l.all fun c => decide (0 ≤ c) && decide (c < 256)
def split_Cuts.f (l : List Int) (a1 a2 : Int) : Option (List Int × Int) :=
  if l.length ≤ 4096 ∧ byteL l = true then (if a1 < 1 ∨ 40 < a1 then some ([], 14) else if a2 < 1 ∨ 4 < a2 then some ([], 15) else some (cutsS l a1.toNat a2.toNat)) else none
theorem byteL_at {l : List Int} (h : byteL l = true) : ∀ c ∈ l, 0 ≤ c ∧ c < 256 := fun c hc => by
  have := List.all_eq_true.1 h c hc
  simpa using this
theorem capacity_err (a1 a2 : Int) : (a1 < 1 ∨ 40 < a1 → qrversion_Capacity.f a1 a2 = some (0, 14)) ∧ (1 ≤ a1 → a1 ≤ 40 → (a2 < 1 ∨ 4 < a2) → qrversion_Capacity.f a1 a2 = some (0, 15)) ∧
    (1 ≤ a1 → a1 ≤ 40 → 1 ≤ a2 → a2 ≤ 4 → ∃ x, qrversion_Capacity.f a1 a2 = some (x, 0)) := by
  unfold qrversion_Capacity.f qrversion_level.f qrversion_valid.f
  refine ⟨fun h => ?_, fun h1 h2 h => ?_, fun h1 h2 h3 h4 => ?_⟩
  · by_cases g : a1 ≥ 1
    · have e : decide (a1 ≤ 40) = false := by simp; omega
      rw [if_pos g, e]
      rfl
    · rw [if_neg g]
      rfl
  · have e : decide (a1 ≤ 40) = true := by simp; omega
    rw [if_pos h1, e]
    simp only [Option.bind_some, if_true]
    by_cases g : a2 < 1
    · rw [if_pos g]; rfl
    · rw [if_neg g, if_pos (by omega)]; rfl
  · have e : decide (a1 ≤ 40) = true := by simp; omega
    have e2 : qrversion_capacity.f a1 a2 = some (capV a1.toNat a2.toNat) := by unfold qrversion_capacity.f; rw [if_pos ⟨h1, h2, h3, h4⟩]
    rw [if_pos h1, e]
    simp only [Option.bind_some, if_true]
    rw [if_neg (by omega), if_neg (by omega), e2]
    exact ⟨_, rfl⟩
set_option maxHeartbeats 4000000 in
set_option maxRecDepth 100000 in
theorem Cuts_err (A : Option Addr) (c : Nat) (l : List Int) (a1 a2 x er : Int) (w : World) (hne : er ≠ 0) (hcap : qrversion_Capacity.f a1 a2 = some (x, er)) :
    Calls Try.prog 11 #[.slice A l.length c, .int .i64 a1, .int .i64 a2] w fun e w' => e = .returned (.tuple #[.slice none 0 0, .int .i64 er]) ∧ Below w.heap.size w w' := by
  have HC := Aside0.mk hcap
  have hne2 : (er != 0) = true := bne_iff_ne.2 hne
  clear hcap hne
  go_enter Try.func11, Try.ntmps11
  go_wp2_with (fail)
  refine (qrversion_Capacity.calls _ _ x er _ HC.out).mono ?_
  rintro e w1 ⟨rfl, hb1⟩
  have HB1 := Aside0.mk (below_then (by repeat (first | exact Below.refl _ _ | apply below_alloc)) (by simp; omega) hb1 : Below w.heap.size w w1)
  clear hb1
  go_wp2
  go_ret2
  exact ⟨rfl, HB1.out⟩

end Go.Proofs.Ytclbjddcenkidaa.PS
namespace Go.Proofs.Ytclbjddcenkidaa.PS
open Go.RowKit Go.Proofs.YtclbjddcenkidaaW.PrintWords Go.Proofs.YtclbjddcenkidaaW.PrintLast Go.Proofs.YtclbjddcenkidaaW.PrintMore
attribute [local go_sem] max2_int min2_int max_two min_two max_three min_three max_four min_four
theorem bsearch_congr (p q : Nat → Bool) (n : Nat) (h : ∀ i, i < n → p i = q i) : ∀ k lo hi, hi ≤ n → bsearch p k lo hi = bsearch q k lo hi
  | 0, _, _, _ => rfl
  | k + 1, lo, hi, hn => by
    unfold bsearch
    split
    · rename_i hlt
      rw [h _ (by omega)]
      split
      · exact bsearch_congr p q n h k _ _ (by omega)
      · exact bsearch_congr p q n h k _ _ hn
    · rfl
theorem fits_at (l : List Int) (hn : l.length ≤ 4096) (hx : ∀ c ∈ l, 0 ≤ c ∧ c < 256) (m : Nat) (v lv : Nat) (hlv : lv < 4) (ex : Int) (e0 : 0 ≤ ex) (e1 : ex ≤ 1000) : ∃ k, split_fits.f k (l.take m) v ((lv : Int) + 1) ex = some (fitsS (l.take m) v (lv + 1) ex) :=
  (fits_ev (l := l.take m) (by rw [List.length_take]; omega) (fun c hc => hx c (List.mem_of_mem_take hc)) hlv e0 e1 v).rounds
theorem below_step' {w W0 W1 : World} {n : Nat} (h : Below w.heap.size w W0) (hs : W0.heap.size = w.heap.size + n) (k : Below W0.heap.size W0 W1) : Below w.heap.size w W1 := below_then h (by omega) k
set_option maxHeartbeats 8000000 in
set_option maxRecDepth 100000 in
theorem Cuts_ok (A : Option Addr) (c : Nat) (l : List Int) (v lv : Nat) (w : World) (hv1 : 1 ≤ v) (hv2 : v ≤ 40) (hlv : lv < 4) (hn : l.length ≤ 4096) (hx : ∀ c ∈ l, 0 ≤ c ∧ c < 256) (hC : Kd.C (Kd.int .u8) w A l.length l) (hc : l.length ≤ c) (r : List Int × Int) (hr : cutsS l v (lv + 1) = r) :
    Calls Try.prog 11 #[.slice A l.length c, .int .i64 v, .int .i64 ((lv : Int) + 1)] w fun e w' => ∃ v0_ : Value, e = .returned (.tuple #[v0_, .int .i64 r.2]) ∧ Kd.R (Kd.int .i64) 3 w' w.heap.size (fun _ => True) v0_ r.1 ∧ Below w.heap.size w w' := by
  obtain ⟨x, hcap⟩ := (capacity_err (v : Int) ((lv : Int) + 1)).2.2 (by omega) (by omega) (by omega) (by omega)
  obtain ⟨k0, hf0⟩ := fits_at l hn hx l.length v lv hlv 0 (by omega) (by omega)
  have HCap := Aside0.mk hcap
  have HF0 := Aside0.mk hf0
  have HC := Aside0.mk hC
  have HX := Aside0.mk hx
  have HR := Aside0.mk hr
  clear hcap hf0 hC hx hr
  go_enter Try.func11, Try.ntmps11
  go_wp2_with (fail)
  refine (qrversion_Capacity.calls _ _ x 0 _ HCap.out).mono ?_
  rintro e w1 ⟨rfl, hb1⟩
  obtain ⟨W0, hW0⟩ : ∃ W0, W0 = (w.alloc (Obj.cells #[Value.int IntKind.i64 ↑v] 3)).alloc (Obj.cells #[Value.int IntKind.i64 (↑lv + 1)] 30) := ⟨_, rfl⟩
  rw [← hW0] at hb1
  have HW0 := Aside0.mk hW0
  have hs0 : W0.heap.size = w.heap.size + 2 := by rw [hW0]; simp
  have HS0 := Aside0.mk hs0
  have HB0 := Aside0.mk (by rw [hW0]; exact ((Below.refl _ _).alloc (Nat.le_refl _) _).alloc (by simp) _ : Below w.heap.size w W0)
  have hc4 : W0.cell? ⟨w.heap.size, 0, none⟩ = some (.int .i64 v) := by rw [hW0]; simp [go_sem]
  have hc5 : W0.cell? ⟨w.heap.size + 1, 0, none⟩ = some (.int .i64 ((lv : Int) + 1)) := by rw [hW0]; simp [go_sem]
  have HC4 := Aside0.mk hc4
  have HC5 := Aside0.mk hc5
  have HB1 := Aside0.mk hb1
  have d4 : w1.cell? ⟨w.heap.size, 0, none⟩ = some (.int .i64 v) := pw_cell_below hb1 hc4
  have d5 : w1.cell? ⟨w.heap.size + 1, 0, none⟩ = some (.int .i64 ((lv : Int) + 1)) := pw_cell_below hb1 hc5
  clear hb1 hc4 hc5 hs0 hW0
  have h41 : decide ((4096 : Int) < (l.length : Int)) = false := by simp; omega
  have hC1 : Kd.C (Kd.int .u8) w1 A l.length l := Kd.C_below HC.out (below_step' HB0.out HS0.out HB1.out)
  have HC1 := Aside0.mk hC1
  clear hC1
  go_wp2_with (fail)
  refine (fits_take k0 A c l l.length v ((lv : Int) + 1) 0 _ _ (Nat.le_refl _) HC1.out hc HF0.out).mono ?_
  rw [List.take_length]
  rintro e w2 ⟨rfl, hb2⟩
  have HB2 := Aside0.mk (below_then HB1.out HB1.out.size hb2 : Below W0.heap.size W0 w2)
  have d4 : w2.cell? ⟨w.heap.size, 0, none⟩ = some (.int .i64 v) := pw_cell_below hb2 d4
  have d5 : w2.cell? ⟨w.heap.size + 1, 0, none⟩ = some (.int .i64 ((lv : Int) + 1)) := pw_cell_below hb2 d5
  clear hb2
  cases hfit : fitsS l v (lv + 1) 0 with
  | true =>
    have hr1 := HR.out
    rw [cutsS, if_pos hfit] at hr1
    subst hr1
    clear hfit
    go_wp2
    go_ret2
    refine ⟨_, rfl, ?_, ?_⟩
    · exact Kd.R_of_own (enc := Value.int .i64) ⟨rfl, .inr ⟨w2.heap.size, 1, _, rfl, by have := HB2.out.size; have := HS0.out; omega, heap_alloc_new w2 _, Nat.le_refl _, by unfold maxLen; omega, rfl, rfl⟩⟩ (fun _ _ => trivial)
    · exact below_alloc (below_step' HB0.out HS0.out HB2.out) _
  | false =>
    have hr1 := HR.out
    rw [cutsS, if_neg (by rw [hfit]; simp)] at hr1
    have HR1 := Aside0.mk hr1
    clear hfit hr1
    go_wp2
    go_loopg [10, 11] 16 (fun kq v10 v11 wr => ∃ (out rest : List Int) (A' : Option Addr) (c' b11 : Nat), v11 = .pointer (some ⟨b11, 0, none⟩) ∧ kq + out.length = 16 ∧ rest.length ≤ c' ∧ rest.length ≤ 4096 ∧
        Aside0 (cutsR v (lv + 1) kq rest out = r) ∧ Aside0 (Kd.R (Kd.int .i64) 3 wr W0.heap.size (fun _ => True) v10 out) ∧ Aside0 (Below W0.heap.size W0 wr) ∧ Aside0 (wr.heap[b11]? = some (.cells #[.slice A' rest.length c'] 22 (0, 0))) ∧
        Aside0 (W0.heap.size ≤ b11) ∧ Aside0 (Kd.C (Kd.int .u8) w A' rest.length rest) ∧ Aside0 (∀ c ∈ rest, 0 ≤ c ∧ c < 256))
    case atStart => exact ⟨[], l, A, c, w2.heap.size, rfl, rfl, hc, hn, HR1, ⟨Kd.R_nil _ _ _ _ _⟩, ⟨below_alloc HB2.out _⟩, ⟨heap_alloc_new w2 _⟩, ⟨HB2.out.size⟩, HC, HX⟩
    case round =>
      clear HR HR1 HB2 d4 d5 HX HC
      obtain ⟨out, rest, A', c', b11, rfl, hk, hrc, hrn, HR, HO, HB, BK, GE, HC, HX⟩ := hrel
      obtain ⟨Ao, co, hv10⟩ := Kd.R_slice HO.out
      subst hv10
      have hx11 : wr.cell? ⟨b11, 0, none⟩ = some (.slice A' rest.length c') := (blk_cell BK.out 0).trans rfl
      by_cases h0 : rest.length = 0
      · have hr1 : cutsR v (lv + 1) gk rest out = (out, 0) := by
          cases gk <;> (unfold cutsR; rw [if_pos h0])
        have hr2 := HR.out.symm.trans hr1
        subst hr2
        go_wp2
        go_ret2
        exact ⟨_, rfl, Kd.R_lower HO.out (by have := HS0.out; omega), below_step' HB0.out HS0.out HB.out⟩
      · cases gk with
        | zero =>
          have hr1 : cutsR v (lv + 1) 0 rest out = ([], 16) := by unfold cutsR; rw [if_neg h0]
          have hr2 := HR.out.symm.trans hr1
          subst hr2
          have ho : ((out.length : Int) == 16) = true := by simp; omega
          go_wp2
          go_ret2
          exact ⟨_, rfl, Kd.R_nil _ _ _ _ _, below_step' HB0.out HS0.out HB.out⟩
        | succ d =>
          have hk16 : ((out.length : Int) == 16) = false := by
            apply Bool.eq_false_iff.2; intro h; rw [beq_iff_eq] at h; omega
          have HF := Aside0.mk (fun i => fits_at rest hrn HX.out i v lv hlv 20 (by omega) (by omega))
          go_wp2_with (fail)
          obtain ⟨n, hn1⟩ : ∃ n, n = partS v (lv + 1) rest := ⟨_, rfl⟩
          have HN := Aside0.mk hn1
          have hs := Search_calls 24 #[.pointer (some ⟨b11, 0, none⟩), .pointer (some ⟨w.heap.size, 0, none⟩), .pointer (some ⟨w.heap.size + 1, 0, none⟩)] rest.length (fun i => !fitsS (rest.take (i + 1)) v (lv + 1) 20) wr (enters_of Try.func24 (by kernel_rfl) rfl) (by omega) (fun W i hW hi => by
            obtain ⟨k1, hf1⟩ := HF.out (i + 1)
            exact (Cuts1_calls b11 w.heap.size (w.heap.size + 1) A' c' rest v ((lv : Int) + 1) i _ k1 W (pw_cell_below hW hx11) (pw_cell_below hW (pw_cell_below HB.out HC4.out)) (pw_cell_below hW (pw_cell_below HB.out HC5.out)) (Kd.C_below (Kd.C_below HC.out (below_step' HB0.out HS0.out HB.out)) hW) hrc hi hrn hf1).mono (fun e w' h => ⟨h.1, below_then hW hW.size h.2⟩))
          rw [show bsearch (fun i => !fitsS (rest.take (i + 1)) v (lv + 1) 20) rest.length 0 rest.length = n from hn1.symm] at hs
          have hnl : n ≤ rest.length := by rw [hn1]; exact (bsearch_le _ _ _ _ (Nat.zero_le _)).2
          refine hs.mono ?_
          clear hs hn1
          rintro e w3 ⟨rfl, hb3⟩
          have HB3 := Aside0.mk hb3
          clear hb3
          have HB := Aside0.mk (below_then HB.out HB.out.size HB3.out : Below W0.heap.size W0 w3)
          have BK := Aside0.mk (blk_below BK.out HB3.out : w3.heap[b11]? = some (.cells #[.slice A' rest.length c'] 22 (0, 0)))
          have HO := Aside0.mk (Kd.R_below HO.out HB3.out)
          have hx11 : w3.cell? ⟨b11, 0, none⟩ = some (.slice A' rest.length c') := (blk_cell BK.out 0).trans rfl
          by_cases hn0 : n = 0
          · have hr1 : cutsR v (lv + 1) (d + 1) rest out = ([], 16) := by rw [cutsR, if_neg h0, if_pos (HN.out.symm.trans hn0)]
            have hr2 := HR.out.symm.trans hr1
            subst hr2
            subst hn0
            go_wp2
            go_ret2
            exact ⟨_, rfl, Kd.R_nil _ _ _ _ _, below_step' HB0.out HS0.out HB.out⟩
          · have hz : ((n : Int) == 0) = false := by apply Bool.eq_false_iff.2; intro h; rw [beq_iff_eq] at h; omega
            have GB := Aside0.mk (Nat.le_trans GE.out (Nat.le_refl _) : W0.heap.size ≤ b11)
            have FB := blk_frozen BK.out 0
            have hxa : (w3.alloc (.cells #[.int .i64 n] 3)).cell? ⟨b11, 0, none⟩ = some (.slice A' rest.length c') := (blk_cell (blk_alloc BK.out _) 0).trans rfl
            have FBa := blk_frozen (blk_alloc BK.out (.cells #[.int .i64 n] 3)) 0
            obtain ⟨i0q, hi0q, _, hszq, _⟩ := info_parts info5
            obtain ⟨A2, hA2⟩ : ∃ A2, A2 = (if c' = n then A' else A'.map (·.add (n * 1))) := ⟨_, rfl⟩
            have HCD := Aside0.mk (by rw [hA2]; exact Kd.C_drop HC.out hnl hrc : (Kd.int .u8).C w A2 (rest.drop n).length (rest.drop n))
            have hcut : ∀ W : World, (Instr.slice 22 (.slice A' rest.length c') (some (.int .i64 (n : Int))) none none).run Try.prog W = .ok (.slice A2 (rest.length - n) (c' - n)) W := fun W => by
              rw [cut_from (P := Try.prog) 22 5 .i64 Try.underlying22 hi0q 1 hszq A' rest.length c' (n : Int) (by omega) (by omega) W, Int.toNat_natCast, hA2]
            clear hA2
            go_wp2_with (fail)
            go_region_law ((first | refine Kd.R_append_step (Kd.int .i64) (w0 := W0) (W := w3) W0.heap.size (by rfl) (.tmp 45) (.tmp 47) 26 3 (.int .i64 0) 8 rfl Try.underlying26 info3 rfl (by decide) (by omega) (.slice Ao out.length co) out (n : Int) [.int .i64 n] (fun _ => True) (fun _ => False) rfl rfl ?aP (fun _ hk => hk.elim) (fun _ _ => trivial) ?aO ?aB ?aS ?aL ?_ | refine Kd.R_append_step (Kd.int .i64) (w0 := W0) (W := w3.drew) W0.heap.size (by rfl) (.tmp 45) (.tmp 47) 26 3 (.int .i64 0) 8 rfl Try.underlying26 info3 rfl (by decide) (by omega) (.slice Ao out.length co) out (n : Int) [.int .i64 n] (fun _ => True) (fun _ => False) rfl rfl ?aP (fun _ hk => hk.elim) (fun _ _ => trivial) ?aO ?aB ?aS ?aL ?_ | refine Kd.R_append_step (Kd.int .i64) (w0 := W0) (W := w3.drew.drew) W0.heap.size (by rfl) (.tmp 45) (.tmp 47) 26 3 (.int .i64 0) 8 rfl Try.underlying26 info3 rfl (by decide) (by omega) (.slice Ao out.length co) out (n : Int) [.int .i64 n] (fun _ => True) (fun _ => False) rfl rfl ?aP (fun _ hk => hk.elim) (fun _ _ => trivial) ?aO ?aB ?aS ?aL ?_); (case aP => exact rfl); (case aO => with_reducible repeat (first | exact HO.out | apply Kd.R_drewN | apply Kd.R_drew)); (case aB => exact (by repeat (first | exact HB.out | apply below_alloc | apply pw_below_drewN | apply below_drew1))); (case aS => exact below_size (by repeat (first | exact HB.out | apply below_alloc | apply pw_below_drewN | apply below_drew1))); (case aL => omega); intro v48 w4 ho hb hg hat; have BK4 := Aside0.mk (blk_grown (g := b11) (by (with_reducible repeat (first | refine blk_drewN ?_ _ | refine blk_drew ?_ | refine blk_alloc ?_ _)); exact BK.out) hg (Kd.R_ne HO.out BK.out (by decide))); have HO4 := Aside0.mk ho; have HB4 := Aside0.mk hb; have hx4 : w4.cell? ⟨b11, 0, none⟩ = some (.slice A' rest.length c') := (blk_cell BK4.out 0).trans rfl; have FB4 := blk_frozen BK4.out 0; clear ho hb hg hat)
            all_goals
              have HO5 := Aside0.mk (Kd.R_mono (Kd.R_far (p := ⟨b11, 0, none⟩) (Kd.R_types HO4.out BK4.out (by decide)) (fun _ hk => hk.2) (.slice A2 (rest.length - n) (c' - n))) (fun _ _ => trivial))
              have HB5 := Aside0.mk (below_set HB4.out GB.out : Below W0.heap.size W0 (w4.setCell ⟨b11, 0, none⟩ (.slice A2 (rest.length - n) (c' - n))))
              have BK5 := Aside0.mk (blk_put BK4.out 0 (.slice A2 (rest.length - n) (c' - n)) rfl)
              have hx5 := (blk_cell BK5.out 0).trans rfl
              clear HO4 HB4 BK4 hx4 FB4 hxa FBa
              generalize w4.setCell ⟨b11, 0, none⟩ (.slice A2 (rest.length - n) (c' - n)) = w5 at HO5 HB5 BK5 hx5 ⊢
              go_wp2
              go_roundg d
              case measure => omega
              case rel => exact ⟨out ++ [(n : Int)], rest.drop n, A2, c' - n, w5.heap.size, rfl, by simp; omega, by simp; omega, by simp; omega, ⟨by rw [← HR.out, cutsR, if_neg h0, if_neg (by rw [← HN.out]; exact hn0), ← HN.out]⟩, ⟨Kd.R_alloc HO5.out _⟩, ⟨below_alloc HB5.out _⟩, ⟨by rw [List.length_drop]; exact heap_alloc_new w5 _⟩, ⟨HB5.out.size⟩, HCD, ⟨fun c hc => HX.out c (List.mem_of_mem_drop hc)⟩⟩
theorem Cuts_calls (A : Option Addr) (c : Nat) (l : List Int) (a1 a2 : Int) (r1 : List Int) (r2 : Int) (w : World) (hC : Kd.C (Kd.int .u8) w A l.length l) (hc : l.length ≤ c) (h : split_Cuts.f l a1 a2 = some (r1, r2)) :
    Calls Try.prog 11 #[.slice A l.length c, .int .i64 a1, .int .i64 a2] w fun e w' => ∃ v0_ : Value, e = .returned (.tuple #[v0_, .int .i64 r2]) ∧ Kd.R (Kd.int .i64) 3 w' w.heap.size (fun _ => True) v0_ r1 ∧ Below w.heap.size w w' := by
  unfold split_Cuts.f at h
  split at h
  · rename_i hg
    obtain ⟨h1, h2, h3⟩ := capacity_err a1 a2
    split at h
    · rename_i he
      simp only [Option.some.injEq, Prod.mk.injEq] at h
      obtain ⟨rfl, rfl⟩ := h
      exact (Cuts_err A c l a1 a2 0 14 w (by decide) (h1 he)).mono fun e w' h => ⟨_, h.1, Kd.R_nil _ _ _ _ _, h.2⟩
    · rename_i he
      split at h
      · rename_i he2
        simp only [Option.some.injEq, Prod.mk.injEq] at h
        obtain ⟨rfl, rfl⟩ := h
        exact (Cuts_err A c l a1 a2 0 15 w (by decide) (h2 (by omega) (by omega) he2)).mono fun e w' h => ⟨_, h.1, Kd.R_nil _ _ _ _ _, h.2⟩
      · rename_i he2
        have e1 : ((a1.toNat : Nat) : Int) = a1 := by omega
        obtain ⟨lv, hlv⟩ : ∃ lv, a2.toNat = lv + 1 := ⟨a2.toNat - 1, by omega⟩
        have e2 : ((lv : Nat) : Int) + 1 = a2 := by omega
        have := Cuts_ok A c l a1.toNat lv w (by omega) (by omega) (by omega) hg.1 (byteL_at hg.2) hC hc (r1, r2) (by rw [← hlv]; exact Option.some.inj h)
        rw [e1, e2] at this
        exact this
  · exact nomatch h

end Go.Proofs.Ytclbjddcenkidaa.PS
namespace Go.Proofs.Ytclbjddcenkidaa.PS
open Go.RowKit Go.Proofs.YtclbjddcenkidaaW.PrintWords Go.Proofs.YtclbjddcenkidaaW.PrintLast Go.Proofs.YtclbjddcenkidaaW.PrintMore
attribute [local go_sem] max2_int min2_int max_two min_two max_three min_three max_four min_four
def digits50 : List Int := (List.range 50).map fun n => ((48 + n % 10 : Nat) : Int)
theorem cuts_ex : cutsS (digits50 ++ digits50) 1 1 = ([35, 35, 30], 0) := by decide +kernel

end Go.Proofs.Ytclbjddcenkidaa.PS
namespace Go.Proofs.Ytclbjddcenkidaa.PS
open Go.RowKit Go.Proofs.YtclbjddcenkidaaW.PrintWords Go.Proofs.YtclbjddcenkidaaW.PrintLast Go.Proofs.YtclbjddcenkidaaW.PrintMore
attribute [local go_sem] max2_int min2_int max_two min_two max_three min_three max_four min_four
theorem C_of_cells {α : Type} {d : Kd α} {w : World} {g t : Nat} {cells : Array Value} {xs : List α} (hg : w.heap[g]? = some (.cells cells t (0, 0))) (hn : xs.length ≤ 9223372036854775807)
    (h : ∀ j x, xs[j]? = some x → ∃ c, c.length = d.sz ∧ d.K w x c ∧ ∀ i u, c[i]? = some u → cells[j * d.sz + i]? = some u) : d.C w (some ⟨g, 0, none⟩) xs.length xs := by
  refine ⟨rfl, hn, fun _ => ⟨_, rfl, fun j x hj => ?_⟩⟩
  obtain ⟨c, h1, h2, h3⟩ := h j x hj
  refine ⟨c, h1, h2, fun i u hi => ?_⟩
  rw [add_plain, blk_cell hg]
  exact h3 i u hi
theorem cell_of_heap {w w' : World} {g : Nat} (h : w'.heap[g]? = w.heap[g]?) (j : Nat) : w'.cell? ⟨g, j, none⟩ = w.cell? ⟨g, j, none⟩ := by simp only [World.cell?, h]
theorem C_sets {w : World} {g n : Nat} {xs : List Int} (h : (Kd.int .u8).C w (some ⟨g + 1, 0, none⟩) n xs) (j : Nat) (u : Value) : (Kd.int .u8).C (w.setCell ⟨g, j, none⟩ u) (some ⟨g + 1, 0, none⟩) n xs := by
  refine ⟨h.1, h.2.1, fun hn => ?_⟩
  obtain ⟨ad, e, hc⟩ := h.2.2 hn
  cases e
  refine ⟨_, rfl, fun k x hk => ?_⟩
  obtain ⟨c, h1, h2, h3⟩ := hc k x hk
  refine ⟨c, h1, h2, fun i v hi => ?_⟩
  have := h3 i v hi
  rw [add_plain] at this ⊢
  rw [← this]
  exact cell_of_heap (Below.heap_setCell w ⟨g, j, none⟩ u (g + 1) (by show g + 1 ≠ g; omega)) _
theorem k54_mkn {w : World} {m : Int} {l : List Int} {A : Option Addr} {n c : Nat} (hn : n = l.length) (h1 : n ≤ c) (h2 : (Kd.int .u8).C w A n l) : k54.K w ⟨m, l⟩ [.int .i64 m, .slice A n c] := by
  subst hn
  exact k54_mk w ⟨m, l⟩ h1 h2
def msgS (s : ByteArray) (i t p : Int) : S42 := ⟨[⟨4, bytesOf s⟩], ⟨i, t, p⟩⟩
set_option maxHeartbeats 8000000 in
set_option maxRecDepth 100000 in
theorem message_calls (s : ByteArray) (i t p : Int) (w : World) (hs : s.size ≤ 1000) :
    Calls Try.prog 20 #[.string s, .int .i64 i, .int .i64 t, .int .i64 p] w fun e w' => ∃ A, e = .returned (.agg #[.slice A 1 1, .int .i64 i, .int .i64 t, .int .i64 p]) ∧ k54.C w' A 1 (msgS s i t p).f0 ∧ Below w.heap.size w w' := by
  have HW0 : (w.alloc (.cells #[.slice none 0 0, .int .i64 0, .int .i64 0, .int .i64 0] 42)).heap.size = w.heap.size + 1 := by simp
  have kb := print_bytes (P := Try.prog) 9 22 5 Try.underlying9 Try.underlying22 Try.underlying5 s (w.alloc (.cells #[.slice none 0 0, .int .i64 0, .int .i64 0, .int .i64 0] 42))
  obtain ⟨W1, hW1⟩ : ∃ W1, W1 = Lib.bytesWorld (w.alloc (.cells #[.slice none 0 0, .int .i64 0, .int .i64 0, .int .i64 0] 42)) 5 s := ⟨_, rfl⟩
  have HB1 := Aside0.mk (by rw [hW1]; exact bytes_below (below_alloc (Below.refl _ _) _) (by simp) 5 s : Below w.heap.size w W1)
  have BK := Aside0.mk (by rw [hW1]; exact blk_below (blk_new w _) (bytes_below (Below.refl _ _) (Nat.le_refl _) 5 s) : W1.heap[w.heap.size]? = some (.cells #[.slice none 0 0, .int .i64 0, .int .i64 0, .int .i64 0] 42 (0, 0)))
  have hrd := bytes_reads (w.alloc (.cells #[.slice none 0 0, .int .i64 0, .int .i64 0, .int .i64 0] 42)) 5 s (by omega)
  have hge := grownCap_ge (w.alloc (.cells #[.slice none 0 0, .int .i64 0, .int .i64 0, .int .i64 0] 42)) s.size 0 5
  rw [← hW1, HW0] at hrd kb
  generalize grownCap (w.alloc (.cells #[.slice none 0 0, .int .i64 0, .int .i64 0, .int .i64 0] 42)) s.size 0 5 = c1 at kb hge
  have HC := Aside0.mk (Kd.C_of_reads (enc := Value.int .u8) (d := (0 : Int)) (h1 := fun _ => rfl) (readsInt_of.1 hrd) : (Kd.int .u8).C W1 (some ⟨w.heap.size + 1, 0, none⟩) s.size (bytesOf s))
  have HGE := Aside0.mk hge
  clear hW1 hrd HW0 hge
  have BK2 := Aside0.mk (blk_alloc BK.out (.cells #[.int .i64 4, .slice (some ⟨w.heap.size + 1, 0, none⟩) s.size c1] 54))
  have BN := Aside0.mk (blk_new W1 (.cells #[.int .i64 4, .slice (some ⟨w.heap.size + 1, 0, none⟩) s.size c1] 54))
  have z0 := (blk_cell BK2.out 0).trans rfl
  have z1 := (blk_cell BK2.out 1).trans rfl
  have z2 := (blk_cell BK2.out 2).trans rfl
  have z3 := (blk_cell BK2.out 3).trans rfl
  have q0 := blk_frozen BK2.out 0
  have q1 := blk_frozen BK2.out 1
  have q2 := blk_frozen BK2.out 2
  have q3 := blk_frozen BK2.out 3
  go_enter Try.func20, Try.ntmps20
  go_wp2
  (try simp only [Exit.inBlock, Exit.then])
  refine bodyPost_ret (results_cell_row (p := 8) (ty := 42) rfl _ _ w.heap.size 42 #[.slice (some ⟨W1.heap.size, 0, none⟩) 1 1, .int .i64 i, .int .i64 t, .int .i64 p] (0, 0) _ rfl (blk_put (blk_put (blk_put (blk_put BK2.out 0 _ rfl) 1 _ rfl) 2 _ rfl) 3 _ rfl) Try.underlying42 rfl (by kernel_rfl)) rfl ?_
  have hlt : w.heap.size < W1.heap.size := blk_lt BK.out
  refine ⟨_, rfl, ?_, below_set (below_set (below_set (below_set (below_alloc HB1.out _) (Nat.le_refl _)) (Nat.le_refl _)) (Nat.le_refl _)) (Nat.le_refl _)⟩
  refine C_of_cells (xs := [(⟨4, bytesOf s⟩ : S54)]) (blk_far (blk_far (blk_far (blk_far BN.out (by show W1.heap.size ≠ w.heap.size; omega) _) (by show W1.heap.size ≠ w.heap.size; omega) _) (by show W1.heap.size ≠ w.heap.size; omega) _) (by show W1.heap.size ≠ w.heap.size; omega) _) (by simp) ?_
  intro j x hj
  match j, hj with
  | 0, hj =>
    cases hj
    refine ⟨[.int .i64 4, .slice (some ⟨w.heap.size + 1, 0, none⟩) s.size c1], rfl, ?_, fun i u hi => ?_⟩
    · exact k54_mkn (bytesOf_length s).symm HGE.out (C_sets (C_sets (C_sets (C_sets (Kd.C_alloc HC.out _) _ _) _ _) _ _) _ _)
    · match i, hi with
      | 0, hi => exact hi
      | 1, hi => exact hi
  | j + 1, hj => simp at hj

end Go.Proofs.Ytclbjddcenkidaa.PS
namespace Go.Proofs.Ytclbjddcenkidaa.PS
open Go.RowKit Go.Proofs.YtclbjddcenkidaaW.PrintWords Go.Proofs.YtclbjddcenkidaaW.PrintLast Go.Proofs.YtclbjddcenkidaaW.PrintMore
attribute [local go_sem] max2_int min2_int max_two min_two max_three min_three max_four min_four
def sB (l : List UInt8) : ByteArray := ⟨l.toArray⟩
def lA : List S42 := [msgS (sB [65, 66]) 0 2 1, msgS (sB [65, 67]) 0 2 1]
def lB : List S42 := [msgS (sB [67]) 2 3 64, msgS (sB [65]) 0 3 64]
def lD : List S42 := [msgS (sB [67]) 2 3 64, msgS (sB [65]) 0 3 64, msgS (sB [66]) 1 3 64]
instance : DecidablePred smallM := fun m => by unfold smallM; infer_instance
theorem keys_eq {es : List (Int × ByteArray)} {ks : List Int} (hp : ks.Perm (es.map (·.1))) (hs : ks.Pairwise (fun a b => leI a b = true)) : keysS es = ks := by
  have tr : ∀ a b c : Int, leI a b = true → leI b c = true → leI a c = true := fun a b c h1 h2 => by simp only [leI, decide_eq_true_eq] at *; omega
  have tot : ∀ a b : Int, (leI a b || leI b a) = true := fun a b => by simp only [leI, Bool.or_eq_true, decide_eq_true_eq]; omega
  refine List.Perm.eq_of_pairwise (le := fun a b => leI a b = true) (fun a b _ _ h1 h2 => ?_) (List.pairwise_mergeSort tr tot _) hs ((List.mergeSort_perm _ leI).trans hp.symm)
  simp only [leI, decide_eq_true_eq] at h1 h2
  omega
theorem joinA : joinP lA = ([], 34) := by decide +kernel
theorem joinB : joinP lB = ([], 33) := by decide +kernel
theorem missB : missS lB = ([1], 0) := by decide +kernel
theorem colB : colS lB = (0, [(2, sB [67]), (0, sB [65])]) := by decide +kernel
theorem colD : colS lD = (0, [(2, sB [67]), (0, sB [65]), (1, sB [66])]) := by decide +kernel
theorem outD' : outS [(2, sB [67]), (0, sB [65]), (1, sB [66])] = [65, 66, 67] := by
  unfold outS
  rw [keys_eq (ks := [0, 1, 2]) (by decide) (by decide)]
  decide +kernel
theorem joinD : joinP lD = ([65, 66, 67], 0) := by
  unfold joinP
  rw [colD]
  simp only [if_true]
  unfold joinR
  rw [outD']
  decide +kernel
theorem outA : (outS (colS lA).2).length < 70368744177664 := by decide +kernel
theorem outB : (outS (colS lB).2).length < 70368744177664 := by
  rw [colB]
  unfold outS
  rw [keys_eq (ks := [0, 2]) (by decide) (by decide)]
  decide +kernel
theorem outD : (outS (colS lD).2).length < 70368744177664 := by rw [colD, outD']; decide
theorem smallA : ∀ m ∈ lA, smallM m := by decide +kernel
theorem smallB : ∀ m ∈ lB, smallM m := by decide +kernel
theorem smallD : ∀ m ∈ lD, smallM m := by decide +kernel

end Go.Proofs.Ytclbjddcenkidaa.PS
namespace Go.Proofs.Ytclbjddcenkidaa.PS
open Go.RowKit Go.Proofs.YtclbjddcenkidaaW.PrintWords Go.Proofs.YtclbjddcenkidaaW.PrintLast Go.Proofs.YtclbjddcenkidaaW.PrintMore
attribute [local go_sem] max2_int min2_int max_two min_two max_three min_three max_four min_four
def digB : ByteArray := ⟨#[48, 49, 50, 51, 52, 53, 54, 55, 56, 57, 48, 49, 50, 51, 52, 53, 54, 55, 56, 57, 48, 49, 50, 51, 52, 53, 54, 55, 56, 57, 48, 49, 50, 51, 52, 53, 54, 55, 56, 57, 48, 49, 50, 51, 52, 53, 54, 55, 56, 57]⟩
theorem dig_bytes : bytesOf (digB ++ digB) = digits50 ++ digits50 := by decide +kernel
theorem cuts_f : split_Cuts.f (bytesOf (digB ++ digB)) 1 1 = some ([35, 35, 30], 0) := by
  unfold split_Cuts.f
  rw [dig_bytes, if_pos (by decide +kernel), if_neg (by omega), if_neg (by omega)]
  exact congrArg some cuts_ex
theorem C_bytes3 (w : World) (l : List Int) (hl : l.length ≤ 100) : (Kd.int .u8).C (w.alloc (.cells (l.map (Value.int .u8)).toArray 5)) (some ⟨w.heap.size, 0, none⟩) l.length l := by
  refine C_of_cells (blk_new w _) (by omega) (fun j x hj => ⟨[.int .u8 x], rfl, rfl, fun i u hi => ?_⟩)
  match i, hi with
  | 0, hi => cases hi; show _ = _; rw [show j * (Kd.int .u8).sz + 0 = j from Nat.mul_one j]; simp [hj]
theorem C_ints (w : World) (l : List Int) (hl : l.length ≤ 100) : (Kd.int .i64).C (w.alloc (.cells (l.map (Value.int .i64)).toArray 3)) (some ⟨w.heap.size, 0, none⟩) l.length l := by
  refine C_of_cells (blk_new w _) (by omega) (fun j x hj => ⟨[.int .i64 x], rfl, rfl, fun i u hi => ?_⟩)
  match i, hi with
  | 0, hi => cases hi; show _ = _; rw [show j * (Kd.int .i64).sz + 0 = j from Nat.mul_one j]; simp [hj]
theorem k42_msg {w : World} {s : ByteArray} {i t p : Int} {A : Option Addr} (h : k54.C w A 1 (msgS s i t p).f0) : k42.K w (msgS s i t p) [.slice A 1 1, .int .i64 i, .int .i64 t, .int .i64 p] := k42_mk w (msgS s i t p) (c0 := 1) (Nat.le_refl _) h
theorem C_msgs2 (w : World) {s1 s2 : ByteArray} {i1 t1 p1 i2 t2 p2 : Int} {A B : Option Addr} (h1 : k54.C w A 1 (msgS s1 i1 t1 p1).f0) (h2 : k54.C w B 1 (msgS s2 i2 t2 p2).f0) :
    k42.C (w.alloc (.cells #[.slice A 1 1, .int .i64 i1, .int .i64 t1, .int .i64 p1, .slice B 1 1, .int .i64 i2, .int .i64 t2, .int .i64 p2] 42)) (some ⟨w.heap.size, 0, none⟩) 2 [msgS s1 i1 t1 p1, msgS s2 i2 t2 p2] := by
  refine C_of_cells (xs := [msgS s1 i1 t1 p1, msgS s2 i2 t2 p2]) (blk_new w _) (by simp) ?_
  intro j x hj
  match j, hj with
  | 0, hj => cases hj; exact ⟨_, rfl, k42_msg (Kd.C_alloc h1 _), fun i u hi => by match i, hi with | 0, hi => exact hi | 1, hi => exact hi | 2, hi => exact hi | 3, hi => exact hi⟩
  | 1, hj => cases hj; exact ⟨_, rfl, k42_msg (Kd.C_alloc h2 _), fun i u hi => by match i, hi with | 0, hi => exact hi | 1, hi => exact hi | 2, hi => exact hi | 3, hi => exact hi⟩
  | j + 2, hj => simp at hj
theorem C_msgs3 (w : World) {s1 s2 s3 : ByteArray} {i1 t1 p1 i2 t2 p2 i3 t3 p3 : Int} {A B C : Option Addr} (h1 : k54.C w A 1 (msgS s1 i1 t1 p1).f0) (h2 : k54.C w B 1 (msgS s2 i2 t2 p2).f0) (h3 : k54.C w C 1 (msgS s3 i3 t3 p3).f0) :
    k42.C (w.alloc (.cells #[.slice A 1 1, .int .i64 i1, .int .i64 t1, .int .i64 p1, .slice B 1 1, .int .i64 i2, .int .i64 t2, .int .i64 p2, .slice C 1 1, .int .i64 i3, .int .i64 t3, .int .i64 p3] 42)) (some ⟨w.heap.size, 0, none⟩) 3 [msgS s1 i1 t1 p1, msgS s2 i2 t2 p2, msgS s3 i3 t3 p3] := by
  refine C_of_cells (xs := [msgS s1 i1 t1 p1, msgS s2 i2 t2 p2, msgS s3 i3 t3 p3]) (blk_new w _) (by simp) ?_
  intro j x hj
  match j, hj with
  | 0, hj => cases hj; exact ⟨_, rfl, k42_msg (Kd.C_alloc h1 _), fun i u hi => by match i, hi with | 0, hi => exact hi | 1, hi => exact hi | 2, hi => exact hi | 3, hi => exact hi⟩
  | 1, hj => cases hj; exact ⟨_, rfl, k42_msg (Kd.C_alloc h2 _), fun i u hi => by match i, hi with | 0, hi => exact hi | 1, hi => exact hi | 2, hi => exact hi | 3, hi => exact hi⟩
  | 2, hj => cases hj; exact ⟨_, rfl, k42_msg (Kd.C_alloc h3 _), fun i u hi => by match i, hi with | 0, hi => exact hi | 1, hi => exact hi | 2, hi => exact hi | 3, hi => exact hi⟩
  | j + 3, hj => simp at hj
set_option maxHeartbeats 8000000 in
set_option maxRecDepth 100000 in
theorem exampleHolds_calls (w : World) : Calls Try.prog 10 #[] w fun e w' => e = .returned (.bool true) ∧ Below w.heap.size w w' := by
  obtain ⟨dg, hdg⟩ : ∃ dg, dg = digB := ⟨_, rfl⟩
  obtain ⟨ls, hls⟩ : ∃ ls, ls = bytesOf (dg ++ dg) := ⟨_, rfl⟩
  have hsz : (dg ++ dg).size = ls.length := by rw [hls, bytesOf_length]
  have hcf : split_Cuts.f ls 1 1 = some ([35, 35, 30], 0) := by rw [hls, hdg]; exact cuts_f
  obtain ⟨W1, hW1⟩ : ∃ W1, W1 = Lib.bytesWorld w 5 (dg ++ dg) := ⟨_, rfl⟩
  have hsmall : (dg ++ dg).size ≤ 9223372036854775807 := by rw [hdg]; decide +kernel
  have hq : (9223372036854775807 < dg.size + dg.size) = False := eq_false (by rw [hdg]; decide)
  have hrd := bytes_reads w 5 (dg ++ dg) hsmall
  have kb := print_bytes (P := Try.prog) 9 22 5 Try.underlying9 Try.underlying22 Try.underlying5 (dg ++ dg) w
  have hge := grownCap_ge w (dg ++ dg).size 0 5
  generalize grownCap w (dg ++ dg).size 0 5 = c1 at kb hge
  have HB1 := Aside0.mk (by rw [hW1]; exact bytes_below (Below.refl _ _) (Nat.le_refl _) 5 _ : Below w.heap.size w W1)
  rw [← hW1] at kb hrd
  rw [← hls] at hrd
  rw [hsz] at kb hrd hge
  have HC := Aside0.mk (Kd.C_of_reads (enc := Value.int .u8) (d := (0 : Int)) (h1 := fun _ => rfl) (readsInt_of.1 hrd) : (Kd.int .u8).C W1 (some ⟨w.heap.size, 0, none⟩) ls.length ls)
  have HGE := Aside0.mk hge
  have HCF := Aside0.mk hcf
  clear hrd hge hcf hsmall hW1 hls hsz
  go_enter Try.func10, Try.ntmps10
  rw [show (⟨#[48, 49, 50, 51, 52, 53, 54, 55, 56, 57, 48, 49, 50, 51, 52, 53, 54, 55, 56, 57, 48, 49, 50, 51, 52, 53, 54, 55, 56, 57, 48, 49, 50, 51, 52, 53, 54, 55, 56, 57, 48, 49, 50, 51, 52, 53, 54, 55, 56, 57]⟩ : ByteArray) = dg from hdg.symm]
  clear hdg
  go_wp2_with (fail)
  refine (Cuts_calls _ c1 ls 1 1 _ _ W1 HC.out HGE.out HCF.out).mono ?_
  rintro e w2 ⟨v2, rfl, ho2, hb2⟩
  obtain ⟨A2, c2, rfl, hl2, hc2⟩ := Kd.R_reads ho2
  have HC2 := Aside0.mk hc2
  have HL2 := Aside0.mk hl2
  have HB2 := Aside0.mk (below_then HB1.out HB1.out.size hb2)
  clear ho2 hb2 hc2 hl2
  go_wp2_with (fail)
  refine (message_calls (sB [65, 66]) 0 2 1 _ (by decide)).mono ?_
  rintro e w3 ⟨A3, rfl, hc3, hb3⟩
  have HB3 := Aside0.mk (below_then HB2.out HB2.out.size hb3)
  have HC2 := Aside0.mk (Kd.C_below HC2.out hb3)
  have HC3 := Aside0.mk hc3
  clear hb3 hc3 HB2
  go_wp2_with (fail)
  refine (message_calls (sB [65, 67]) 0 2 1 _ (by decide)).mono ?_
  rintro e w4 ⟨A4, rfl, hc4, hb4⟩
  have HB4 := Aside0.mk (below_then HB3.out HB3.out.size hb4)
  have HC2 := Aside0.mk (Kd.C_below HC2.out hb4)
  have HCa := Aside0.mk (C_msgs2 w4 (Kd.C_below HC3.out hb4) hc4 : k42.C _ _ 2 lA)
  clear hb4 hc4 HB3 HC3
  go_wp2_with (fail)
  refine (Join_calls _ 2 lA _ HCa.out (by decide) smallA (by decide) outA).mono ?_
  rw [joinA]
  rintro e w5 ⟨v5, rfl, _, hb5⟩
  have HB5 := Aside0.mk (below_then (below_alloc HB4.out _) (below_alloc HB4.out _).size hb5)
  have HC2 := Aside0.mk (Kd.C_below (Kd.C_alloc HC2.out _) hb5)
  clear hb5 HB4 HCa
  go_wp2_with (fail)
  refine (message_calls (sB [67]) 2 3 64 _ (by decide)).mono ?_
  rintro e w6 ⟨A6, rfl, hc6, hb6⟩
  have HB6 := Aside0.mk (below_then HB5.out HB5.out.size hb6)
  have HC2 := Aside0.mk (Kd.C_below HC2.out hb6)
  have HC6 := Aside0.mk hc6
  clear hb6 hc6 HB5
  go_wp2_with (fail)
  refine (message_calls (sB [65]) 0 3 64 _ (by decide)).mono ?_
  rintro e w7 ⟨A7, rfl, hc7, hb7⟩
  have HB7 := Aside0.mk (below_then HB6.out HB6.out.size hb7)
  have HC2 := Aside0.mk (Kd.C_below HC2.out hb7)
  have HCb := Aside0.mk (C_msgs2 w7 (Kd.C_below HC6.out hb7) hc7 : k42.C _ _ 2 lB)
  clear hb7 hc7 HB6 HC6
  go_wp2_with (fail)
  refine (Join_calls _ 2 lB _ HCb.out (by decide) smallB (by decide) outB).mono ?_
  rw [joinB]
  rintro e w8 ⟨v8, rfl, _, hb8⟩
  have HB8 := Aside0.mk (below_then (below_alloc HB7.out _) (below_alloc HB7.out _).size hb8)
  have HC2 := Aside0.mk (Kd.C_below (Kd.C_alloc HC2.out _) hb8)
  have HCb := Aside0.mk (Kd.C_below HCb.out hb8)
  clear hb8 HB7
  go_wp2_with (fail)
  refine (Missing_calls _ 2 lB _ HCb.out (by decide) smallB (by decide)).mono ?_
  rw [missB]
  rintro e w9 ⟨v9, rfl, ho9, hb9⟩
  obtain ⟨A9, c9, rfl, hl9, hc9⟩ := Kd.R_reads ho9
  have HB9 := Aside0.mk (below_then HB8.out HB8.out.size hb9)
  have HC2 := Aside0.mk (Kd.C_below HC2.out hb9)
  have HC9 := Aside0.mk hc9
  have HL9 := Aside0.mk hl9
  clear hb9 ho9 hc9 hl9 HB8 HCb
  go_wp2_with (fail)
  refine (message_calls (sB [67]) 2 3 64 _ (by decide)).mono ?_
  rintro e w10 ⟨A10, rfl, hc10, hb10⟩
  have HB10 := Aside0.mk (below_then HB9.out HB9.out.size hb10)
  have HC2 := Aside0.mk (Kd.C_below HC2.out hb10)
  have HC9 := Aside0.mk (Kd.C_below HC9.out hb10)
  have HC10 := Aside0.mk hc10
  clear hb10 hc10 HB9
  go_wp2_with (fail)
  refine (message_calls (sB [65]) 0 3 64 _ (by decide)).mono ?_
  rintro e w11 ⟨A11, rfl, hc11, hb11⟩
  have HB11 := Aside0.mk (below_then HB10.out HB10.out.size hb11)
  have HC2 := Aside0.mk (Kd.C_below HC2.out hb11)
  have HC9 := Aside0.mk (Kd.C_below HC9.out hb11)
  have HC10 := Aside0.mk (Kd.C_below HC10.out hb11)
  have HC11 := Aside0.mk hc11
  clear hb11 hc11 HB10
  go_wp2_with (fail)
  refine (message_calls (sB [66]) 1 3 64 _ (by decide)).mono ?_
  rintro e w12 ⟨A12, rfl, hc12, hb12⟩
  have HB12 := Aside0.mk (below_then HB11.out HB11.out.size hb12)
  have HC2 := Aside0.mk (Kd.C_below HC2.out hb12)
  have HC9 := Aside0.mk (Kd.C_below HC9.out hb12)
  have HCd := Aside0.mk (C_msgs3 w12 (Kd.C_below HC10.out hb12) (Kd.C_below HC11.out hb12) hc12 : k42.C _ _ 3 lD)
  clear hb12 hc12 HB11 HC10 HC11
  go_wp2_with (fail)
  refine (Join_calls _ 3 lD _ HCd.out (by decide) smallD (by decide) outD).mono ?_
  rw [joinD]
  rintro e w13 ⟨v13, rfl, ho13, hb13⟩
  have HB13 := Aside0.mk (below_then (below_alloc HB12.out _) (below_alloc HB12.out _).size hb13)
  have HC2 := Aside0.mk (Kd.C_below (Kd.C_alloc HC2.out _) hb13)
  have HC9 := Aside0.mk (Kd.C_below (Kd.C_alloc HC9.out _) hb13)
  obtain ⟨A13, c13, rfl, hl13, hc13⟩ := Kd.R_reads ho13
  have HC13 := Aside0.mk hc13
  clear hb13 HB12 HCd ho13 kb HC hc13 hl13
  go_wp2_with (fail)
  refine (barscanlaw23_same.calls 5 A2 c2 [35, 35, 30] _ 3 [35, 35, 30] true _ (Kd.C_alloc HC2.out _) HL2.out (C_ints w13 [35, 35, 30] (by decide)) (by decide) (by decide +kernel)).mono ?_
  rintro e w14 ⟨rfl, hd⟩
  have hb14 := hd.below
  have HB14 := Aside0.mk (below_then (below_alloc HB13.out _) (below_alloc HB13.out _).size hb14)
  have HC9 := Aside0.mk (Kd.C_below (Kd.C_alloc HC9.out _) hb14)
  have HC13 := Aside0.mk (Kd.C_below (Kd.C_alloc HC13.out _) hb14)
  clear hd hb14 HB13 HC2
  go_wp2_with (fail)
  refine (barscanlaw23_same.calls 5 A9 c9 [1] _ 1 [1] true _ (Kd.C_alloc HC9.out _) HL9.out (C_ints w14 [1] (by decide)) (by decide) (by decide +kernel)).mono ?_
  rintro e w15 ⟨rfl, hd⟩
  have hb15 := hd.below
  have HB15 := Aside0.mk (below_then (below_alloc HB14.out _) (below_alloc HB14.out _).size hb15)
  have HC13 := Aside0.mk (Kd.C_below (Kd.C_alloc HC13.out _) hb15)
  have hcv : (convert 22 9 (.slice A13 3 c13)).run Try.prog w15 = .ok (.string ⟨#[65, 66, 67]⟩) w15 := by
    have h := Kd.C_string (P := Try.prog) (c := c13) Try.underlying22 Try.underlying5 Try.underlying9 HC13.out
    exact h
  clear hd hb15 HB14 HC9
  go_wp2_with (fail)
  refine (split_Parity.calls 4 _ 3 [1, 2, 4] 7 _ (C_bytes3 w15 [1, 2, 4] (by decide)) (by decide) (by decide +kernel)).mono ?_
  rintro e w16 ⟨rfl, hd⟩
  have HB16 := Aside0.mk (below_then (below_alloc HB15.out _) (below_alloc HB15.out _).size hd.below)
  clear hd
  go_wp2
  go_ret
  exact ⟨rfl, HB16.out⟩

end Go.Proofs.Ytclbjddcenkidaa.PS
namespace Go.Proofs.Ytclbjddcenkidaa.PS
open Go.RowKit Go.Proofs.YtclbjddcenkidaaW.PrintWords Go.Proofs.YtclbjddcenkidaaW.PrintLast Go.Proofs.YtclbjddcenkidaaW.PrintMore
attribute [local go_sem] max2_int min2_int max_two min_two max_three min_three max_four min_four
open Go.Maps
/-- split.Join of few messages, its row as it is read -/
theorem Join_few (A : Option Addr) (c : Nat) (l : List S42) (w : World) (hC : Kd.C k42 w A l.length l) (hc : l.length ≤ c) (hl : fewL l) :
    Calls Try.prog 15 #[.slice A l.length c] w fun e w' => ∃ (A' : Option Addr) (c' : Nat), e = .returned (.tuple #[.slice A' (joinP l).1.length c', .int .i64 (joinP l).2]) ∧ (joinP l).1.length ≤ c' ∧ (Kd.int .u8).C w' A' (joinP l).1.length (joinP l).1 ∧ Below w.heap.size w w' := by
  have h1 := hl.1
  have h2 := out_few hl
  refine (Join_calls A c l w hC hc (few_small hl) (by omega) (by omega)).mono ?_
  rintro e w' ⟨v, rfl, hr, hb⟩
  obtain ⟨A', c', rfl, hle, hC'⟩ := Kd.R_reads hr
  exact ⟨A', c', rfl, hle, hC', hb⟩
theorem rJoin_few (A : Option Addr) (c : Nat) (l : List S42) (w : World) (hC : Kd.C k42 w A l.length l) (hc : l.length ≤ c) (hl : fewL l) :
    Calls Try.prog 16 #[.slice A l.length c] w fun e w' => ∃ (A' : Option Addr) (c' : Nat), e = .returned (.tuple #[.slice A' (joinP l).1.length c', .int .i64 (joinP l).2]) ∧ (joinP l).1.length ≤ c' ∧ (Kd.int .u8).C w' A' (joinP l).1.length (joinP l).1 ∧ Below w.heap.size w w' := by
  have := rJoin_calls A c l w hC hc hl
  rwa [rjoin_eq] at this
theorem Missing_few (A : Option Addr) (c : Nat) (l : List S42) (w : World) (hC : Kd.C k42 w A l.length l) (hc : l.length ≤ c) (hl : fewL l) :
    Calls Try.prog 17 #[.slice A l.length c] w fun e w' => ∃ (A' : Option Addr) (c' : Nat), e = .returned (.tuple #[.slice A' (missS l).1.length c', .int .i64 (missS l).2]) ∧ (missS l).1.length ≤ c' ∧ (Kd.int .i64).C w' A' (missS l).1.length (missS l).1 ∧ Below w.heap.size w w' := by
  have h1 := hl.1
  refine (Missing_calls A c l w hC hc (few_small hl) (by omega)).mono ?_
  rintro e w' ⟨v, rfl, hr, hb⟩
  obtain ⟨A', c', rfl, hle, hC'⟩ := Kd.R_reads hr
  exact ⟨A', c', rfl, hle, hC', hb⟩
theorem rMissing_few (A : Option Addr) (c : Nat) (l : List S42) (w : World) (hC : Kd.C k42 w A l.length l) (hc : l.length ≤ c) (hl : fewL l) :
    Calls Try.prog 18 #[.slice A l.length c] w fun e w' => ∃ (A' : Option Addr) (c' : Nat), e = .returned (.tuple #[.slice A' (missS l).1.length c', .int .i64 (missS l).2]) ∧ (missS l).1.length ≤ c' ∧ (Kd.int .i64).C w' A' (missS l).1.length (missS l).1 ∧ Below w.heap.size w w' := by
  obtain ⟨km, hkm⟩ := Ev.rounds (rmissing_ev hl)
  refine (barscanref23_Missing.calls km A c l _ _ w hC hc hkm).mono ?_
  rintro e w' ⟨v, rfl, hr, hb⟩
  obtain ⟨A', c', rfl, hle, hC'⟩ := Kd.R_reads hr
  exact ⟨A', c', rfl, hle, hC', hb⟩
theorem same_self (A B : Option Addr) (c d : Nat) (l : List Int) (hl : l.length < 4611686018427387904) (w : World) (h1 : (Kd.int .i64).C w A l.length l) (g1 : l.length ≤ c) (h2 : (Kd.int .i64).C w B l.length l) (g2 : l.length ≤ d) :
    Calls Try.prog 13 #[.slice A l.length c, .slice B l.length d] w fun e w' => e = .returned (.bool true) ∧ Drawn0 w w' := by
  obtain ⟨k, hk⟩ := Ev.rounds (same_self_ev l hl)
  exact barscanlaw23_same.calls k A c l B d l true w h1 g1 h2 g2 hk
theorem miss_len (l : List S42) : (missS l).1.length ≤ 16 := by
  unfold missS
  split
  · rename_i h
    have := total_bd (ok_total h)
    exact Nat.le_trans (missL_len _ _) (by omega)
  · simp
set_option maxHeartbeats 8000000 in
set_option maxRecDepth 100000 in
theorem SplitJoins_calls (A : Option Addr) (c : Nat) (l : List S42) (w : World) (hC : Kd.C k42 w A l.length l) (hc : l.length ≤ c) :
    Calls Try.prog 5 #[.slice A l.length c] w fun e w' => e = .returned (.bool true) ∧ Below w.heap.size w w' := by
  obtain ⟨b, hb, hf⟩ := few_ev l
  obtain ⟨kf, hkf⟩ := Ev.rounds hb
  have HC := Aside0.mk hC
  have HCC := Aside0.mk hc
  have HKF := Aside0.mk hkf
  have HF := Aside0.mk hf
  clear hC hc hb hkf hf
  cases b with
  | false =>
    go_enter Try.func5, Try.ntmps5
    go_wp2_with (first
      | ((with_reducible refine (barscanlaw23_few.calls kf _ c l false _ HC.out HCC.out HKF.out).mono ?_); rintro e w1 ⟨rfl, ⟨nd, rfl⟩⟩)
      | ((with_reducible refine (exampleHolds_calls _).mono ?_); rintro e w2 ⟨rfl, hb2⟩; have HB2 := Aside0.mk hb2; clear hb2))
    go_ret
    exact ⟨rfl, below_then (pw_below_drewN (Below.refl w.heap.size w) nd) (pw_below_drewN (Below.refl w.heap.size w) nd).size HB2.out⟩
  | true =>
    have HL := Aside0.mk (HF.out rfl).1
    obtain ⟨xs, e1, hj⟩ : ∃ xs e1, joinP l = (xs, e1) := ⟨_, _, rfl⟩
    obtain ⟨ms, e2, hm⟩ : ∃ ms e2, missS l = (ms, e2) := ⟨_, _, rfl⟩
    have HML := Aside0.mk (by have := miss_len l; rw [hm] at this; exact Nat.lt_of_le_of_lt this (by decide) : ms.length < 4611686018427387904)
    have HJ := Aside0.mk hj
    have HM := Aside0.mk hm
    clear hj hm HF
    go_enter Try.func5, Try.ntmps5
    go_wp2_with ((with_reducible refine (barscanlaw23_few.calls kf _ c l true _ HC.out HCC.out HKF.out).mono ?_); rintro e w1 ⟨rfl, ⟨nd, rfl⟩⟩)
    have HB1 := Aside0.mk (pw_below_drewN (Below.refl w.heap.size w) nd : Below w.heap.size w (w.drewN nd))
    have k1 := Join_few _ c l _ (Kd.C_below HC.out HB1.out) HCC.out HL.out
    rw [HJ.out] at k1
    refine k1.mono ?_
    clear k1
    rintro e w2 ⟨A2, c2, rfl, hc2, hC2, hb2⟩
    have HB2 := Aside0.mk (below_then HB1.out HB1.out.size hb2)
    have HC2 := Aside0.mk hC2
    have HK2 := Aside0.mk hc2
    clear hc2 hC2 hb2
    go_wp2_with (fail)
    have k1 := rJoin_few _ c l _ (Kd.C_below HC.out HB2.out) HCC.out HL.out
    rw [HJ.out] at k1
    refine k1.mono ?_
    clear k1
    rintro e w3 ⟨A3, c3, rfl, hc3, hC3, hb3⟩
    have HB3 := Aside0.mk (below_then HB2.out HB2.out.size hb3)
    have HC2 := Aside0.mk (Kd.C_below HC2.out hb3)
    have HC3 := Aside0.mk hC3
    have HK3 := Aside0.mk hc3
    clear hc3 hC3 hb3
    go_wp2_with (fail)
    have k1 := Missing_few _ c l _ (Kd.C_below HC.out HB3.out) HCC.out HL.out
    rw [HM.out] at k1
    refine k1.mono ?_
    clear k1
    rintro e w4 ⟨A4, c4, rfl, hc4, hC4, hb4⟩
    have HB4 := Aside0.mk (below_then HB3.out HB3.out.size hb4)
    have HC2 := Aside0.mk (Kd.C_below HC2.out hb4)
    have HC3 := Aside0.mk (Kd.C_below HC3.out hb4)
    have HC4 := Aside0.mk hC4
    have HK4 := Aside0.mk hc4
    clear hc4 hC4 hb4
    go_wp2_with (fail)
    have k1 := rMissing_few _ c l _ (Kd.C_below HC.out HB4.out) HCC.out HL.out
    rw [HM.out] at k1
    refine k1.mono ?_
    clear k1
    rintro e w5 ⟨A5, c5, rfl, hc5, hC5, hb5⟩
    have HB5 := Aside0.mk (below_then HB4.out HB4.out.size hb5)
    have hx2 := Kd.C_string (P := Try.prog) (src := 22) (dst := 9) (c := c2) Try.underlying22 Try.underlying5 Try.underlying9 (Kd.C_below HC2.out hb5)
    have hx3 := Kd.C_string (P := Try.prog) (src := 22) (dst := 9) (c := c3) Try.underlying22 Try.underlying5 Try.underlying9 (Kd.C_below HC3.out hb5)
    have HC4 := Aside0.mk (Kd.C_below HC4.out hb5)
    have HC5 := Aside0.mk hC5
    have HK5 := Aside0.mk hc5
    clear hc5 hC5 hb5
    go_wp2_with (first
      | ((with_reducible refine (same_self A4 A5 c4 c5 ms HML.out _ HC4.out HK4.out HC5.out HK5.out).mono ?_); rintro e w6 ⟨rfl, ⟨nd6, rfl⟩⟩)
      | ((with_reducible refine (exampleHolds_calls _).mono ?_); rintro e w7 ⟨rfl, hb7⟩; have HB7 := Aside0.mk hb7; clear hb7))
    go_ret
    exact ⟨rfl, below_then (pw_below_drewN HB5.out _) (pw_below_drewN HB5.out _).size HB7.out⟩

end Go.Proofs.Ytclbjddcenkidaa.PS
namespace Go.Proofs.Ytclbjddcenkidaa.PS
open Go.RowKit Go.Proofs.YtclbjddcenkidaaW.PrintWords Go.Proofs.YtclbjddcenkidaaW.PrintLast Go.Proofs.YtclbjddcenkidaaW.PrintMore
attribute [local go_sem] max2_int min2_int max_two min_two max_three min_three max_four min_four
theorem list_two {α : Type} : ∀ {l : List α}, l.length = 2 → ∃ a b, l = [a, b]
  | [a, b], _ => ⟨a, b, rfl⟩
theorem list_three {α : Type} : ∀ {l : List α}, l.length = 3 → ∃ a b c, l = [a, b, c]
  | [a, b, c], _ => ⟨a, b, c, rfl⟩
theorem list_four {α : Type} : ∀ {l : List α}, l.length = 4 → ∃ a b c d, l = [a, b, c, d]
  | [a, b, c, d], _ => ⟨a, b, c, d, rfl⟩
section
variable {H : Type} {enc : TypeId × Value → H} {w : World} {base : Nat} {spare : Nat → Bool} {held : Bool}
theorem op_row {α : Type} (z : α) (d : Kd α) {t e : TypeId} {fuel : Nat} {cs : List Value} {x : DataW H × List MemPlace} (ht : Try.prog.underlying t = some (.slice e)) (hsz : Try.prog.cellsOf e = d.sz)
    (ih : ∀ fuel cs x, DataW.trod enc Try.prog w base spare held fuel e cs = some x → ∃ y, d.K w y cs) (h : DataW.trod enc Try.prog w base spare held fuel t cs = some x) :
    ∃ (A : Option Addr) (xs : List α) (c : Nat), cs = [.slice A xs.length c] ∧ xs.length ≤ c ∧ d.C w A xs.length xs := by
  rcases Go.Deep.open_slice ht h with ⟨rfl, _⟩ | ⟨a, len, cap, m, n, D, Pl, rfl, _, hl, hm, hmm, _, hx⟩
  · exact ⟨none, [], 0, rfl, Nat.le_refl _, rfl, by simp, fun h => by simp at h⟩
  · have hlm : len ≤ m := by rw [hmm]; split <;> omega
    obtain ⟨f, hf⟩ := @Go.Deep.choose_lt α ⟨z⟩ len (fun i y => ∃ cs', w.cells? base (a.add (i * Try.prog.cellsOf e)) (Try.prog.cellsOf e) = some cs' ∧ d.K w y cs') (fun i hi => by
      obtain ⟨cs', h1, h2⟩ := hx i (by omega)
      obtain ⟨y, hy⟩ := ih _ _ _ h2
      exact ⟨y, cs', h1, hy⟩)
    have hlen : ((List.range len).map f).length = len := by simp
    have hml : maxLen = 9223372036854775807 := by decide
    refine ⟨some a, (List.range len).map f, cap, by rw [hlen], by omega, rfl, by omega, fun _ => ⟨a, rfl, fun j y hj => ?_⟩⟩
    rw [List.getElem?_map] at hj
    have hjl : j < len := by
      cases hr : (List.range len)[j]? with
      | none => rw [hr] at hj; simp at hj
      | some q =>
        have := (List.getElem?_eq_some_iff.1 hr).1
        simpa using this
    rw [List.getElem?_range hjl] at hj
    obtain rfl : f j = y := by simpa using hj
    obtain ⟨cs', h1, h2⟩ := hf j hjl
    obtain ⟨_, h4, h5⟩ := World.cells?_some h1
    refine ⟨cs', by rw [h4, hsz], h2, fun i u hi => ?_⟩
    have hil : i < cs'.length := (List.getElem?_eq_some_iff.1 hi).1
    have := h5 i (by omega)
    rw [Go.Deep.add_add, hsz, hi] at this
    exact this
theorem op_bytes {fuel : Nat} {cs : List Value} {x : DataW H × List MemPlace} (h : DataW.trod enc Try.prog w base spare held fuel 22 cs = some x) : ∃ (A : Option Addr) (xs : List Int) (c : Nat), cs = [.slice A xs.length c] ∧ xs.length ≤ c ∧ (Kd.int .u8).C w A xs.length xs :=
  op_row 0 (Kd.int .u8) Try.underlying22 (by kernel_rfl) (fun _ _ _ h => by
    obtain ⟨n, rfl, _, _⟩ := DataW.trod_int Try.underlying5 h
    exact ⟨n, rfl⟩) h
theorem op_seg {fuel : Nat} {cs : List Value} {x : DataW H × List MemPlace} (h : DataW.trod enc Try.prog w base spare held fuel 54 cs = some x) : ∃ y : S54, k54.K w y cs := by
  have c54 : Try.prog.cellsOf 54 = 2 := by kernel_rfl
  have c52 : Try.prog.cellsOf 52 = 1 := by kernel_rfl
  have c22 : Try.prog.cellsOf 22 = 1 := by kernel_rfl
  obtain ⟨xs, k, _, _, hl, hxl, hf⟩ := DataW.trod_struct Try.underlying54 h
  rw [c54] at hl
  obtain ⟨y0, y1, rfl⟩ := list_two (hxl.trans rfl : xs.length = 2)
  obtain ⟨v0, v1, rfl⟩ := list_two hl
  have g0 := hf 0 _ rfl
  have g1 := hf 1 _ rfl
  simp [c52, c22] at g0 g1
  obtain ⟨n, e0, _, _⟩ := DataW.trod_int Try.underlying52 g0
  obtain ⟨A, xs, c, e1, hle, hC⟩ := op_bytes g1
  cases e0
  cases e1
  exact ⟨⟨n, xs⟩, k54_mk w ⟨n, xs⟩ hle hC⟩
theorem op_app {fuel : Nat} {cs : List Value} {x : DataW H × List MemPlace} (h : DataW.trod enc Try.prog w base spare held fuel 40 cs = some x) : ∃ y : S40, cs = [.int .i64 y.f0, .int .i64 y.f1, .int .i64 y.f2] := by
  have c40 : Try.prog.cellsOf 40 = 3 := by kernel_rfl
  have c3 : Try.prog.cellsOf 3 = 1 := by kernel_rfl
  obtain ⟨xs, k, _, _, hl, hxl, hf⟩ := DataW.trod_struct Try.underlying40 h
  rw [c40] at hl
  obtain ⟨y0, y1, y2, rfl⟩ := list_three (hxl.trans rfl : xs.length = 3)
  obtain ⟨v0, v1, v2, rfl⟩ := list_three hl
  have g0 := hf 0 _ rfl
  have g1 := hf 1 _ rfl
  have g2 := hf 2 _ rfl
  simp [c3] at g0 g1 g2
  obtain ⟨n0, e0, _, _⟩ := DataW.trod_int Try.underlying3 g0
  obtain ⟨n1, e1, _, _⟩ := DataW.trod_int Try.underlying3 g1
  obtain ⟨n2, e2, _, _⟩ := DataW.trod_int Try.underlying3 g2
  cases e0
  cases e1
  cases e2
  exact ⟨⟨n0, n1, n2⟩, rfl⟩
theorem op_msg {fuel : Nat} {cs : List Value} {x : DataW H × List MemPlace} (h : DataW.trod enc Try.prog w base spare held fuel 42 cs = some x) : ∃ y : S42, k42.K w y cs := by
  have c42 : Try.prog.cellsOf 42 = 4 := by kernel_rfl
  have c38 : Try.prog.cellsOf 38 = 1 := by kernel_rfl
  have c40 : Try.prog.cellsOf 40 = 3 := by kernel_rfl
  obtain ⟨xs, k, _, _, hl, hxl, hf⟩ := DataW.trod_struct Try.underlying42 h
  rw [c42] at hl
  obtain ⟨y0, y1, rfl⟩ := list_two (hxl.trans rfl : xs.length = 2)
  obtain ⟨v0, v1, v2, v3, rfl⟩ := list_four hl
  have g0 := hf 0 _ rfl
  have g1 := hf 1 _ rfl
  simp [c38, c40] at g0 g1
  obtain ⟨A, ys, c, e0, hle, hC⟩ := op_row z54 k54 Try.underlying38 (by kernel_rfl) (fun _ _ _ h => op_seg h) g0
  obtain ⟨a, e1⟩ := op_app g1
  cases e0
  cases e1
  exact ⟨⟨ys, a⟩, k42_mk w ⟨ys, a⟩ hle hC⟩
theorem op_msgs {v : Value} {d : DataW H} {p : List MemPlace} (h : DataW.Trod enc Try.prog w base spare held 33 v d p) {a : Option Addr} {n c : Nat} (hv : v = .slice a n c) : ∃ xs : List S42, n = xs.length ∧ xs.length ≤ c ∧ k42.C w a xs.length xs := by
  obtain ⟨fuel, hf⟩ := h
  subst hv
  obtain ⟨A, xs, c', e, hle, hC⟩ := op_row z42 k42 Try.underlying33 (by kernel_rfl) (fun _ _ _ h => op_msg h) hf
  simp [Value.cells] at e
  obtain ⟨rfl, rfl, rfl⟩ := e
  exact ⟨xs, rfl, hle, hC⟩
end

end Go.Proofs.Ytclbjddcenkidaa.PS
