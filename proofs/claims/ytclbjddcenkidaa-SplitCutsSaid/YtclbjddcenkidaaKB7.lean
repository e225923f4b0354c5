-- Texts of this claim, merged by the prover's program (wip/tools/trim.py); theorems that no proof uses are left out.
import Derived.Test.YtclbjddcenkidaaKB6
import Derived.Test.YtclbjddcenkidaaKB2
import Derived.Test.YtclbjddcenkidaaKB4
set_option linter.unusedVariables false
set_option linter.unusedSimpArgs false
namespace Go.Proofs.Ytclbjddcenkidaa.PS
open Go.RowKit Go.Proofs.YtclbjddcenkidaaW.PrintWords Go.Proofs.YtclbjddcenkidaaW.PrintLast Go.Proofs.YtclbjddcenkidaaW.PrintMore
attribute [local go_sem] max2_int min2_int max_two min_two max_three min_three max_four min_four
theorem e98_ok {n : Nat} {p : S106} (h : Okp n p) (hn : 1 ≤ n) : e98 p = to98 p := by
  unfold e98
  rw [if_neg (by have := h.l0 hn; omega)]
theorem e98_init : e98 initS = ⟨0, 0, 0, 0⟩ := rfl
theorem rd98 (P : List S98) (i : Nat) : rd_T98 P (i : Int) = P.getD i z98 := by unfold rd_T98; rw [Int.toNat_natCast]
theorem getD_drop98 {P : List S98} {i : Nat} {p : S98} {rest : List S98} (h : P.drop i = p :: rest) : P.getD i z98 = p := by
  have : (P.drop i)[0]? = some p := by rw [h]; rfl
  rw [List.getElem?_drop] at this
  simp at this
  rw [List.getD_eq_getElem?_getD, this]
  rfl
section
variable {x0 : List Int} {cls : Int} (h0 : 0 ≤ cls) (h2 : cls ≤ 2) (hn : x0.length ≤ 4096) (hx : ∀ c ∈ x0, 0 ≤ c ∧ c < 256)
include h0 h2 hn hx
set_option maxHeartbeats 1000000 in
theorem first_l1 (m : Int) (hm : m = 1 ∨ m = 2 ∨ m = 4) (at_ j : Nat) (hat : at_ < x0.length) (P : List S98) (hP : P.length = x0.length + 1) (r : Int × Int × Int × Int) : ∀ (s : List Int) (k : Nat) (cur : S106) (rest : List S106),
    1 ≤ k → x0.drop (at_ + k - 1) = s → s.length + k = x0.length - at_ + 1 → P.drop (at_ + k) = rest.map to98 → RestOk (x0.length - at_ - k) rest → (Okp (x0.length - at_) cur ∨ cur = initS) →
    Ev (fun f => barscanref16_first.l0 f x0 at_ cls P [1, 2, 4] (wrap64 (j + 1)) (e98 (innerS cls m s rest k cur)).f0 (e98 (innerS cls m s rest k cur)).f1 (e98 (innerS cls m s rest k cur)).f2 (e98 (innerS cls m s rest k cur)).f3) r →
    Ev (fun f => barscanref16_first.l1 f x0 at_ cls P [1, 2, 4] j m k (e98 cur).f0 (e98 cur).f1 (e98 cur).f2 (e98 cur).f3) r := by
  intro s
  induction s with
  | nil =>
    intro k cur rest hk hs hl hr hok hcur hE
    unfold innerS at hE
    have i1 : ¬ ((at_ : Int) + k ≤ (x0.length : Int)) := by simp at hl; omega
    obtain ⟨hw1, hw2⟩ := wr_at at_ k (by simp at hl; omega) hk
    refine Ev.step (fun f => barscanref16_first.l1.eq_2 ..) ?_
    simp only [hw1]
    refine Ev.ifn i1 ?_
    refine Ev.step (fun f => barscanref16_first.j2.eq_2 ..) ?_
    exact Ev.ifn (by simp) hE
  | cons c s ih =>
    intro k cur rest hk hs hl hr hok hcur hE
    have hlen : k ≤ x0.length - at_ := by simp at hl; omega
    cases rest with
    | nil =>
      have := congrArg List.length hr
      simp at this
      omega
    | cons p rest =>
      have hP1 : P.getD (at_ + k) z98 = to98 p := getD_drop98 hr
      have hc : c ∈ x0 := List.mem_of_mem_drop (i := at_ + k - 1) (by rw [hs]; simp)
      have hcb := hx c hc
      have hrd : rd x0 ((at_ : Int) + k - 1) = c := by
        have := rd_drop hs
        rwa [show ((at_ + k - 1 : Nat) : Int) = (at_ : Int) + k - 1 by omega] at this
      have j1 : 1 ≤ x0.length - at_ := by omega
      have j2 : x0.length - at_ ≤ 4096 := by omega
      have j3 : at_ + k ≤ 10000 := by omega
      have j4 : k ≤ 5000 := by omega
      have j5 : x0.length - at_ - k ≤ 4096 := by omega
      have i1 : (at_ : Int) + k ≤ (x0.length : Int) := by omega
      have i2 : 0 ≤ (at_ : Int) + k - 1 := by omega
      have i3 : (at_ : Int) + k - 1 < (x0.length : Int) := by omega
      have i4 : 0 ≤ (at_ : Int) + k := by omega
      have i5 : (at_ : Int) + k < (P.length : Int) := by omega
      have i6 : s.length + (k + 1) = x0.length - at_ + 1 := by simp at hl; omega
      have i7 : k ≤ 4096 := by omega
      have hs' : x0.drop (at_ + (k + 1) - 1) = s := by
        have := drop_next hs
        rwa [show at_ + k - 1 + 1 = at_ + (k + 1) - 1 by omega] at this
      have hr' : P.drop (at_ + (k + 1)) = rest.map to98 := by
        have := drop_next hr
        rwa [show at_ + k + 1 = at_ + (k + 1) by omega] at this
      have hok' : RestOk (x0.length - at_ - (k + 1)) rest := by
        by_cases e : x0.length - at_ = k
        · intro i q hq
          have := (hok (i + 1) q (by simpa using hq)).1
          omega
        · have e8 : x0.length - at_ - k = x0.length - at_ - (k + 1) + 1 := by omega
          rw [e8] at hok
          exact hok.tail
      have j6 : k ≤ mostN m cls → (k : Int) ≤ ((mostN m cls : Nat) : Int) := by omega
      have j7 : ¬ k ≤ mostN m cls → ¬ (k : Int) ≤ ((mostN m cls : Nat) : Int) := by omega
      have hpok := (hok 0 p rfl).2
      have hcl := cbN_le m cls h0 h2
      have hdl := dbN_le m k
      have hcand : Okp (x0.length - at_) (candS m cls k p) := cand_ok h0 h2 hk hlen hpok
      have hdl2 : dbN m k ≤ 40000 := by omega
      have jc : ∀ q : S106, Okp (x0.length - at_) q → ¬ q.f2 = 0 := fun q hq => by have := hq.l0 j1; omega
      have e6 : rd_T98 P ((at_ : Int) + k) = to98 p := by rw [show (at_ : Int) + k = ((at_ + k : Nat) : Int) by omega, rd98, hP1]
      obtain ⟨hw1, hw2⟩ := wr_at at_ k j3 hk
      obtain ⟨e1, e2, e3, e4⟩ := wr_cand (cbN m cls) (dbN m k) (x0.length - at_ - k) p.f0 p.f1 hcl.2 hdl2 j5 hpok.b0 hpok.b1 hpok.s0 hpok.s1
      have e5 := wr_add1 k j4
      unfold innerS at hE
      refine Ev.step (fun f => barscanref16_first.l1.eq_2 ..) ?_
      simp only [hw1]
      refine Ev.ifp i1 ?_
      refine Ev.bind (g := fun f => barscanref16_most.f f m cls) (rmost_ev m cls hm h0 h2) ?_
      by_cases hmo : k ≤ mostN m cls
      · refine Ev.ifp (j6 hmo) ?_
        simp only [hw2, hrd]
        refine Ev.ifp i2 (Ev.ifp i3 ?_)
        refine Ev.bind (g := fun f => barscanref16_Fits.f f m c) (rfits_ev m c hm hcb.1 hcb.2) ?_
        refine Ev.step (fun f => barscanref16_first.j2.eq_2 ..) ?_
        cases hb : fitS m c with
        | false =>
          refine Ev.ifn (by simp) ?_
          rw [if_neg (by simp [hb])] at hE
          exact hE
        | true =>
          refine Ev.ifp rfl ?_
          rw [if_pos ⟨hmo, hb⟩] at hE
          have hec := e98_ok hcand j1
          refine Ev.bind (g := fun f => barscanref16_size.f f m cls k) (rsize_ev m cls k hm h0 h2 i7) ?_
          simp only [hw1, e6]
          refine Ev.ifp i4 (Ev.ifp i5 ?_)
          simp only [to98, e3, e4, e5]
          have hstep := ih (k + 1) (candS m cls k p) rest (Nat.succ_pos k) hs' i6 hr' hok' (.inl hcand)
          rw [hec] at hstep
          simp only [to98, candS] at hstep
          rcases hcur with hco | hci
          · have hecu := e98_ok hco j1
            rw [hecu]
            simp only [to98]
            refine Ev.ifn (jc cur hco) ?_
            have hbe := rbetter_eq (candS m cls k p) cur
            simp only [candS] at hbe
            rw [hbe]
            simp only [Option.bind_some]
            cases hbt : betS (candS m cls k p) cur with
            | false =>
              have hbt' := hbt
              simp only [candS] at hbt'
              rw [hbt']
              refine Ev.ifn (by simp) ?_
              rw [hbt, if_neg (by simp)] at hE
              have := ih (k + 1) cur rest (Nat.succ_pos k) hs' i6 hr' hok' (.inl hco) hE
              rw [hecu] at this
              exact this
            | true =>
              have hbt' := hbt
              simp only [candS] at hbt'
              rw [hbt']
              refine Ev.ifp rfl ?_
              rw [hbt, if_pos rfl] at hE
              exact hstep hE
          · subst hci
            refine Ev.ifp rfl ?_
            rw [betS_init hcand j2, if_pos rfl] at hE
            exact hstep hE
      · refine Ev.ifn (j7 hmo) ?_
        rw [if_neg (fun h => hmo h.1)] at hE
        refine Ev.step (fun f => barscanref16_first.j2.eq_2 ..) ?_
        exact Ev.ifn (by simp) hE

end
end Go.Proofs.Ytclbjddcenkidaa.PS
namespace Go.Proofs.Ytclbjddcenkidaa.PS
open Go.RowKit Go.Proofs.YtclbjddcenkidaaW.PrintWords Go.Proofs.YtclbjddcenkidaaW.PrintLast Go.Proofs.YtclbjddcenkidaaW.PrintMore
attribute [local go_sem] max2_int min2_int max_two min_two max_three min_three max_four min_four
section
variable {x0 : List Int} {cls : Int} (h0 : 0 ≤ cls) (h2 : cls ≤ 2) (hn : x0.length ≤ 4096) (hx : ∀ c ∈ x0, 0 ≤ c ∧ c < 256)
include h0 h2 hn hx
theorem rfirst_ev (at_ : Nat) (hat : at_ < x0.length) (P : List S98) (hP : P.length = x0.length + 1) (rest : List S106) (hr : P.drop (at_ + 1) = rest.map to98) (hok : RestOk (x0.length - at_ - 1) rest) :
    Ev (fun f => barscanref16_first.f f x0 at_ cls P) ((e98 (bestS cls (x0.drop at_) rest)).f0, (e98 (bestS cls (x0.drop at_) rest)).f1, (e98 (bestS cls (x0.drop at_) rest)).f2, (e98 (bestS cls (x0.drop at_) rest)).f3) := by
  have hs : x0.drop (at_ + 1 - 1) = x0.drop at_ := by rw [Nat.add_sub_cancel]
  have hl : (x0.drop at_).length + 1 = x0.length - at_ + 1 := by rw [List.length_drop]
  have hI1 : Okp (x0.length - at_) (innerS cls 1 (x0.drop at_) rest 1 initS) ∨ innerS cls 1 (x0.drop at_) rest 1 initS = initS := innerS_ok h0 h2 (by omega) _ _ 1 _ (Nat.le_refl _) (by omega) hok (.inr rfl)
  have hI2 := innerS_ok (m := 2) h0 h2 (n := x0.length - at_) (by omega) (x0.drop at_) rest 1 _ (Nat.le_refl _) (by omega) hok hI1
  have w0 : wrap64 (((0 : Nat) : Int) + 1) = ((1 : Nat) : Int) := by decide +kernel
  have w1 : wrap64 (((1 : Nat) : Int) + 1) = ((2 : Nat) : Int) := by decide +kernel
  have w2 : wrap64 (((2 : Nat) : Int) + 1) = ((3 : Nat) : Int) := by decide +kernel
  obtain ⟨c1, hc1⟩ : ∃ c1, c1 = innerS cls 1 (x0.drop at_) rest 1 initS := ⟨_, rfl⟩
  obtain ⟨c2, hc2⟩ : ∃ c2, c2 = innerS cls 2 (x0.drop at_) rest 1 c1 := ⟨_, rfl⟩
  obtain ⟨c3, hc3⟩ : ∃ c3, c3 = innerS cls 4 (x0.drop at_) rest 1 c2 := ⟨_, rfl⟩
  have hb : bestS cls (x0.drop at_) rest = c3 := by rw [hc3, hc2, hc1]; rfl
  rw [hb]
  rw [← hc1] at hI1 hI2
  rw [← hc2] at hI2
  obtain ⟨R, hR⟩ : ∃ R, R = ((e98 c3).f0, (e98 c3).f1, (e98 c3).f2, (e98 c3).f3) := ⟨_, rfl⟩
  rw [← hR]
  have hend : Ev (fun f => barscanref16_first.l0 f x0 at_ cls P [1, 2, 4] (((3 : Nat) : Int)) (e98 c3).f0 (e98 c3).f1 (e98 c3).f2 (e98 c3).f3) R := by
    refine Ev.step (fun f => barscanref16_first.l0.eq_2 ..) ?_
    rw [hR]
    exact Ev.ifn (by decide) (Ev.now _)
  have h3 := first_l1 h0 h2 hn hx 4 (.inr (.inr rfl)) at_ 2 hat P hP R (x0.drop at_) 1 c2 rest (Nat.le_refl _) hs hl hr hok hI2 (by rw [w2, ← hc3]; exact hend)
  have hs2 : Ev (fun f => barscanref16_first.l0 f x0 at_ cls P [1, 2, 4] (((2 : Nat) : Int)) (e98 c2).f0 (e98 c2).f1 (e98 c2).f2 (e98 c2).f3) R := by
    refine Ev.step (fun f => barscanref16_first.l0.eq_2 ..) ?_
    exact Ev.ifp (by decide) (Ev.ifp (by decide) h3)
  have h4 := first_l1 h0 h2 hn hx 2 (.inr (.inl rfl)) at_ 1 hat P hP R (x0.drop at_) 1 c1 rest (Nat.le_refl _) hs hl hr hok hI1 (by rw [w1, ← hc2]; exact hs2)
  have hs1 : Ev (fun f => barscanref16_first.l0 f x0 at_ cls P [1, 2, 4] (((1 : Nat) : Int)) (e98 c1).f0 (e98 c1).f1 (e98 c1).f2 (e98 c1).f3) R := by
    refine Ev.step (fun f => barscanref16_first.l0.eq_2 ..) ?_
    exact Ev.ifp (by decide) (Ev.ifp (by decide) h4)
  have h5 := first_l1 h0 h2 hn hx 1 (.inl rfl) at_ 0 hat P hP R (x0.drop at_) 1 initS rest (Nat.le_refl _) hs hl hr hok (.inr rfl) (by rw [w0, ← hc1]; exact hs1)
  have hs0 : Ev (fun f => barscanref16_first.l0 f x0 at_ cls P [1, 2, 4] (((0 : Nat) : Int)) 0 0 0 0) R := by
    refine Ev.step (fun f => barscanref16_first.l0.eq_2 ..) ?_
    exact Ev.ifp (by decide) (Ev.ifp (by decide) h5)
  exact hs0
end

end Go.Proofs.Ytclbjddcenkidaa.PS
namespace Go.Proofs.Ytclbjddcenkidaa.PS
open Go.RowKit Go.Proofs.YtclbjddcenkidaaW.PrintWords Go.Proofs.YtclbjddcenkidaaW.PrintLast Go.Proofs.YtclbjddcenkidaaW.PrintMore
attribute [local go_sem] max2_int min2_int max_two min_two max_three min_three max_four min_four
section
variable {x0 : List Int} {cls : Int} (h0 : 0 ≤ cls) (h2 : cls ≤ 2) (hn : x0.length ≤ 4096) (hx : ∀ c ∈ x0, 0 ≤ c ∧ c < 256)
include h0 h2 hn hx
theorem plan_at (at_ : Nat) (hat : at_ ≤ x0.length) : rd_T98 ((planS cls x0).map to98) (at_ : Int) = to98 ((planS cls (x0.drop at_)).headD z106) := by
  have _u0 := h0
  have _u1 := h2
  have _u2 := hn
  have _u3 := hx
  have hd := planS_drop cls x0 at_ hat
  have hl := planS_len cls (x0.drop at_)
  rw [rd98, List.getD_eq_getElem?_getD, List.getElem?_map]
  cases hp : planS cls (x0.drop at_) with
  | nil => rw [hp] at hl; simp at hl
  | cons p r =>
    have : ((planS cls x0).drop at_)[0]? = some p := by rw [hd, hp]; rfl
    rw [List.getElem?_drop] at this
    simp at this
    rw [this]
    rfl
theorem rbest_l2 : ∀ (n at_ : Nat) (out : List S54), at_ + n = x0.length → out.length ≤ at_ → ∃ L, Ev (fun f => barscanref16_Best.l2 f x0 ((planS cls x0).map to98) out at_) (L, bitsS cls x0, 0) := by
  intro n
  induction n using Nat.strongRecOn with
  | _ n ih =>
    intro at_ out hat hout
    have hPl : (((planS cls x0).map to98).length : Int) = (x0.length : Int) + 1 := by rw [List.length_map, planS_len]; omega
    by_cases hlt : at_ < x0.length
    · have hpa := plan_at h0 h2 hn hx at_ (by omega)
      have hok := planS_ok h0 h2 (x0.drop at_) (by rw [List.length_drop]; omega)
      obtain ⟨p, hp⟩ : ∃ p, p = (planS cls (x0.drop at_)).headD z106 := ⟨_, rfl⟩
      have hpo : Okp (x0.length - at_) p := by
        have hl := planS_len cls (x0.drop at_)
        cases hq : planS cls (x0.drop at_) with
        | nil => rw [hq] at hl; simp at hl
        | cons p' r =>
          have := (hok 0 p' (by rw [hq]; rfl)).2
          rw [hp, hq]
          simpa using this
      rw [← hp] at hpa
      obtain ⟨d, hd⟩ : ∃ d : Nat, p.f2 = (d : Int) := ⟨p.f2.toNat, by have := hpo.l0 (by omega); omega⟩
      have hd1 : 1 ≤ d := by have := hpo.l0 (by omega); omega
      have hd2 : at_ + d ≤ x0.length := by have := hpo.l1; omega
      have i1 : (at_ : Int) < (x0.length : Int) := by omega
      have i2 : 0 ≤ (at_ : Int) := by omega
      have i3 : (at_ : Int) < (((planS cls x0).map to98).length : Int) := by omega
      have i4 : (at_ : Int) ≤ ((at_ + d : Nat) : Int) := by omega
      have i5 : ((at_ + d : Nat) : Int) ≤ (x0.length : Int) := by omega
      have i6 : ∀ l : List Int, l.length ≤ x0.length → ([] : List Int).length + l.length < 140737488355328 := fun l hl => by simp; omega
      have i7 : out.length < 4398046511104 := by omega
      have hw : wrap64 ((at_ : Int) + (d : Int)) = ((at_ + d : Nat) : Int) := (w64 (by omega) (by omega)).trans (by omega)
      obtain ⟨L, hL⟩ := ih (x0.length - (at_ + d)) (by omega) (at_ + d) (out ++ [(⟨p.f3, ([] : List Int) ++ (x0.take ((((at_ + d : Nat) : Int)).toNat)).drop ((at_ : Int)).toNat⟩ : S54)]) (by omega) (by simp; omega)
      refine ⟨L, Ev.step (fun f => barscanref16_Best.l2.eq_2 ..) ?_⟩
      simp only [hpa, to98, hd, hw]
      exact Ev.ifp i1 (Ev.ifp i2 (Ev.ifp i3 (Ev.ifp i4 (Ev.ifp i5 (Ev.ifp (i6 _ (by rw [List.length_drop, List.length_take]; omega)) (Ev.ifp i7 hL))))))
    · have e : at_ = x0.length := by omega
      have i1 : ¬ (at_ : Int) < (x0.length : Int) := by omega
      have i2 : 0 < (((planS cls x0).map to98).length : Int) := by omega
      have hpa := plan_at h0 h2 hn hx 0 (by omega)
      refine ⟨out, Ev.step (fun f => barscanref16_Best.l2.eq_2 ..) ?_⟩
      refine Ev.ifn i1 (Ev.ifp i2 ?_)
      rw [show ((0 : Nat) : Int) = 0 from rfl] at hpa
      rw [hpa]
      exact Ev.now _
theorem rbest_l1 : ∀ (j : Nat) (P : List S98), j ≤ x0.length → P.length = x0.length + 1 → P.drop j = (planS cls (x0.drop j)).map to98 → ∃ L, Ev (fun f => barscanref16_Best.l1 f x0 cls P ((j : Int) - 1)) (L, bitsS cls x0, 0) := by
  intro j
  induction j with
  | zero =>
    intro P _ hP hd
    obtain ⟨L, hL⟩ := rbest_l2 h0 h2 hn hx x0.length 0 [] (by omega) (by simp)
    refine ⟨L, Ev.step (fun f => barscanref16_Best.l1.eq_2 ..) ?_⟩
    refine Ev.ifn (by omega) ?_
    rw [List.drop_zero, List.drop_zero] at hd
    rw [hd]
    exact hL
  | succ j ih =>
    intro P hj hP hd
    have hok := planS_ok h0 h2 (x0.drop (j + 1)) (by rw [List.length_drop]; omega)
    rw [List.length_drop] at hok
    have hf := rfirst_ev h0 h2 hn hx j (by omega) P hP (planS cls (x0.drop (j + 1))) hd (by rw [show x0.length - j - 1 = x0.length - (j + 1) by omega]; exact hok)
    have hdr : x0.drop j = x0[j] :: x0.drop (j + 1) := List.drop_eq_getElem_cons (by omega)
    have hpl : planS cls (x0.drop j) = bestS cls (x0.drop j) (planS cls (x0.drop (j + 1))) :: planS cls (x0.drop (j + 1)) := by rw [hdr]; rfl
    have hokj := planS_ok h0 h2 (x0.drop j) (by rw [List.length_drop]; omega)
    rw [List.length_drop] at hokj
    have hob := (hokj 0 _ (by rw [hpl]; rfl)).2
    rw [e98_ok hob (by omega)] at hf
    obtain ⟨b, hb⟩ : ∃ b, b = bestS cls (x0.drop j) (planS cls (x0.drop (j + 1))) := ⟨_, rfl⟩
    rw [← hb] at hf hpl
    have i1 : ((j : Nat) : Int) ≥ 0 := by omega
    have i2 : (j : Int) < (P.length : Int) := by omega
    have hdn : (P.set j (to98 b)).drop j = (planS cls (x0.drop j)).map to98 := by
      rw [hpl, List.map_cons, ← hd, List.drop_eq_getElem_cons (by rw [List.length_set]; omega), List.getElem_set_self, List.drop_set_of_lt (by omega)]
    obtain ⟨L, hL⟩ := ih (P.set j (to98 b)) (by omega) (by rw [List.length_set]; exact hP) hdn
    refine ⟨L, ?_⟩
    rw [show (((j + 1 : Nat) : Int) - 1) = (j : Int) by omega]
    refine Ev.step (fun f => barscanref16_Best.l1.eq_2 ..) ?_
    refine Ev.ifp i1 ?_
    refine Ev.bind (g := fun f => barscanref16_first.f f x0 j cls P) hf ?_
    have hw : wrap64 ((j : Int) - 1) = (j : Int) - 1 := w64 (by omega) (by omega)
    simp only [hw, Int.toNat_natCast]
    exact Ev.ifp i1 (Ev.ifp i2 hL)
theorem rbest_l0 : ∀ (n i : Nat), i + n = x0.length + 1 → ∃ L, Ev (fun f => barscanref16_Best.l0 f x0 cls (List.replicate i (⟨0, 0, 0, 0⟩ : S98)) (i : Int)) (L, bitsS cls x0, 0) := by
  intro n
  induction n with
  | zero =>
    intro i hi
    have hi' : i = x0.length + 1 := by omega
    obtain ⟨L, hL⟩ := rbest_l1 h0 h2 hn hx x0.length (List.replicate i (⟨0, 0, 0, 0⟩ : S98)) (Nat.le_refl _) (by simp [hi']) (by rw [hi', List.drop_length]; simp [planS, z106, to98])
    have hw : wrap64 ((x0.length : Int) - 1) = (x0.length : Int) - 1 := w64 (by omega) (by omega)
    refine ⟨L, Ev.step (fun f => barscanref16_Best.l0.eq_2 ..) ?_⟩
    refine Ev.ifn (by omega) ?_
    simp only [hw]
    exact hL
  | succ n ih =>
    intro i hi
    obtain ⟨L, hL⟩ := ih (i + 1) (by omega)
    have i1 : (i : Int) ≤ (x0.length : Int) := by omega
    have i2 : (List.replicate i (⟨0, 0, 0, 0⟩ : S98)).length < 4398046511104 := by simp; omega
    have hw := wr_add1 i (by omega)
    refine ⟨L, Ev.step (fun f => barscanref16_Best.l0.eq_2 ..) ?_⟩
    refine Ev.ifp i1 (Ev.ifp i2 ?_)
    simp only [hw]
    rw [show List.replicate i (⟨0, 0, 0, 0⟩ : S98) ++ [(⟨0, 0, 0, 0⟩ : S98)] = List.replicate (i + 1) (⟨0, 0, 0, 0⟩ : S98) from (List.replicate_succ' ..).symm]
    exact hL
theorem rbest_ev : ∃ L, Ev (fun f => barscanref16_Best.f f x0 cls) (L, bitsS cls x0, 0) := by
  obtain ⟨L, hL⟩ := rbest_l0 h0 h2 hn hx (x0.length + 1) 0 (by omega)
  refine ⟨L, ?_⟩
  unfold barscanref16_Best.f
  refine Ev.ifn (by omega) ?_
  refine Ev.step (fun f => barscanref16_Best.j0.eq_2 ..) ?_
  refine Ev.ifn (by simp; omega) (Ev.ifn (by omega) ?_)
  exact hL
end

end Go.Proofs.Ytclbjddcenkidaa.PS
namespace Go.Proofs.Ytclbjddcenkidaa.PS
open Go.RowKit Go.Proofs.YtclbjddcenkidaaW.PrintWords Go.Proofs.YtclbjddcenkidaaW.PrintLast Go.Proofs.YtclbjddcenkidaaW.PrintMore
attribute [local go_sem] max2_int min2_int max_two min_two max_three min_three max_four min_four
theorem rcap_tab : ∀ v, v < 40 → ∀ l, l < 4 → barscanref17_Capacity.f ((v : Nat) + 1 : Int) ((l : Nat) + 1 : Int) = some (capV (v + 1) (l + 1), 0) := by decide +kernel
def FN : Nat → Nat | 0 => 1 | 1 => 10 | 2 => 27 | _ => 41
theorem FN_rd (c : Nat) (h : c ≤ 3) : rd [1, 10, 27, 41] (c : Int) = (FN c : Int) := by
  rcases (by omega : c = 0 ∨ c = 1 ∨ c = 2 ∨ c = 3) with rfl | rfl | rfl | rfl <;> rfl
theorem cls_FN (c v : Nat) (h : c < 3) (h1 : FN c ≤ v) (h2 : v < FN (c + 1)) : clsOf v = (c : Int) := by
  unfold clsOf
  rcases (by omega : c = 0 ∨ c = 1 ∨ c = 2) with rfl | rfl | rfl <;> simp only [FN] at h1 h2
  · rw [if_pos (by omega)]; rfl
  · rw [if_neg (by omega), if_pos (by omega)]; rfl
  · rw [if_neg (by omega), if_neg (by omega)]; rfl
theorem FN_bd (c : Nat) (h : c < 3) : 1 ≤ FN c ∧ FN c < FN (c + 1) ∧ FN (c + 1) ≤ 41 := by
  rcases (by omega : c = 0 ∨ c = 1 ∨ c = 2) with rfl | rfl | rfl <;> decide
def rOut (L : List S54) : Option Nat → Int × List S54 × Int
  | some v => (v, L, 0)
  | none => (0, [], 16)
section
variable {l : List Int} (hn : l.length ≤ 4096) (hx : ∀ c ∈ l, 0 ≤ c ∧ c < 256) {lv : Nat} (hlv : lv < 4) {ex : Int} (e0 : 0 ≤ ex) (e1 : ex ≤ 1000)
include hn hx hlv e0 e1
theorem rsmall_l1 (c : Nat) (hc : c < 3) (Lc : List S54) (hnext : ∃ L, Ev (fun f => barscanref17_Smallest.l0 f l ((lv : Int) + 1) ex [1, 10, 27, 41] ((c + 1 : Nat) : Int)) (rOut L (smallR l (lv + 1) ex (41 - FN (c + 1)) (FN (c + 1))))) :
    ∀ (n v : Nat), v + n = FN (c + 1) → FN c ≤ v → ∃ L, Ev (fun f => barscanref17_Smallest.l1 f l ((lv : Int) + 1) ex [1, 10, 27, 41] c Lc (bitsS (c : Int) l) v) (rOut L (smallR l (lv + 1) ex (41 - v) v)) := by
  have _u0 := hx
  have _u1 := e0
  have _u2 := e1
  intro n
  have hF := FN_bd c hc
  have hw := wr_add1 c (by omega)
  have j1 : 0 ≤ ((c + 1 : Nat) : Int) := by omega
  have j2 : ((c + 1 : Nat) : Int) < (([1, 10, 27, 41] : List Int).length : Int) := by simp; omega
  have hr1 := FN_rd (c + 1) (by omega)
  induction n with
  | zero =>
    intro v hv _
    have hv' : v = FN (c + 1) := by omega
    subst hv'
    obtain ⟨L, hL⟩ := hnext
    refine ⟨L, Ev.step (fun f => barscanref17_Smallest.l1.eq_2 ..) ?_⟩
    simp only [hw, hr1]
    exact Ev.ifp j1 (Ev.ifp j2 (Ev.ifn (Int.lt_irrefl _) hL))
  | succ n ih =>
    intro v hv hv1
    have hv2 : v < FN (c + 1) := by omega
    have hcl := cls_FN c v hc hv1 hv2
    have hvb : 1 ≤ v ∧ v ≤ 40 := by omega
    have hcap := rcap_tab (v - 1) (by omega) lv hlv
    have hcb := capV_bd (v - 1) (by omega) lv hlv
    rw [show v - 1 + 1 = v by omega] at hcap hcb
    rw [show (((v - 1 : Nat) : Int) + 1) = (v : Int) by omega] at hcap
    have hb := bitsS_bd (cls := (c : Int)) (by omega) (by omega) l hn
    have hb3 : bitsS (c : Int) l ≤ 200000 := by omega
    obtain ⟨L, hL⟩ := ih (v + 1) (by omega) (by omega)
    have j3 : (v : Int) < ((FN (c + 1) : Nat) : Int) := by omega
    have j4 : 41 - v = (41 - (v + 1)) + 1 := by omega
    have j5 : v ≤ 5000 := by omega
    rw [j4, smallR]
    unfold fitV
    rw [hcl]
    by_cases hfit : ex ≤ 8 * capV v (lv + 1) - bitsS (c : Int) l
    · rw [if_pos (by simp; omega)]
      obtain ⟨w1, w2⟩ := wr_cap (capV v (lv + 1)) (bitsS (c : Int) l) hcb.1 hcb.2 hb.1 hb3
      refine ⟨Lc, Ev.step (fun f => barscanref17_Smallest.l1.eq_2 ..) ?_⟩
      simp only [hw, hr1, hcap, Option.bind_some, w1, w2]
      exact Ev.ifp j1 (Ev.ifp j2 (Ev.ifp j3 (Ev.ifp hfit (Ev.now _))))
    · rw [if_neg (by simp; omega)]
      obtain ⟨w1, w2⟩ := wr_cap (capV v (lv + 1)) (bitsS (c : Int) l) hcb.1 hcb.2 hb.1 hb3
      have w3 := wr_add1 v j5
      refine ⟨L, Ev.step (fun f => barscanref17_Smallest.l1.eq_2 ..) ?_⟩
      simp only [hw, hr1, hcap, Option.bind_some, w1, w2, w3]
      exact Ev.ifp j1 (Ev.ifp j2 (Ev.ifp j3 (Ev.ifn hfit hL)))
theorem rsmall_l0 : ∀ (d c : Nat), c + d = 3 → ∃ L, Ev (fun f => barscanref17_Smallest.l0 f l ((lv : Int) + 1) ex [1, 10, 27, 41] (c : Int)) (rOut L (smallR l (lv + 1) ex (41 - FN c) (FN c))) := by
  intro d
  induction d with
  | zero =>
    intro c hc
    have : c = 3 := by omega
    subst this
    refine ⟨[], Ev.step (fun f => barscanref17_Smallest.l0.eq_2 ..) ?_⟩
    exact Ev.ifn (by decide) (Ev.now _)
  | succ d ih =>
    intro c hc
    have hF := FN_bd c (by omega)
    obtain ⟨Lc, hLc⟩ := rbest_ev (x0 := l) (cls := (c : Int)) (by omega) (by omega) hn hx
    obtain ⟨L, hL⟩ := rsmall_l1 hn hx hlv e0 e1 c (by omega) Lc (ih (c + 1) (by omega)) (FN (c + 1) - FN c) (FN c) (by omega) (Nat.le_refl _)
    have j1 : (c : Int) < 3 := by omega
    have j2 : 0 ≤ (c : Int) := by omega
    have j3 : (c : Int) < (([1, 10, 27, 41] : List Int).length : Int) := by simp; omega
    have hr := FN_rd c (by omega)
    refine ⟨L, Ev.step (fun f => barscanref17_Smallest.l0.eq_2 ..) ?_⟩
    refine Ev.ifp j1 ?_
    refine Ev.bind (g := fun f => barscanref16_Best.f f l (c : Int)) hLc ?_
    simp only [hr]
    exact Ev.ifp trivial (Ev.ifp j2 (Ev.ifp j3 hL))
theorem rsmall_ev : ∃ L, Ev (fun f => barscanref17_Smallest.f f l ((lv : Int) + 1) ex) (rOut L (smallR l (lv + 1) ex 40 1)) := by
  obtain ⟨L, hL⟩ := rsmall_l0 hn hx hlv e0 e1 3 0 rfl
  refine ⟨L, ?_⟩
  unfold barscanref17_Smallest.f
  refine Ev.ifn (by omega) ?_
  refine Ev.step (fun f => barscanref17_Smallest.j0.eq_2 ..) ?_
  refine Ev.ifn (by simp; omega) (Ev.ifn (by omega) ?_)
  exact hL
theorem rfits_all (v : Nat) : Ev (fun f => barscanref23_Fits.f f l v ((lv : Int) + 1) ex) (fitsS l v (lv + 1) ex) := by
  obtain ⟨L, hL⟩ := rsmall_ev hn hx hlv e0 e1
  unfold barscanref23_Fits.f fitsS
  refine Ev.bind (g := fun f => barscanref17_Smallest.f f l ((lv : Int) + 1) ex) hL ?_
  cases smallR l (lv + 1) ex 40 1 with
  | none => exact Ev.ifn (by show ¬((16 : Int) = 0); decide) (Ev.now _)
  | some u => exact Ev.ifp rfl (by simpa [rOut] using Ev.now _)
end

end Go.Proofs.Ytclbjddcenkidaa.PS
namespace Go.Proofs.Ytclbjddcenkidaa.PS
open Go.RowKit Go.Proofs.YtclbjddcenkidaaW.PrintWords Go.Proofs.YtclbjddcenkidaaW.PrintLast Go.Proofs.YtclbjddcenkidaaW.PrintMore
attribute [local go_sem] max2_int min2_int max_two min_two max_three min_three max_four min_four
section
variable {l : List Int} (hn : l.length ≤ 4096) (hx : ∀ c ∈ l, 0 ≤ c ∧ c < 256) {lv : Nat} (hlv : lv < 4) (v : Nat)
include hn hx hlv
theorem rlong_l0 : ∀ (d n : Nat), n + d = l.length → Ev (fun f => barscanref23_longest.l0 f l v ((lv : Int) + 1) n) ((longS (fun i => fitsS (l.take (i + 1)) v (lv + 1) 20) d n : Nat) : Int) := by
  intro d
  induction d with
  | zero =>
    intro n hd
    refine Ev.step (fun f => barscanref23_longest.l0.eq_2 ..) ?_
    exact Ev.ifn (by omega) (Ev.now _)
  | succ d ih =>
    intro n hd
    have hfit := rfits_all (l := l.take (n + 1)) (by rw [List.length_take]; omega) (fun c hc => hx c (List.mem_of_mem_take hc)) hlv (ex := 20) (by omega) (by omega) v
    refine Ev.step (fun f => barscanref23_longest.l0.eq_2 ..) ?_
    refine Ev.ifp (by omega) ?_
    refine Ev.bind (g := fun f => barscanref23_Fits.f f (l.take (n + 1)) v ((lv : Int) + 1) 20) hfit ?_
    unfold longS
    cases h : fitsS (l.take (n + 1)) v (lv + 1) 20 with
    | true => exact Ev.ifp rfl (by rw [if_pos rfl]; exact ih (n + 1) (by omega))
    | false => exact Ev.ifn (by simp) (by rw [if_neg (by simp)]; exact Ev.now _)
theorem rlong_ev : Ev (fun f => barscanref23_longest.f f l v ((lv : Int) + 1)) ((partS v (lv + 1) l : Nat) : Int) := by
  rw [part_long v (lv + 1) l hn]
  exact rlong_l0 hn hx hlv v l.length 0 (by omega)
theorem rcuts_l0 : ∀ (kq at_ : Nat) (out : List Int), kq + out.length = 16 → at_ ≤ l.length → Ev (fun f => barscanref23_Cuts.l0 f l v ((lv : Int) + 1) out at_) (cutsR v (lv + 1) kq (l.drop at_) out) := by
  intro kq
  induction kq with
  | zero =>
    intro at_ out hk hat
    unfold cutsR
    refine Ev.step (fun f => barscanref23_Cuts.l0.eq_2 ..) ?_
    by_cases h : at_ < l.length
    · have hl : ¬ (l.drop at_).length = 0 := by rw [List.length_drop]; omega
      have i1 : (at_ : Int) < (l.length : Int) := by omega
      have i2 : 0 ≤ (at_ : Int) := by omega
      have i3 : (at_ : Int) ≤ (l.length : Int) := by omega
      have i4 : (out.length : Int) = 16 := by omega
      have hlong := rlong_ev (l := l.drop at_) (by rw [List.length_drop]; omega) (fun c hc => hx c (List.mem_of_mem_drop hc)) hlv v
      rw [if_neg hl]
      refine Ev.ifp i1 (Ev.ifp i2 (Ev.ifp i3 ?_))
      rw [Int.toNat_natCast]
      refine Ev.bind (g := fun f => barscanref23_longest.f f (l.drop at_) v ((lv : Int) + 1)) hlong ?_
      by_cases hz : ((partS v (lv + 1) (l.drop at_) : Nat) : Int) = 0
      · exact Ev.ifp hz (Ev.now _)
      · exact Ev.ifn hz (Ev.ifp i4 (Ev.now _))
    · have hl : (l.drop at_).length = 0 := by rw [List.length_drop]; omega
      rw [if_pos hl]
      exact Ev.ifn (by omega) (Ev.now _)
  | succ kq ih =>
    intro at_ out hk hat
    unfold cutsR
    refine Ev.step (fun f => barscanref23_Cuts.l0.eq_2 ..) ?_
    by_cases h : at_ < l.length
    · have hl : ¬ (l.drop at_).length = 0 := by rw [List.length_drop]; omega
      have i1 : (at_ : Int) < (l.length : Int) := by omega
      have i2 : 0 ≤ (at_ : Int) := by omega
      have i3 : (at_ : Int) ≤ (l.length : Int) := by omega
      have i4 : ¬ (out.length : Int) = 16 := by omega
      have i5 : out.length < 17592186044416 := by omega
      have hlong := rlong_ev (l := l.drop at_) (by rw [List.length_drop]; omega) (fun c hc => hx c (List.mem_of_mem_drop hc)) hlv v
      rw [if_neg hl]
      refine Ev.ifp i1 (Ev.ifp i2 (Ev.ifp i3 ?_))
      rw [Int.toNat_natCast]
      refine Ev.bind (g := fun f => barscanref23_longest.f f (l.drop at_) v ((lv : Int) + 1)) hlong ?_
      by_cases hz : partS v (lv + 1) (l.drop at_) = 0
      · rw [if_pos hz]
        exact Ev.ifp (by omega) (Ev.now _)
      · rw [if_neg hz]
        have hple : partS v (lv + 1) (l.drop at_) ≤ (l.drop at_).length := (bsearch_le _ _ _ _ (Nat.zero_le _)).2
        rw [List.length_drop] at hple
        have hnext := ih (at_ + partS v (lv + 1) (l.drop at_)) (out ++ [((partS v (lv + 1) (l.drop at_) : Nat) : Int)]) (by simp; omega) (by omega)
        rw [← List.drop_drop] at hnext
        have hw : wrap64 ((at_ : Int) + ((partS v (lv + 1) (l.drop at_) : Nat) : Int)) = ((at_ + partS v (lv + 1) (l.drop at_) : Nat) : Int) := (w64 (by omega) (by omega)).trans (by omega)
        refine Ev.ifn (fun e => hz (by exact_mod_cast e)) (Ev.ifn i4 (Ev.ifp i5 ?_))
        simp only [hw]
        exact hnext
    · have hl : (l.drop at_).length = 0 := by rw [List.length_drop]; omega
      rw [if_pos hl]
      exact Ev.ifn (by omega) (Ev.now _)
theorem rcuts_ok (h1 : 1 ≤ v) (h2 : v ≤ 40) : Ev (fun f => barscanref23_Cuts.f f l v ((lv : Int) + 1)) (cutsS l v (lv + 1)) := by
  have hfit := rfits_all hn hx hlv (ex := 0) (by omega) (by omega) v
  unfold barscanref23_Cuts.f
  refine Ev.ifn (by omega) ?_
  refine Ev.step (fun f => barscanref23_Cuts.j0.eq_2 ..) ?_
  refine Ev.ifn (by simp; omega) (Ev.ifn (by omega) ?_)
  refine Ev.step (fun f => barscanref23_Cuts.j1.eq_2 ..) ?_
  refine Ev.ifn (by simp; omega) (Ev.ifn (by omega) ?_)
  refine Ev.bind (g := fun f => barscanref23_Fits.f f l v ((lv : Int) + 1) 0) hfit ?_
  unfold cutsS
  cases h : fitsS l v (lv + 1) 0 with
  | true => exact Ev.ifp rfl (by rw [if_pos rfl]; exact Ev.now _)
  | false => exact Ev.ifn (by simp) (by rw [if_neg (by simp)]; exact rcuts_l0 hn hx hlv v 16 0 [] rfl (Nat.zero_le _))
end
theorem rcuts_ev {l : List Int} (hn : l.length ≤ 4096) (hb : byteL l = true) (a1 a2 : Int) : ∃ r, split_Cuts.f l a1 a2 = some r ∧ Ev (fun f => barscanref23_Cuts.f f l a1 a2) r := by
  unfold split_Cuts.f
  rw [if_pos ⟨hn, hb⟩]
  by_cases h1 : a1 < 1 ∨ 40 < a1
  · rw [if_pos h1]
    refine ⟨_, rfl, ?_⟩
    unfold barscanref23_Cuts.f
    by_cases h : a1 < 1
    · refine Ev.ifp h ?_
      refine Ev.step (fun f => barscanref23_Cuts.j0.eq_2 ..) ?_
      exact Ev.ifp rfl (Ev.now _)
    · refine Ev.ifn h ?_
      refine Ev.step (fun f => barscanref23_Cuts.j0.eq_2 ..) ?_
      exact Ev.ifp (by simp; omega) (Ev.now _)
  · rw [if_neg h1]
    by_cases h2 : a2 < 1 ∨ 4 < a2
    · rw [if_pos h2]
      refine ⟨_, rfl, ?_⟩
      unfold barscanref23_Cuts.f
      refine Ev.ifn (by omega) ?_
      refine Ev.step (fun f => barscanref23_Cuts.j0.eq_2 ..) ?_
      refine Ev.ifn (by simp; omega) ?_
      by_cases h : a2 < 1
      · refine Ev.ifp h ?_
        refine Ev.step (fun f => barscanref23_Cuts.j1.eq_2 ..) ?_
        exact Ev.ifp rfl (Ev.now _)
      · refine Ev.ifn h ?_
        refine Ev.step (fun f => barscanref23_Cuts.j1.eq_2 ..) ?_
        exact Ev.ifp (by simp; omega) (Ev.now _)
    · rw [if_neg h2]
      refine ⟨_, rfl, ?_⟩
      obtain ⟨lv, hlv⟩ : ∃ lv, a2.toNat = lv + 1 := ⟨a2.toNat - 1, by omega⟩
      have := rcuts_ok (l := l) hn (byteL_at hb) (lv := lv) (by omega) a1.toNat (by omega) (by omega)
      rw [show ((a1.toNat : Nat) : Int) = a1 by omega, show ((lv : Nat) : Int) + 1 = a2 by omega] at this
      rw [hlv]
      exact this

end Go.Proofs.Ytclbjddcenkidaa.PS
namespace Go.Proofs.Ytclbjddcenkidaa.PS
open Go.RowKit Go.Proofs.YtclbjddcenkidaaW.PrintWords Go.Proofs.YtclbjddcenkidaaW.PrintLast Go.Proofs.YtclbjddcenkidaaW.PrintMore
attribute [local go_sem] max2_int min2_int max_two min_two max_three min_three max_four min_four
theorem same_ev (l : List Int) (hl : l.length < 4611686018427387904) : Ev (fun k => barscanlaw23_same.f k l l) true := by
  have H : ∀ n i : Nat, i + n = l.length → Ev (fun k => barscanlaw23_same.l0 k l l (i : Int)) true := by
    intro n
    induction n with
    | zero =>
      intro i hi
      refine Ev.step (fun f => barscanlaw23_same.l0.eq_2 ..) ?_
      exact Ev.ifn (by omega) (Ev.now _)
    | succ n ih =>
      intro i hi
      have i1 : (i : Int) < (l.length : Int) := by omega
      have i2 : 0 ≤ (i : Int) := by omega
      have hnext := ih (i + 1) (by omega)
      have hw : wrap64 ((i : Int) + 1) = ((i + 1 : Nat) : Int) := by unfold wrap64; omega
      refine Ev.step (fun f => barscanlaw23_same.l0.eq_2 ..) ?_
      simp only [hw]
      exact Ev.ifp i1 (Ev.ifp i2 (Ev.ifp i1 (Ev.ifp trivial hnext)))
  unfold barscanlaw23_same.f
  exact Ev.ifp rfl (H l.length 0 (by omega))
theorem cutsR_len (v lev : Nat) : ∀ d rest (out : List Int), d + out.length = 16 → (cutsR v lev d rest out).1.length ≤ 16
  | 0, rest, out, h => by
    unfold cutsR
    split
    · show out.length ≤ 16; omega
    · simp
  | d + 1, rest, out, h => by
    unfold cutsR
    split
    · show out.length ≤ 16; omega
    · split
      · simp
      · exact cutsR_len v lev d _ _ (by simp; omega)
theorem cuts_len {l : List Int} {a1 a2 : Int} {r : List Int × Int} (h : split_Cuts.f l a1 a2 = some r) : r.1.length ≤ 16 := by
  unfold split_Cuts.f at h
  split at h
  · split at h
    · cases h; simp
    · split at h
      · cases h; simp
      · cases h
        unfold cutsS
        split
        · simp
        · exact cutsR_len _ _ 16 l [] rfl
  · cases h
theorem byteL_of {l : List Int} (h : ∀ c ∈ l, 0 ≤ c ∧ c < 256) : byteL l = true := by
  unfold byteL
  rw [List.all_eq_true]
  intro c hc
  have := h c hc
  simpa using this

end Go.Proofs.Ytclbjddcenkidaa.PS
namespace Go.Proofs.Ytclbjddcenkidaa.Pure
open Go.RowKit Go.Proofs.Ytclbjddcenkidaa.PS Go.Proofs.YtclbjddcenkidaaW.PrintWords Go.Proofs.YtclbjddcenkidaaW.PrintLast
theorem SplitCuts : barscanlaw23_SplitCuts.Pure := by
  intro l0 a1 a2 h1 h2 hw _ _
  have hb : ∀ c ∈ l0, 0 ≤ c ∧ c < 256 := fun c hc => wf_byte (hw c hc)
  suffices H : Ev (fun k => barscanlaw23_SplitCuts.f k l0 a1 a2) true from H.rounds
  unfold barscanlaw23_SplitCuts.f
  by_cases hl : (l0.length : Int) > 120
  · exact Ev.ifp hl (Ev.now _)
  · refine Ev.ifn hl ?_
    obtain ⟨r, hr, hE⟩ := rcuts_ev (l := l0) (by omega) (byteL_of hb) a1 a2
    have hlen := cuts_len hr
    rw [hr]
    simp only [Option.bind_some]
    refine Ev.bind (g := fun f => barscanref23_Cuts.f f l0 a1 a2) hE ?_
    refine Ev.ifp rfl ?_
    refine Ev.bind (g := fun f => barscanlaw23_same.f f r.1 r.1) (same_ev r.1 (by omega)) ?_
    exact Ev.ifp rfl (Ev.now _)
end Go.Proofs.Ytclbjddcenkidaa.Pure
