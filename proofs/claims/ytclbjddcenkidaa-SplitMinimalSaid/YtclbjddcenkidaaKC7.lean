-- Texts of this claim, merged by the prover's program (wip/tools/trim.py); theorems that no proof uses are left out.
import Derived.Test.YtclbjddcenkidaaKC6
import Derived.Test.YtclbjddcenkidaaKC2
import Derived.Test.YtclbjddcenkidaaKC4
set_option linter.unusedVariables false
set_option linter.unusedSimpArgs false
namespace Go.Proofs.Ytclbjddcenkidaa.PS
open Go.RowKit Go.Proofs.YtclbjddcenkidaaW.PrintWords Go.Proofs.YtclbjddcenkidaaW.PrintLast Go.Proofs.YtclbjddcenkidaaW.PrintMore
attribute [local go_sem] max2_int min2_int max_two min_two max_three min_three max_four min_four
theorem e98_ok {n : Nat} {p : S106} (h : Okp n p) (hn : 1 ≤ n) : e98 p = to98 p := by
  unfold e98
  rw [if_neg (by have := h.l0 hn; omega)]
theorem rd98 (P : List S98) (i : Nat) : rd_T98 P (i : Int) = P.getD i z98 := by unfold rd_T98; rw [Int.toNat_natCast]
theorem getD_drop98 {P : List S98} {i : Nat} {p : S98} {rest : List S98} (h : P.drop i = p :: rest) : P.getD i z98 = p := by
  have : (P.drop i)[0]? = some p := by rw [h]; rfl
  rw [List.getElem?_drop] at this
  simp at this
  rw [List.getD_eq_getElem?_getD, this]
  rfl
section
variable {x0 : List Int} {cls : Int} (h0 : 0 ≤ cls) (h2 : cls ≤ 2) (hn : x0.length ≤ 4096) (hx : ∀ c ∈ x0, 0 ≤ c ∧ c < 256)
include h0 h2 hn hx
set_option maxHeartbeats 1000000 in
theorem first_l1 (m : Int) (hm : m = 1 ∨ m = 2 ∨ m = 4) (at_ j : Nat) (hat : at_ < x0.length) (P : List S98) (hP : P.length = x0.length + 1) (r : Int × Int × Int × Int) : ∀ (s : List Int) (k : Nat) (cur : S106) (rest : List S106),
    1 ≤ k → x0.drop (at_ + k - 1) = s → s.length + k = x0.length - at_ + 1 → P.drop (at_ + k) = rest.map to98 → RestOk (x0.length - at_ - k) rest → (Okp (x0.length - at_) cur ∨ cur = initS) →
    Ev (fun f => barscanref16_first.l0 f x0 at_ cls P [1, 2, 4] (wrap64 (j + 1)) (e98 (innerS cls m s rest k cur)).f0 (e98 (innerS cls m s rest k cur)).f1 (e98 (innerS cls m s rest k cur)).f2 (e98 (innerS cls m s rest k cur)).f3) r →
    Ev (fun f => barscanref16_first.l1 f x0 at_ cls P [1, 2, 4] j m k (e98 cur).f0 (e98 cur).f1 (e98 cur).f2 (e98 cur).f3) r := by
  intro s
  induction s with
  | nil =>
    intro k cur rest hk hs hl hr hok hcur hE
    unfold innerS at hE
    have i1 : ¬ ((at_ : Int) + k ≤ (x0.length : Int)) := by simp at hl; omega
    obtain ⟨hw1, hw2⟩ := wr_at at_ k (by simp at hl; omega) hk
    refine Ev.step (fun f => barscanref16_first.l1.eq_2 ..) ?_
    simp only [hw1]
    refine Ev.ifn i1 ?_
    refine Ev.step (fun f => barscanref16_first.j2.eq_2 ..) ?_
    exact Ev.ifn (by simp) hE
  | cons c s ih =>
    intro k cur rest hk hs hl hr hok hcur hE
    have hlen : k ≤ x0.length - at_ := by simp at hl; omega
    cases rest with
    | nil =>
      have := congrArg List.length hr
      simp at this
      omega
    | cons p rest =>
      have hP1 : P.getD (at_ + k) z98 = to98 p := getD_drop98 hr
      have hc : c ∈ x0 := List.mem_of_mem_drop (i := at_ + k - 1) (by rw [hs]; simp)
      have hcb := hx c hc
      have hrd : rd x0 ((at_ : Int) + k - 1) = c := by
        have := rd_drop hs
        rwa [show ((at_ + k - 1 : Nat) : Int) = (at_ : Int) + k - 1 by omega] at this
      have j1 : 1 ≤ x0.length - at_ := by omega
      have j2 : x0.length - at_ ≤ 4096 := by omega
      have j3 : at_ + k ≤ 10000 := by omega
      have j4 : k ≤ 5000 := by omega
      have j5 : x0.length - at_ - k ≤ 4096 := by omega
      have i1 : (at_ : Int) + k ≤ (x0.length : Int) := by omega
      have i2 : 0 ≤ (at_ : Int) + k - 1 := by omega
      have i3 : (at_ : Int) + k - 1 < (x0.length : Int) := by omega
      have i4 : 0 ≤ (at_ : Int) + k := by omega
      have i5 : (at_ : Int) + k < (P.length : Int) := by omega
      have i6 : s.length + (k + 1) = x0.length - at_ + 1 := by simp at hl; omega
      have i7 : k ≤ 4096 := by omega
      have hs' : x0.drop (at_ + (k + 1) - 1) = s := by
        have := drop_next hs
        rwa [show at_ + k - 1 + 1 = at_ + (k + 1) - 1 by omega] at this
      have hr' : P.drop (at_ + (k + 1)) = rest.map to98 := by
        have := drop_next hr
        rwa [show at_ + k + 1 = at_ + (k + 1) by omega] at this
      have hok' : RestOk (x0.length - at_ - (k + 1)) rest := by
        by_cases e : x0.length - at_ = k
        · intro i q hq
          have := (hok (i + 1) q (by simpa using hq)).1
          omega
        · have e8 : x0.length - at_ - k = x0.length - at_ - (k + 1) + 1 := by omega
          rw [e8] at hok
          exact hok.tail
      have j6 : k ≤ mostN m cls → (k : Int) ≤ ((mostN m cls : Nat) : Int) := by omega
      have j7 : ¬ k ≤ mostN m cls → ¬ (k : Int) ≤ ((mostN m cls : Nat) : Int) := by omega
      have hpok := (hok 0 p rfl).2
      have hcl := cbN_le m cls h0 h2
      have hdl := dbN_le m k
      have hcand : Okp (x0.length - at_) (candS m cls k p) := cand_ok h0 h2 hk hlen hpok
      have hdl2 : dbN m k ≤ 40000 := by omega
      have jc : ∀ q : S106, Okp (x0.length - at_) q → ¬ q.f2 = 0 := fun q hq => by have := hq.l0 j1; omega
      have e6 : rd_T98 P ((at_ : Int) + k) = to98 p := by rw [show (at_ : Int) + k = ((at_ + k : Nat) : Int) by omega, rd98, hP1]
      obtain ⟨hw1, hw2⟩ := wr_at at_ k j3 hk
      obtain ⟨e1, e2, e3, e4⟩ := wr_cand (cbN m cls) (dbN m k) (x0.length - at_ - k) p.f0 p.f1 hcl.2 hdl2 j5 hpok.b0 hpok.b1 hpok.s0 hpok.s1
      have e5 := wr_add1 k j4
      unfold innerS at hE
      refine Ev.step (fun f => barscanref16_first.l1.eq_2 ..) ?_
      simp only [hw1]
      refine Ev.ifp i1 ?_
      refine Ev.bind (g := fun f => barscanref16_most.f f m cls) (rmost_ev m cls hm h0 h2) ?_
      by_cases hmo : k ≤ mostN m cls
      · refine Ev.ifp (j6 hmo) ?_
        simp only [hw2, hrd]
        refine Ev.ifp i2 (Ev.ifp i3 ?_)
        refine Ev.bind (g := fun f => barscanref16_Fits.f f m c) (rfits_ev m c hm hcb.1 hcb.2) ?_
        refine Ev.step (fun f => barscanref16_first.j2.eq_2 ..) ?_
        cases hb : fitS m c with
        | false =>
          refine Ev.ifn (by simp) ?_
          rw [if_neg (by simp [hb])] at hE
          exact hE
        | true =>
          refine Ev.ifp rfl ?_
          rw [if_pos ⟨hmo, hb⟩] at hE
          have hec := e98_ok hcand j1
          refine Ev.bind (g := fun f => barscanref16_size.f f m cls k) (rsize_ev m cls k hm h0 h2 i7) ?_
          simp only [hw1, e6]
          refine Ev.ifp i4 (Ev.ifp i5 ?_)
          simp only [to98, e3, e4, e5]
          have hstep := ih (k + 1) (candS m cls k p) rest (Nat.succ_pos k) hs' i6 hr' hok' (.inl hcand)
          rw [hec] at hstep
          simp only [to98, candS] at hstep
          rcases hcur with hco | hci
          · have hecu := e98_ok hco j1
            rw [hecu]
            simp only [to98]
            refine Ev.ifn (jc cur hco) ?_
            have hbe := rbetter_eq (candS m cls k p) cur
            simp only [candS] at hbe
            rw [hbe]
            simp only [Option.bind_some]
            cases hbt : betS (candS m cls k p) cur with
            | false =>
              have hbt' := hbt
              simp only [candS] at hbt'
              rw [hbt']
              refine Ev.ifn (by simp) ?_
              rw [hbt, if_neg (by simp)] at hE
              have := ih (k + 1) cur rest (Nat.succ_pos k) hs' i6 hr' hok' (.inl hco) hE
              rw [hecu] at this
              exact this
            | true =>
              have hbt' := hbt
              simp only [candS] at hbt'
              rw [hbt']
              refine Ev.ifp rfl ?_
              rw [hbt, if_pos rfl] at hE
              exact hstep hE
          · subst hci
            refine Ev.ifp rfl ?_
            rw [betS_init hcand j2, if_pos rfl] at hE
            exact hstep hE
      · refine Ev.ifn (j7 hmo) ?_
        rw [if_neg (fun h => hmo h.1)] at hE
        refine Ev.step (fun f => barscanref16_first.j2.eq_2 ..) ?_
        exact Ev.ifn (by simp) hE

end
end Go.Proofs.Ytclbjddcenkidaa.PS
namespace Go.Proofs.Ytclbjddcenkidaa.PS
open Go.RowKit Go.Proofs.YtclbjddcenkidaaW.PrintWords Go.Proofs.YtclbjddcenkidaaW.PrintLast Go.Proofs.YtclbjddcenkidaaW.PrintMore
attribute [local go_sem] max2_int min2_int max_two min_two max_three min_three max_four min_four
section
variable {x0 : List Int} {cls : Int} (h0 : 0 ≤ cls) (h2 : cls ≤ 2) (hn : x0.length ≤ 4096) (hx : ∀ c ∈ x0, 0 ≤ c ∧ c < 256)
include h0 h2 hn hx
theorem rfirst_ev (at_ : Nat) (hat : at_ < x0.length) (P : List S98) (hP : P.length = x0.length + 1) (rest : List S106) (hr : P.drop (at_ + 1) = rest.map to98) (hok : RestOk (x0.length - at_ - 1) rest) :
    Ev (fun f => barscanref16_first.f f x0 at_ cls P) ((e98 (bestS cls (x0.drop at_) rest)).f0, (e98 (bestS cls (x0.drop at_) rest)).f1, (e98 (bestS cls (x0.drop at_) rest)).f2, (e98 (bestS cls (x0.drop at_) rest)).f3) := by
  have hs : x0.drop (at_ + 1 - 1) = x0.drop at_ := by rw [Nat.add_sub_cancel]
  have hl : (x0.drop at_).length + 1 = x0.length - at_ + 1 := by rw [List.length_drop]
  have hI1 : Okp (x0.length - at_) (innerS cls 1 (x0.drop at_) rest 1 initS) ∨ innerS cls 1 (x0.drop at_) rest 1 initS = initS := innerS_ok h0 h2 (by omega) _ _ 1 _ (Nat.le_refl _) (by omega) hok (.inr rfl)
  have hI2 := innerS_ok (m := 2) h0 h2 (n := x0.length - at_) (by omega) (x0.drop at_) rest 1 _ (Nat.le_refl _) (by omega) hok hI1
  have w0 : wrap64 (((0 : Nat) : Int) + 1) = ((1 : Nat) : Int) := by decide +kernel
  have w1 : wrap64 (((1 : Nat) : Int) + 1) = ((2 : Nat) : Int) := by decide +kernel
  have w2 : wrap64 (((2 : Nat) : Int) + 1) = ((3 : Nat) : Int) := by decide +kernel
  obtain ⟨c1, hc1⟩ : ∃ c1, c1 = innerS cls 1 (x0.drop at_) rest 1 initS := ⟨_, rfl⟩
  obtain ⟨c2, hc2⟩ : ∃ c2, c2 = innerS cls 2 (x0.drop at_) rest 1 c1 := ⟨_, rfl⟩
  obtain ⟨c3, hc3⟩ : ∃ c3, c3 = innerS cls 4 (x0.drop at_) rest 1 c2 := ⟨_, rfl⟩
  have hb : bestS cls (x0.drop at_) rest = c3 := by rw [hc3, hc2, hc1]; rfl
  rw [hb]
  rw [← hc1] at hI1 hI2
  rw [← hc2] at hI2
  obtain ⟨R, hR⟩ : ∃ R, R = ((e98 c3).f0, (e98 c3).f1, (e98 c3).f2, (e98 c3).f3) := ⟨_, rfl⟩
  rw [← hR]
  have hend : Ev (fun f => barscanref16_first.l0 f x0 at_ cls P [1, 2, 4] (((3 : Nat) : Int)) (e98 c3).f0 (e98 c3).f1 (e98 c3).f2 (e98 c3).f3) R := by
    refine Ev.step (fun f => barscanref16_first.l0.eq_2 ..) ?_
    rw [hR]
    exact Ev.ifn (by decide) (Ev.now _)
  have h3 := first_l1 h0 h2 hn hx 4 (.inr (.inr rfl)) at_ 2 hat P hP R (x0.drop at_) 1 c2 rest (Nat.le_refl _) hs hl hr hok hI2 (by rw [w2, ← hc3]; exact hend)
  have hs2 : Ev (fun f => barscanref16_first.l0 f x0 at_ cls P [1, 2, 4] (((2 : Nat) : Int)) (e98 c2).f0 (e98 c2).f1 (e98 c2).f2 (e98 c2).f3) R := by
    refine Ev.step (fun f => barscanref16_first.l0.eq_2 ..) ?_
    exact Ev.ifp (by decide) (Ev.ifp (by decide) h3)
  have h4 := first_l1 h0 h2 hn hx 2 (.inr (.inl rfl)) at_ 1 hat P hP R (x0.drop at_) 1 c1 rest (Nat.le_refl _) hs hl hr hok hI1 (by rw [w1, ← hc2]; exact hs2)
  have hs1 : Ev (fun f => barscanref16_first.l0 f x0 at_ cls P [1, 2, 4] (((1 : Nat) : Int)) (e98 c1).f0 (e98 c1).f1 (e98 c1).f2 (e98 c1).f3) R := by
    refine Ev.step (fun f => barscanref16_first.l0.eq_2 ..) ?_
    exact Ev.ifp (by decide) (Ev.ifp (by decide) h4)
  have h5 := first_l1 h0 h2 hn hx 1 (.inl rfl) at_ 0 hat P hP R (x0.drop at_) 1 initS rest (Nat.le_refl _) hs hl hr hok (.inr rfl) (by rw [w0, ← hc1]; exact hs1)
  have hs0 : Ev (fun f => barscanref16_first.l0 f x0 at_ cls P [1, 2, 4] (((0 : Nat) : Int)) 0 0 0 0) R := by
    refine Ev.step (fun f => barscanref16_first.l0.eq_2 ..) ?_
    exact Ev.ifp (by decide) (Ev.ifp (by decide) h5)
  exact hs0
end

end Go.Proofs.Ytclbjddcenkidaa.PS
namespace Go.Proofs.Ytclbjddcenkidaa.PS
open Go.RowKit Go.Proofs.YtclbjddcenkidaaW.PrintWords Go.Proofs.YtclbjddcenkidaaW.PrintLast Go.Proofs.YtclbjddcenkidaaW.PrintMore
attribute [local go_sem] max2_int min2_int max_two min_two max_three min_three max_four min_four
section
variable {x0 : List Int} {cls : Int} (h0 : 0 ≤ cls) (h2 : cls ≤ 2) (hn : x0.length ≤ 4096) (hx : ∀ c ∈ x0, 0 ≤ c ∧ c < 256)
include h0 h2 hn hx
theorem plan_at (at_ : Nat) (hat : at_ ≤ x0.length) : rd_T98 ((planS cls x0).map to98) (at_ : Int) = to98 ((planS cls (x0.drop at_)).headD z106) := by
  have _u0 := h0
  have _u1 := h2
  have _u2 := hn
  have _u3 := hx
  have hd := planS_drop cls x0 at_ hat
  have hl := planS_len cls (x0.drop at_)
  rw [rd98, List.getD_eq_getElem?_getD, List.getElem?_map]
  cases hp : planS cls (x0.drop at_) with
  | nil => rw [hp] at hl; simp at hl
  | cons p r =>
    have : ((planS cls x0).drop at_)[0]? = some p := by rw [hd, hp]; rfl
    rw [List.getElem?_drop] at this
    simp at this
    rw [this]
    rfl
theorem rbest_l2 : ∀ (n at_ : Nat) (out : List S54), at_ + n = x0.length → out.length ≤ at_ → ∃ L, Ev (fun f => barscanref16_Best.l2 f x0 ((planS cls x0).map to98) out at_) (L, bitsS cls x0, 0) := by
  intro n
  induction n using Nat.strongRecOn with
  | _ n ih =>
    intro at_ out hat hout
    have hPl : (((planS cls x0).map to98).length : Int) = (x0.length : Int) + 1 := by rw [List.length_map, planS_len]; omega
    by_cases hlt : at_ < x0.length
    · have hpa := plan_at h0 h2 hn hx at_ (by omega)
      have hok := planS_ok h0 h2 (x0.drop at_) (by rw [List.length_drop]; omega)
      obtain ⟨p, hp⟩ : ∃ p, p = (planS cls (x0.drop at_)).headD z106 := ⟨_, rfl⟩
      have hpo : Okp (x0.length - at_) p := by
        have hl := planS_len cls (x0.drop at_)
        cases hq : planS cls (x0.drop at_) with
        | nil => rw [hq] at hl; simp at hl
        | cons p' r =>
          have := (hok 0 p' (by rw [hq]; rfl)).2
          rw [hp, hq]
          simpa using this
      rw [← hp] at hpa
      obtain ⟨d, hd⟩ : ∃ d : Nat, p.f2 = (d : Int) := ⟨p.f2.toNat, by have := hpo.l0 (by omega); omega⟩
      have hd1 : 1 ≤ d := by have := hpo.l0 (by omega); omega
      have hd2 : at_ + d ≤ x0.length := by have := hpo.l1; omega
      have i1 : (at_ : Int) < (x0.length : Int) := by omega
      have i2 : 0 ≤ (at_ : Int) := by omega
      have i3 : (at_ : Int) < (((planS cls x0).map to98).length : Int) := by omega
      have i4 : (at_ : Int) ≤ ((at_ + d : Nat) : Int) := by omega
      have i5 : ((at_ + d : Nat) : Int) ≤ (x0.length : Int) := by omega
      have i6 : ∀ l : List Int, l.length ≤ x0.length → ([] : List Int).length + l.length < 140737488355328 := fun l hl => by simp; omega
      have i7 : out.length < 4398046511104 := by omega
      have hw : wrap64 ((at_ : Int) + (d : Int)) = ((at_ + d : Nat) : Int) := (w64 (by omega) (by omega)).trans (by omega)
      obtain ⟨L, hL⟩ := ih (x0.length - (at_ + d)) (by omega) (at_ + d) (out ++ [(⟨p.f3, ([] : List Int) ++ (x0.take ((((at_ + d : Nat) : Int)).toNat)).drop ((at_ : Int)).toNat⟩ : S54)]) (by omega) (by simp; omega)
      refine ⟨L, Ev.step (fun f => barscanref16_Best.l2.eq_2 ..) ?_⟩
      simp only [hpa, to98, hd, hw]
      exact Ev.ifp i1 (Ev.ifp i2 (Ev.ifp i3 (Ev.ifp i4 (Ev.ifp i5 (Ev.ifp (i6 _ (by rw [List.length_drop, List.length_take]; omega)) (Ev.ifp i7 hL))))))
    · have e : at_ = x0.length := by omega
      have i1 : ¬ (at_ : Int) < (x0.length : Int) := by omega
      have i2 : 0 < (((planS cls x0).map to98).length : Int) := by omega
      have hpa := plan_at h0 h2 hn hx 0 (by omega)
      refine ⟨out, Ev.step (fun f => barscanref16_Best.l2.eq_2 ..) ?_⟩
      refine Ev.ifn i1 (Ev.ifp i2 ?_)
      rw [show ((0 : Nat) : Int) = 0 from rfl] at hpa
      rw [hpa]
      exact Ev.now _
theorem rbest_l1 : ∀ (j : Nat) (P : List S98), j ≤ x0.length → P.length = x0.length + 1 → P.drop j = (planS cls (x0.drop j)).map to98 → ∃ L, Ev (fun f => barscanref16_Best.l1 f x0 cls P ((j : Int) - 1)) (L, bitsS cls x0, 0) := by
  intro j
  induction j with
  | zero =>
    intro P _ hP hd
    obtain ⟨L, hL⟩ := rbest_l2 h0 h2 hn hx x0.length 0 [] (by omega) (by simp)
    refine ⟨L, Ev.step (fun f => barscanref16_Best.l1.eq_2 ..) ?_⟩
    refine Ev.ifn (by omega) ?_
    rw [List.drop_zero, List.drop_zero] at hd
    rw [hd]
    exact hL
  | succ j ih =>
    intro P hj hP hd
    have hok := planS_ok h0 h2 (x0.drop (j + 1)) (by rw [List.length_drop]; omega)
    rw [List.length_drop] at hok
    have hf := rfirst_ev h0 h2 hn hx j (by omega) P hP (planS cls (x0.drop (j + 1))) hd (by rw [show x0.length - j - 1 = x0.length - (j + 1) by omega]; exact hok)
    have hdr : x0.drop j = x0[j] :: x0.drop (j + 1) := List.drop_eq_getElem_cons (by omega)
    have hpl : planS cls (x0.drop j) = bestS cls (x0.drop j) (planS cls (x0.drop (j + 1))) :: planS cls (x0.drop (j + 1)) := by rw [hdr]; rfl
    have hokj := planS_ok h0 h2 (x0.drop j) (by rw [List.length_drop]; omega)
    rw [List.length_drop] at hokj
    have hob := (hokj 0 _ (by rw [hpl]; rfl)).2
    rw [e98_ok hob (by omega)] at hf
    obtain ⟨b, hb⟩ : ∃ b, b = bestS cls (x0.drop j) (planS cls (x0.drop (j + 1))) := ⟨_, rfl⟩
    rw [← hb] at hf hpl
    have i1 : ((j : Nat) : Int) ≥ 0 := by omega
    have i2 : (j : Int) < (P.length : Int) := by omega
    have hdn : (P.set j (to98 b)).drop j = (planS cls (x0.drop j)).map to98 := by
      rw [hpl, List.map_cons, ← hd, List.drop_eq_getElem_cons (by rw [List.length_set]; omega), List.getElem_set_self, List.drop_set_of_lt (by omega)]
    obtain ⟨L, hL⟩ := ih (P.set j (to98 b)) (by omega) (by rw [List.length_set]; exact hP) hdn
    refine ⟨L, ?_⟩
    rw [show (((j + 1 : Nat) : Int) - 1) = (j : Int) by omega]
    refine Ev.step (fun f => barscanref16_Best.l1.eq_2 ..) ?_
    refine Ev.ifp i1 ?_
    refine Ev.bind (g := fun f => barscanref16_first.f f x0 j cls P) hf ?_
    have hw : wrap64 ((j : Int) - 1) = (j : Int) - 1 := w64 (by omega) (by omega)
    simp only [hw, Int.toNat_natCast]
    exact Ev.ifp i1 (Ev.ifp i2 hL)
theorem rbest_l0 : ∀ (n i : Nat), i + n = x0.length + 1 → ∃ L, Ev (fun f => barscanref16_Best.l0 f x0 cls (List.replicate i (⟨0, 0, 0, 0⟩ : S98)) (i : Int)) (L, bitsS cls x0, 0) := by
  intro n
  induction n with
  | zero =>
    intro i hi
    have hi' : i = x0.length + 1 := by omega
    obtain ⟨L, hL⟩ := rbest_l1 h0 h2 hn hx x0.length (List.replicate i (⟨0, 0, 0, 0⟩ : S98)) (Nat.le_refl _) (by simp [hi']) (by rw [hi', List.drop_length]; simp [planS, z106, to98])
    have hw : wrap64 ((x0.length : Int) - 1) = (x0.length : Int) - 1 := w64 (by omega) (by omega)
    refine ⟨L, Ev.step (fun f => barscanref16_Best.l0.eq_2 ..) ?_⟩
    refine Ev.ifn (by omega) ?_
    simp only [hw]
    exact hL
  | succ n ih =>
    intro i hi
    obtain ⟨L, hL⟩ := ih (i + 1) (by omega)
    have i1 : (i : Int) ≤ (x0.length : Int) := by omega
    have i2 : (List.replicate i (⟨0, 0, 0, 0⟩ : S98)).length < 4398046511104 := by simp; omega
    have hw := wr_add1 i (by omega)
    refine ⟨L, Ev.step (fun f => barscanref16_Best.l0.eq_2 ..) ?_⟩
    refine Ev.ifp i1 (Ev.ifp i2 ?_)
    simp only [hw]
    rw [show List.replicate i (⟨0, 0, 0, 0⟩ : S98) ++ [(⟨0, 0, 0, 0⟩ : S98)] = List.replicate (i + 1) (⟨0, 0, 0, 0⟩ : S98) from (List.replicate_succ' ..).symm]
    exact hL
theorem rbest_ev : ∃ L, Ev (fun f => barscanref16_Best.f f x0 cls) (L, bitsS cls x0, 0) := by
  obtain ⟨L, hL⟩ := rbest_l0 h0 h2 hn hx (x0.length + 1) 0 (by omega)
  refine ⟨L, ?_⟩
  unfold barscanref16_Best.f
  refine Ev.ifn (by omega) ?_
  refine Ev.step (fun f => barscanref16_Best.j0.eq_2 ..) ?_
  refine Ev.ifn (by simp; omega) (Ev.ifn (by omega) ?_)
  exact hL
end

end Go.Proofs.Ytclbjddcenkidaa.PS
namespace Go.Proofs.Ytclbjddcenkidaa.PS
open Go.RowKit Go.Proofs.YtclbjddcenkidaaW.PrintWords Go.Proofs.YtclbjddcenkidaaW.PrintLast Go.Proofs.YtclbjddcenkidaaW.PrintMore
attribute [local go_sem] max2_int min2_int max_two min_two max_three min_three max_four min_four
theorem rcap_tab : ∀ v, v < 40 → ∀ l, l < 4 → barscanref17_Capacity.f ((v : Nat) + 1 : Int) ((l : Nat) + 1 : Int) = some (capV (v + 1) (l + 1), 0) := by decide +kernel
def FN : Nat → Nat | 0 => 1 | 1 => 10 | 2 => 27 | _ => 41
theorem FN_rd (c : Nat) (h : c ≤ 3) : rd [1, 10, 27, 41] (c : Int) = (FN c : Int) := by
  rcases (by omega : c = 0 ∨ c = 1 ∨ c = 2 ∨ c = 3) with rfl | rfl | rfl | rfl <;> rfl
theorem cls_FN (c v : Nat) (h : c < 3) (h1 : FN c ≤ v) (h2 : v < FN (c + 1)) : clsOf v = (c : Int) := by
  unfold clsOf
  rcases (by omega : c = 0 ∨ c = 1 ∨ c = 2) with rfl | rfl | rfl <;> simp only [FN] at h1 h2
  · rw [if_pos (by omega)]; rfl
  · rw [if_neg (by omega), if_pos (by omega)]; rfl
  · rw [if_neg (by omega), if_neg (by omega)]; rfl
theorem FN_bd (c : Nat) (h : c < 3) : 1 ≤ FN c ∧ FN c < FN (c + 1) ∧ FN (c + 1) ≤ 41 := by
  rcases (by omega : c = 0 ∨ c = 1 ∨ c = 2) with rfl | rfl | rfl <;> decide
def rOut (L : List S54) : Option Nat → Int × List S54 × Int
  | some v => (v, L, 0)
  | none => (0, [], 16)
section
variable {l : List Int} (hn : l.length ≤ 4096) (hx : ∀ c ∈ l, 0 ≤ c ∧ c < 256) {lv : Nat} (hlv : lv < 4) {ex : Int} (e0 : 0 ≤ ex) (e1 : ex ≤ 1000)
include hn hx hlv e0 e1
theorem rsmall_l1 (c : Nat) (hc : c < 3) (Lc : List S54) (hnext : ∃ L, Ev (fun f => barscanref17_Smallest.l0 f l ((lv : Int) + 1) ex [1, 10, 27, 41] ((c + 1 : Nat) : Int)) (rOut L (smallR l (lv + 1) ex (41 - FN (c + 1)) (FN (c + 1))))) :
    ∀ (n v : Nat), v + n = FN (c + 1) → FN c ≤ v → ∃ L, Ev (fun f => barscanref17_Smallest.l1 f l ((lv : Int) + 1) ex [1, 10, 27, 41] c Lc (bitsS (c : Int) l) v) (rOut L (smallR l (lv + 1) ex (41 - v) v)) := by
  have _u0 := hx
  have _u1 := e0
  have _u2 := e1
  intro n
  have hF := FN_bd c hc
  have hw := wr_add1 c (by omega)
  have j1 : 0 ≤ ((c + 1 : Nat) : Int) := by omega
  have j2 : ((c + 1 : Nat) : Int) < (([1, 10, 27, 41] : List Int).length : Int) := by simp; omega
  have hr1 := FN_rd (c + 1) (by omega)
  induction n with
  | zero =>
    intro v hv _
    have hv' : v = FN (c + 1) := by omega
    subst hv'
    obtain ⟨L, hL⟩ := hnext
    refine ⟨L, Ev.step (fun f => barscanref17_Smallest.l1.eq_2 ..) ?_⟩
    simp only [hw, hr1]
    exact Ev.ifp j1 (Ev.ifp j2 (Ev.ifn (Int.lt_irrefl _) hL))
  | succ n ih =>
    intro v hv hv1
    have hv2 : v < FN (c + 1) := by omega
    have hcl := cls_FN c v hc hv1 hv2
    have hvb : 1 ≤ v ∧ v ≤ 40 := by omega
    have hcap := rcap_tab (v - 1) (by omega) lv hlv
    have hcb := capV_bd (v - 1) (by omega) lv hlv
    rw [show v - 1 + 1 = v by omega] at hcap hcb
    rw [show (((v - 1 : Nat) : Int) + 1) = (v : Int) by omega] at hcap
    have hb := bitsS_bd (cls := (c : Int)) (by omega) (by omega) l hn
    have hb3 : bitsS (c : Int) l ≤ 200000 := by omega
    obtain ⟨L, hL⟩ := ih (v + 1) (by omega) (by omega)
    have j3 : (v : Int) < ((FN (c + 1) : Nat) : Int) := by omega
    have j4 : 41 - v = (41 - (v + 1)) + 1 := by omega
    have j5 : v ≤ 5000 := by omega
    rw [j4, smallR]
    unfold fitV
    rw [hcl]
    by_cases hfit : ex ≤ 8 * capV v (lv + 1) - bitsS (c : Int) l
    · rw [if_pos (by simp; omega)]
      obtain ⟨w1, w2⟩ := wr_cap (capV v (lv + 1)) (bitsS (c : Int) l) hcb.1 hcb.2 hb.1 hb3
      refine ⟨Lc, Ev.step (fun f => barscanref17_Smallest.l1.eq_2 ..) ?_⟩
      simp only [hw, hr1, hcap, Option.bind_some, w1, w2]
      exact Ev.ifp j1 (Ev.ifp j2 (Ev.ifp j3 (Ev.ifp hfit (Ev.now _))))
    · rw [if_neg (by simp; omega)]
      obtain ⟨w1, w2⟩ := wr_cap (capV v (lv + 1)) (bitsS (c : Int) l) hcb.1 hcb.2 hb.1 hb3
      have w3 := wr_add1 v j5
      refine ⟨L, Ev.step (fun f => barscanref17_Smallest.l1.eq_2 ..) ?_⟩
      simp only [hw, hr1, hcap, Option.bind_some, w1, w2, w3]
      exact Ev.ifp j1 (Ev.ifp j2 (Ev.ifp j3 (Ev.ifn hfit hL)))
theorem rsmall_l0 : ∀ (d c : Nat), c + d = 3 → ∃ L, Ev (fun f => barscanref17_Smallest.l0 f l ((lv : Int) + 1) ex [1, 10, 27, 41] (c : Int)) (rOut L (smallR l (lv + 1) ex (41 - FN c) (FN c))) := by
  intro d
  induction d with
  | zero =>
    intro c hc
    have : c = 3 := by omega
    subst this
    refine ⟨[], Ev.step (fun f => barscanref17_Smallest.l0.eq_2 ..) ?_⟩
    exact Ev.ifn (by decide) (Ev.now _)
  | succ d ih =>
    intro c hc
    have hF := FN_bd c (by omega)
    obtain ⟨Lc, hLc⟩ := rbest_ev (x0 := l) (cls := (c : Int)) (by omega) (by omega) hn hx
    obtain ⟨L, hL⟩ := rsmall_l1 hn hx hlv e0 e1 c (by omega) Lc (ih (c + 1) (by omega)) (FN (c + 1) - FN c) (FN c) (by omega) (Nat.le_refl _)
    have j1 : (c : Int) < 3 := by omega
    have j2 : 0 ≤ (c : Int) := by omega
    have j3 : (c : Int) < (([1, 10, 27, 41] : List Int).length : Int) := by simp; omega
    have hr := FN_rd c (by omega)
    refine ⟨L, Ev.step (fun f => barscanref17_Smallest.l0.eq_2 ..) ?_⟩
    refine Ev.ifp j1 ?_
    refine Ev.bind (g := fun f => barscanref16_Best.f f l (c : Int)) hLc ?_
    simp only [hr]
    exact Ev.ifp trivial (Ev.ifp j2 (Ev.ifp j3 hL))
theorem rsmall_ev : ∃ L, Ev (fun f => barscanref17_Smallest.f f l ((lv : Int) + 1) ex) (rOut L (smallR l (lv + 1) ex 40 1)) := by
  obtain ⟨L, hL⟩ := rsmall_l0 hn hx hlv e0 e1 3 0 rfl
  refine ⟨L, ?_⟩
  unfold barscanref17_Smallest.f
  refine Ev.ifn (by omega) ?_
  refine Ev.step (fun f => barscanref17_Smallest.j0.eq_2 ..) ?_
  refine Ev.ifn (by simp; omega) (Ev.ifn (by omega) ?_)
  exact hL
theorem rfits_all (v : Nat) : Ev (fun f => barscanref23_Fits.f f l v ((lv : Int) + 1) ex) (fitsS l v (lv + 1) ex) := by
  obtain ⟨L, hL⟩ := rsmall_ev hn hx hlv e0 e1
  unfold barscanref23_Fits.f fitsS
  refine Ev.bind (g := fun f => barscanref17_Smallest.f f l ((lv : Int) + 1) ex) hL ?_
  cases smallR l (lv + 1) ex 40 1 with
  | none => exact Ev.ifn (by show ¬((16 : Int) = 0); decide) (Ev.now _)
  | some u => exact Ev.ifp rfl (by simpa [rOut] using Ev.now _)
end

end Go.Proofs.Ytclbjddcenkidaa.PS
namespace Go.Proofs.Ytclbjddcenkidaa.PS
open Go.RowKit Go.Proofs.YtclbjddcenkidaaW.PrintWords Go.Proofs.YtclbjddcenkidaaW.PrintLast Go.Proofs.YtclbjddcenkidaaW.PrintMore
attribute [local go_sem] max2_int min2_int max_two min_two max_three min_three max_four min_four   -- for this text's walks alone

theorem Fits_take (k : Nat) (A : Option Addr) (c : Nat) (l : List Int) (n : Nat) (v lev ex : Int) (r : Bool) (W : World) (hn : n ≤ l.length) (hC : Kd.C (Kd.int .u8) W A l.length l) (hc : l.length ≤ c) (h : barscanref23_Fits.f k (l.take n) v lev ex = some r) :
  Calls Try.prog 19 #[.slice A n c, .int .i64 v, .int .i64 lev, .int .i64 ex] W fun e w' => e = .returned (.bool r) ∧ Below W.heap.size W w' := by
 have hl : (l.take n).length = n := by rw [List.length_take]; omega
 have := barscanref23_Fits.calls k A c (l.take n) v lev ex r W (Kd.C_take hC hn) (by omega) h
 rwa [hl] at this
def barscanref23_longest.l0 : Nat → List Int → Int → Int → Nat → Option Int
 | 0, _, _, _, _ => none
 | k + 1, l, v, lev, n => if n < l.length then (barscanref23_Fits.f k (l.take (n + 1)) v lev 20).bind fun b => (if b = true then barscanref23_longest.l0 k l v lev (n + 1) else some (n : Int)) else some (n : Int)
def barscanref23_longest.f (k : Nat) (l0 : List Int) (a1 : Int) (a2 : Int) : Option Int := barscanref23_longest.l0 k l0 a1 a2 0
theorem barscanref23_longest.mono_l : ∀ k y0 y1 y2 y3, LeO (barscanref23_longest.l0 k y0 y1 y2 y3) (barscanref23_longest.l0 (k + 1) y0 y1 y2 y3)
 | 0 => fun _ _ _ _ r h => by simp [barscanref23_longest.l0] at h
 | k + 1 => fun y0 y1 y2 y3 => by
  unfold barscanref23_longest.l0
  exact LeO.ite (LeO.bind (barscanref23_Fits.mono _ _ _ _ _) (fun _ => LeO.ite (barscanref23_longest.mono_l k _ _ _ _) (LeO.refl _))) (LeO.refl _)
theorem barscanref23_longest.mono : ∀ a0 a1 a2 k, LeO (barscanref23_longest.f k a0 a1 a2) (barscanref23_longest.f (k + 1) a0 a1 a2) := fun _ _ _ k => barscanref23_longest.mono_l k _ _ _ _
set_option maxHeartbeats 4000000 in
set_option maxRecDepth 100000 in
theorem barscanref23_longest.calls (k : Nat) (A0 : Option Addr) (c0 : Nat) (l0 : List Int) (a1 : Int) (a2 : Int) (r : Int) (w : World) (hr0 : Kd.C (Kd.int .u8) w A0 l0.length l0) (hc0 : l0.length ≤ c0) (h : barscanref23_longest.f k l0 a1 a2 = some r) :
  Calls Try.prog 25 #[.slice A0 l0.length c0, .int .i64 a1, .int .i64 a2] w fun e w' => e = .returned (.int .i64 r) ∧ Below w.heap.size w w' := by
 have HR0 := Aside0.mk hr0
 have hbig := hr0.2.1
 have H' := Aside0.mk h
 clear hr0 h
 go_enter Try.func25, Try.ntmps25
 go_wp2
 go_loopg [7] k (fun kq v7 w' => ∃ n : Nat, v7 = .int .i64 n ∧ n ≤ l0.length ∧ Aside0 (barscanref23_longest.l0 kq l0 a1 a2 n = some r) ∧ Aside0 (Below w.heap.size w w'))
 case atStart => exact ⟨0, rfl, Nat.zero_le _, H', ⟨Below.refl _ _⟩⟩
 case round =>
  clear H'
  obtain ⟨n, rfl, hn, HA, HB⟩ := hrel
  cases gk with
  | zero => exact absurd HA.out (by simp [barscanref23_longest.l0])
  | succ k1 =>
   by_cases hlt : n < l0.length
   ·have H := HA.out
    rw [barscanref23_longest.l0, if_pos hlt] at H
    obtain ⟨b, hb, H⟩ := Option.bind_eq_some_iff.1 H
    have HF := Aside0.mk hb
    have H2 := Aside0.mk H
    clear H hb HA
    cases b with
    | true =>
     go_wp2_with (fail)
     refine (Fits_take k1 A0 c0 l0 (n + 1) a1 a2 20 true _ (by omega) (Kd.C_below HR0.out (by repeat (first | exact HB.out | apply below_alloc | apply pw_below_drewN | apply below_drew1))) hc0 HF.out).mono ?_
     rintro e w1 ⟨rfl, hb1⟩
     have HB1 := Aside0.mk (below_step HB.out hb1)
     clear hb1 HB
     go_wp2
     go_roundg k1
     case measure => omega
     case rel => exact ⟨n + 1, by go_num, by omega, ⟨by have := H2.out; rwa [if_pos trivial] at this⟩, HB1⟩
    | false =>
     have h3 := H2.out
     rw [if_neg (by simp)] at h3
     obtain rfl := Option.some.inj h3
     clear H2 h3
     go_wp2_with (fail)
     refine (Fits_take k1 A0 c0 l0 (n + 1) a1 a2 20 false _ (by omega) (Kd.C_below HR0.out (by repeat (first | exact HB.out | apply below_alloc | apply pw_below_drewN | apply below_drew1))) hc0 HF.out).mono ?_
     rintro e w1 ⟨rfl, hb1⟩
     have HB1 := Aside0.mk (below_step HB.out hb1)
     clear hb1 HB
     go_wp2
     go_ret
     exact ⟨rfl, HB1.out⟩
   ·have H := HA.out
    rw [barscanref23_longest.l0, if_neg hlt] at H
    obtain rfl := Option.some.inj H
    clear H HA
    go_wp2
    go_ret
    exact ⟨rfl, HB.out⟩

end Go.Proofs.Ytclbjddcenkidaa.PS
namespace Go.Proofs.Ytclbjddcenkidaa.PS
open Go.RowKit Go.Proofs.YtclbjddcenkidaaW.PrintWords Go.Proofs.YtclbjddcenkidaaW.PrintLast Go.Proofs.YtclbjddcenkidaaW.PrintMore
attribute [local go_sem] max2_int min2_int max_two min_two max_three min_three max_four min_four   -- for this text's walks alone

mutual
def barscanref23_Cuts.j0 : Nat → List Int → Int → Int → Bool → Option (List Int × Int)
 | 0, _, _, _, _ => none
 | k + 1, x0, x1, x2, x16 => if x16 = true then (some (([] : List Int), 14)) else (if x2 < 1 then (barscanref23_Cuts.j1 k x0 x1 x2 true) else (barscanref23_Cuts.j1 k x0 x1 x2 (decide (x2 > 4))))
def barscanref23_Cuts.j1 : Nat → List Int → Int → Int → Bool → Option (List Int × Int)
 | 0, _, _, _, _ => none
 | k + 1, x0, x1, x2, x22 => if x22 = true then (some (([] : List Int), 15)) else (if (x0.length : Int) > 4096 then (some (([] : List Int), 4)) else ((barscanref23_Fits.f k x0 x1 x2 0).bind fun t277 => (if t277 = true then (some ((([(x0.length : Int)] : List Int)), 0)) else (barscanref23_Cuts.l0 k x0 x1 x2 ([] : List Int) 0))))
def barscanref23_Cuts.l0 : Nat → List Int → Int → Int → List Int → Int → Option (List Int × Int)
 | 0, _, _, _, _, _ => none
 | k + 1, x0, x1, x2, x8, x9 => if x9 < (x0.length : Int) then (if 0 ≤ x9 then (if x9 ≤ (x0.length : Int) then ((barscanref23_longest.f k (x0.drop (x9 : Int).toNat) x1 x2).bind fun t282 => (if t282 = 0 then (some (([] : List Int), 16)) else (if (x8.length : Int) = 16 then (some (([] : List Int), 16)) else (if x8.length < 17592186044416 then (barscanref23_Cuts.l0 k x0 x1 x2 (x8 ++ [t282]) (wrap64 (x9 + t282))) else (none))))) else (none)) else (none)) else (some (x8, 0))
end
def barscanref23_Cuts.f (k : Nat) (l0 : List Int) (a1 : Int) (a2 : Int) : Option (List Int × Int) := if a1 < 1 then (barscanref23_Cuts.j0 k l0 a1 a2 true) else (barscanref23_Cuts.j0 k l0 a1 a2 (decide (a1 > 40)))
theorem barscanref23_Cuts.mono_l : ∀ k, (∀ y0 y1 y2 y3, LeO (barscanref23_Cuts.j0 k y0 y1 y2 y3) (barscanref23_Cuts.j0 (k + 1) y0 y1 y2 y3)) ∧ (∀ y0 y1 y2 y3, LeO (barscanref23_Cuts.j1 k y0 y1 y2 y3) (barscanref23_Cuts.j1 (k + 1) y0 y1 y2 y3)) ∧ (∀ y0 y1 y2 y3 y4, LeO (barscanref23_Cuts.l0 k y0 y1 y2 y3 y4) (barscanref23_Cuts.l0 (k + 1) y0 y1 y2 y3 y4))
 | 0 => ⟨fun _ _ _ _ r h => by simp [barscanref23_Cuts.j0] at h, fun _ _ _ _ r h => by simp [barscanref23_Cuts.j1] at h, fun _ _ _ _ _ r h => by simp [barscanref23_Cuts.l0] at h⟩
 | k + 1 => by
  obtain ⟨ih0, ih1, ih2⟩ := barscanref23_Cuts.mono_l k
  refine ⟨?_, ?_, ?_⟩
  ·intro y0 y1 y2 y3
   unfold barscanref23_Cuts.j0
   repeat' first
   | (with_reducible exact ih0 _ _ _ _)
   | (with_reducible exact ih1 _ _ _ _)
   | (with_reducible exact ih2 _ _ _ _ _)
   | (with_reducible exact barscanref23_Fits.mono _ _ _ _ _)
   | (with_reducible exact barscanref23_longest.mono _ _ _ _)
   | (with_reducible exact LeO.refl _)
   | (with_reducible exact LeO.none _)
   | (with_reducible refine LeO.ite ?_ ?_)
   | (with_reducible refine LeO.bind ?_ (fun _ => ?_))
   | exact ih0 _ _ _ _
   | exact ih1 _ _ _ _
   | exact ih2 _ _ _ _ _
   | exact barscanref23_Fits.mono _ _ _ _ _
   | exact barscanref23_longest.mono _ _ _ _
   | exact LeO.none _
   | refine LeO.ite ?_ ?_
   | refine LeO.bind ?_ (fun _ => ?_)
  ·intro y0 y1 y2 y3
   unfold barscanref23_Cuts.j1
   repeat' first
   | (with_reducible exact ih0 _ _ _ _)
   | (with_reducible exact ih1 _ _ _ _)
   | (with_reducible exact ih2 _ _ _ _ _)
   | (with_reducible exact barscanref23_Fits.mono _ _ _ _ _)
   | (with_reducible exact barscanref23_longest.mono _ _ _ _)
   | (with_reducible exact LeO.refl _)
   | (with_reducible exact LeO.none _)
   | (with_reducible refine LeO.ite ?_ ?_)
   | (with_reducible refine LeO.bind ?_ (fun _ => ?_))
   | exact ih0 _ _ _ _
   | exact ih1 _ _ _ _
   | exact ih2 _ _ _ _ _
   | exact barscanref23_Fits.mono _ _ _ _ _
   | exact barscanref23_longest.mono _ _ _ _
   | exact LeO.none _
   | refine LeO.ite ?_ ?_
   | refine LeO.bind ?_ (fun _ => ?_)
  ·intro y0 y1 y2 y3 y4
   unfold barscanref23_Cuts.l0
   repeat' first
   | (with_reducible exact ih0 _ _ _ _)
   | (with_reducible exact ih1 _ _ _ _)
   | (with_reducible exact ih2 _ _ _ _ _)
   | (with_reducible exact barscanref23_Fits.mono _ _ _ _ _)
   | (with_reducible exact barscanref23_longest.mono _ _ _ _)
   | (with_reducible exact LeO.refl _)
   | (with_reducible exact LeO.none _)
   | (with_reducible refine LeO.ite ?_ ?_)
   | (with_reducible refine LeO.bind ?_ (fun _ => ?_))
   | exact ih0 _ _ _ _
   | exact ih1 _ _ _ _
   | exact ih2 _ _ _ _ _
   | exact barscanref23_Fits.mono _ _ _ _ _
   | exact barscanref23_longest.mono _ _ _ _
   | exact LeO.none _
   | refine LeO.ite ?_ ?_
   | refine LeO.bind ?_ (fun _ => ?_)
theorem barscanref23_Cuts.mono : ∀ a0 a1 a2 k, LeO (barscanref23_Cuts.f k a0 a1 a2) (barscanref23_Cuts.f (k + 1) a0 a1 a2) := by
 intro a0 a1 a2 k
 obtain ⟨ih0, ih1, ih2⟩ := barscanref23_Cuts.mono_l k
 unfold barscanref23_Cuts.f
 repeat' first
   | (with_reducible exact ih0 _ _ _ _)
   | (with_reducible exact ih1 _ _ _ _)
   | (with_reducible exact ih2 _ _ _ _ _)
   | (with_reducible exact barscanref23_Fits.mono _ _ _ _ _)
   | (with_reducible exact barscanref23_longest.mono _ _ _ _)
   | (with_reducible exact LeO.refl _)
   | (with_reducible exact LeO.none _)
   | (with_reducible refine LeO.ite ?_ ?_)
   | (with_reducible refine LeO.bind ?_ (fun _ => ?_))
   | exact ih0 _ _ _ _
   | exact ih1 _ _ _ _
   | exact ih2 _ _ _ _ _
   | exact barscanref23_Fits.mono _ _ _ _ _
   | exact barscanref23_longest.mono _ _ _ _
   | exact LeO.none _
   | refine LeO.ite ?_ ?_
   | refine LeO.bind ?_ (fun _ => ?_)
set_option maxHeartbeats 8000000 in
set_option maxRecDepth 100000 in
theorem barscanref23_Cuts.calls (k : Nat) (A0 : Option Addr) (c0 : Nat) (l0 : List Int) (a1 : Int) (a2 : Int) (r1 : List Int) (r2 : Int) (w : World) (hr0 : Kd.C (Kd.int .u8) w A0 l0.length l0) (hc0 : l0.length ≤ c0) (h : barscanref23_Cuts.f k l0 a1 a2 = some (r1, r2)) :
  Calls Try.prog 12 #[.slice A0 l0.length c0, .int .i64 a1, .int .i64 a2] w fun e w' => ∃ v0_ : Value, e = .returned (.tuple #[v0_, .int .i64 r2]) ∧ Kd.R (Kd.int .i64) 3 w' w.heap.size (fun _ => True) v0_ r1 ∧ Below w.heap.size w w' := by
 have HR0 := Aside0.mk hr0
 have HC0 := Aside0.mk hc0
 clear hr0 hc0
 have HB := Aside0.mk (Below.refl w.heap.size w)
 have H : (if a1 < 1 then (barscanref23_Cuts.j0 k l0 a1 a2 true) else (barscanref23_Cuts.j0 k l0 a1 a2 (decide (a1 > 40)))) = some (r1, r2) := h
 clear h
 have HC4 := Aside0.mk H
 clear H
 go_enter Try.func12, Try.ntmps12
 go_upto_region 1 with (fail)
 go_cut [16] (fun v16 wc => ∃ (kq : Nat) (x16_3 : Bool), v16 = .bool x16_3 ∧ Aside0 (barscanref23_Cuts.j0 kq l0 a1 a2 x16_3 = some (r1, r2)) ∧ Aside0 (kq ≤ k) ∧ Aside0 (Below w.heap.size w wc))
 case first =>
  have H := HC4.out
  clear HC4
  by_cases c5 : a1 < 1
  ·rw [if_pos c5] at H
   have c5b0 : decide (a1 < 1) = true := decide_eq_true c5
   clear c5
   (first | rw [c5b0] | (simp only [i64_w, i32_w]; rw [c5b0]) | skip)
   have H' := Aside0.mk H
   clear H
   go_wp2
   go_meet
   case rel => exact ⟨_, (true), (by first | rfl | (simp; done) | (simp [*]; done)), H', ⟨by first | omega | exact Nat.le_refl _⟩, ⟨by repeat (first | (with_reducible first | exact HB.out | apply below_alloc | apply pw_below_drewN | apply below_drew1) | exact HB.out)⟩⟩
  ·rw [if_neg c5] at H
   have c5b0 : decide (a1 < 1) = false := decide_eq_false c5
   clear c5
   (first | rw [c5b0] | (simp only [i64_w, i32_w]; rw [c5b0]) | skip)
   have H' := Aside0.mk H
   clear H
   go_wp2
   go_meet
   case rel => exact ⟨_, (decide (a1 > 40)), (by first | rfl | (simp; done) | (simp [*]; done)), H', ⟨by first | omega | exact Nat.le_refl _⟩, ⟨by repeat (first | (with_reducible first | exact HB.out | apply below_alloc | apply pw_below_drewN | apply below_drew1) | exact HB.out)⟩⟩
 case rest =>
  clear HC4
  try clear c1
  try clear p2
  try clear c5
  try clear c5b0
  obtain ⟨kq, x16_3, rfl, HA, HJ3, HB⟩ := hcut
  cases kq with
  | zero => exact absurd HA.out (by simp [barscanref23_Cuts.j0])
  | succ kj3 =>
   have H := HA.out
   clear HA
   simp only [barscanref23_Cuts.j0] at H
   by_cases c6 : x16_3 = true
   ·subst c6
    have H1 : (some (([] : List Int), 14)) = some (r1, r2) := by rw [if_pos rfl] at H; exact H
    clear H
    have H := H1
    clear H1
    simp only [Option.some.injEq, Prod.mk.injEq] at H
    obtain ⟨rfl, rfl⟩ := H
    go_wp2
    go_ret2
    exact ⟨_, by first | rfl | (simp [errW_none, errW_some] <;> rfl) | (simp [*, errW_none, errW_some] <;> rfl), by first | exact Kd.R_nil _ _ _ _ _ | exact Kd.N_nil _ _ _ _ _ | exact Kd.V_nil _ _ _ _ _ | exact Kd.Q_nil _ _ _ _ _ | exact Kd.S_nil _ _ _ _ _, by repeat (first | (with_reducible first | exact HB.out | apply below_alloc | apply pw_below_drewN | apply below_drew1) | exact HB.out)⟩
   ·replace c6 := Bool.eq_false_iff.mpr c6
    subst c6
    have H1 : (if a2 < 1 then (barscanref23_Cuts.j1 kj3 l0 a1 a2 true) else (barscanref23_Cuts.j1 kj3 l0 a1 a2 (decide (a2 > 4)))) = some (r1, r2) := by rw [if_neg (show ¬ (false = true) by decide)] at H; exact H
    clear H
    have H := H1
    clear H1
    have HC7 := Aside0.mk H
    clear H
    go_upto_region 3 with (fail)
    go_cut [22] (fun v22 wc => ∃ (kq : Nat) (x22_6 : Bool), v22 = .bool x22_6 ∧ Aside0 (barscanref23_Cuts.j1 kq l0 a1 a2 x22_6 = some (r1, r2)) ∧ Aside0 (kq ≤ kj3) ∧ Aside0 (Below w.heap.size w wc))
    case first =>
     have H := HC7.out
     clear HC7
     by_cases c8 : a2 < 1
     ·rw [if_pos c8] at H
      have c8b0 : decide (a2 < 1) = true := decide_eq_true c8
      clear c8
      (first | rw [c8b0] | (simp only [i64_w, i32_w]; rw [c8b0]) | skip)
      have H' := Aside0.mk H
      clear H
      go_wp2
      go_meet
      case rel => exact ⟨_, (true), (by first | rfl | (simp; done) | (simp [*]; done)), H', ⟨by have := HJ3.out; first | omega | exact Nat.le_refl _⟩, ⟨by repeat (first | (with_reducible first | exact HB.out | apply below_alloc | apply pw_below_drewN | apply below_drew1) | exact HB.out)⟩⟩
     ·rw [if_neg c8] at H
      have c8b0 : decide (a2 < 1) = false := decide_eq_false c8
      clear c8
      (first | rw [c8b0] | (simp only [i64_w, i32_w]; rw [c8b0]) | skip)
      have H' := Aside0.mk H
      clear H
      go_wp2
      go_meet
      case rel => exact ⟨_, (decide (a2 > 4)), (by first | rfl | (simp; done) | (simp [*]; done)), H', ⟨by have := HJ3.out; first | omega | exact Nat.le_refl _⟩, ⟨by repeat (first | (with_reducible first | exact HB.out | apply below_alloc | apply pw_below_drewN | apply below_drew1) | exact HB.out)⟩⟩
    case rest =>
     clear HC7
     try clear c1
     try clear p2
     try clear c5
     try clear c5b0
     try clear c6
     try clear c8
     try clear c8b0
     try clear p2
     obtain ⟨kq, x22_6, rfl, HA, HJ6, HB⟩ := hcut
     cases kq with
     | zero => exact absurd HA.out (by simp [barscanref23_Cuts.j1])
     | succ kj6 =>
      have H := HA.out
      clear HA
      simp only [barscanref23_Cuts.j1] at H
      by_cases c9 : x22_6 = true
      ·subst c9
       have H1 : (some (([] : List Int), 15)) = some (r1, r2) := by rw [if_pos rfl] at H; exact H
       clear H
       have H := H1
       clear H1
       simp only [Option.some.injEq, Prod.mk.injEq] at H
       obtain ⟨rfl, rfl⟩ := H
       go_wp2
       go_ret2
       exact ⟨_, by first | rfl | (simp [errW_none, errW_some] <;> rfl) | (simp [*, errW_none, errW_some] <;> rfl), by first | exact Kd.R_nil _ _ _ _ _ | exact Kd.N_nil _ _ _ _ _ | exact Kd.V_nil _ _ _ _ _ | exact Kd.Q_nil _ _ _ _ _ | exact Kd.S_nil _ _ _ _ _, by repeat (first | (with_reducible first | exact HB.out | apply below_alloc | apply pw_below_drewN | apply below_drew1) | exact HB.out)⟩
      ·replace c9 := Bool.eq_false_iff.mpr c9
       subst c9
       have H1 : (if (l0.length : Int) > 4096 then (some (([] : List Int), 4)) else ((barscanref23_Fits.f kj6 l0 a1 a2 0).bind fun t277 => (if t277 = true then (some ((([(l0.length : Int)] : List Int)), 0)) else (barscanref23_Cuts.l0 kj6 l0 a1 a2 ([] : List Int) 0)))) = some (r1, r2) := by rw [if_neg (show ¬ (false = true) by decide)] at H; exact H
       clear H
       have H := H1
       clear H1
       by_cases c10 : (l0.length : Int) > 4096
       ·rw [if_pos c10] at H
        have c10b0 : decide (4096 < (l0.length : Int)) = true := decide_eq_true c10
        have c10b1 : decide (4096 < l0.length) = true := decide_eq_true (by omega)
        clear c10
        simp only [Option.some.injEq, Prod.mk.injEq] at H
        obtain ⟨rfl, rfl⟩ := H
        go_wp2
        go_ret2
        exact ⟨_, by first | rfl | (simp [errW_none, errW_some] <;> rfl) | (simp [*, errW_none, errW_some] <;> rfl), by first | exact Kd.R_nil _ _ _ _ _ | exact Kd.N_nil _ _ _ _ _ | exact Kd.V_nil _ _ _ _ _ | exact Kd.Q_nil _ _ _ _ _ | exact Kd.S_nil _ _ _ _ _, by repeat (first | (with_reducible first | exact HB.out | apply below_alloc | apply pw_below_drewN | apply below_drew1) | exact HB.out)⟩
       ·rw [if_neg c10] at H
        have c10b0 : decide (4096 < (l0.length : Int)) = false := decide_eq_false c10
        have c10b1 : decide (4096 < l0.length) = false := decide_eq_false (by omega)
        clear c10
        replace H := Option.bind_eq_some_iff.mp H
        obtain ⟨t277, A110, H⟩ := H
        replace H : (if t277 = true then (some ((([(l0.length : Int)] : List Int)), 0)) else (barscanref23_Cuts.l0 kj6 l0 a1 a2 ([] : List Int) 0)) = some (r1, r2) := H
        have A11 := Aside0.mk A110
        clear A110
        by_cases c12 : t277 = true
        ·subst c12
         have H1 : (some ((([(l0.length : Int)] : List Int)), 0)) = some (r1, r2) := by rw [if_pos rfl] at H; exact H
         clear H
         have H := H1
         clear H1
         obtain ⟨y278, hy278⟩ : ∃ y_ : List Int, y_ = (([(l0.length : Int)] : List Int)) := ⟨_, rfl⟩
         replace H : (some (y278, 0)) = some (r1, r2) := by first | (rw [hy278]; with_reducible exact H) | (have H2_ := (Option.bind_some _ _).symm.trans H; rw [hy278]; with_reducible exact H2_) | (have H2_ := (Option.bind_some _ _).symm.trans H; with_reducible exact H2_) | with_reducible exact H | (rw [hy278]; exact H) | exact H
         have Ny278 := Aside0.mk hy278
         clear hy278
         simp only [Option.some.injEq, Prod.mk.injEq] at H
         obtain ⟨rfl, rfl⟩ := H
         go_wp2_with (first | ((with_reducible refine gate_callee (f := 19) rfl ?_); refine goesL_ (some 29) rfl rfl Try.func19 (by kernel_rfl) rfl #[.slice A0 l0.length c0, .int .i64 a1, .int .i64 a2, .int .i64 0] rfl (by (try simp only [List.map_toArray, List.map_cons, List.map_nil]); first | done | rfl | (simp only [List.length_drop, List.length_take]; rfl)) ?_; (with_reducible refine (barscanref23_Fits.calls kj6 _ _ l0 a1 a2 0 true _ ?side1 ?side2 A11.out).mono ?_); (case side1 => repeat (first | exact (Kd.C_below HR0.out HB.out) | (with_reducible refine Kd.C_alloc ?_ _) | (with_reducible refine Kd.C_drewN ?_ _) | (with_reducible refine Kd.C_drew ?_))); (case side2 => exact HC0.out); rintro e w13 ⟨rfl, hb⟩; refine ⟨_, rfl, ?_⟩; have n0_ := Aside0.mk (below_step (by repeat (first | (with_reducible first | exact HB.out | apply below_alloc | apply pw_below_drewN | apply below_drew1) | exact HB.out)) hb); clear HB; have HB := n0_; clear n0_; (try clear hb); (try clear hb2); (try clear hk); (try clear hi)) | ((with_reducible refine gate_dst (N := 32) rfl ?_); (try (refine gate_guard (by rfl) ?_; dsimp only)); refine Kd.R_lit (Kd.int .i64) _ 3 ?hg (N := 32) ?hd (xs := ([(l0.length : Int)] : List Int)) (inner := [.int .i64 (l0.length : Int)]) (ok := fun _ => True) (okp := fun _ => True) ?hr ?hp (fun _ hk => hk) trivial (Below.refl _ _) (Nat.le_refl _) (by simp) ?_; (case hd => rfl); (case hg => rfl); (case hr => first | (go_simp; done) | (go_simp; rfl)); (case hp => exact (Reps.one (show Kd.M (Kd.int .i64) _ _ _ (l0.length : Int) [.int .i64 (l0.length : Int)] from rfl) (Reps.none _ _))); intro v279 w14 ho15 hb hg_ hnew_; clear hg_ hnew_; (first | rw [← Ny278.out] at ho15 | (simp only [Int.reduceToNat] at ho15; rw [← Ny278.out] at ho15)); have n0_ := Aside0.mk (Kd.R_lower ho15 (below_size (by repeat (first | (with_reducible first | exact HB.out | apply below_alloc | apply pw_below_drewN | apply below_drew1) | exact HB.out)))); have n1_ := Aside0.mk (below_step (by repeat (first | (with_reducible first | exact HB.out | apply below_alloc | apply pw_below_drewN | apply below_drew1) | exact HB.out)) hb); clear HB; have HO280 := n0_; have HB := n1_; clear n0_ n1_; clear hb ho15))
         go_ret2
         exact ⟨_, by first | rfl | (simp [errW_none, errW_some] <;> rfl) | (simp [*, errW_none, errW_some] <;> rfl), by (with_reducible repeat (first | apply Kd.R_alloc | apply Kd.R_drewN | apply Kd.R_drew)); exact HO280.out, by repeat (first | (with_reducible first | exact HB.out | apply below_alloc | apply pw_below_drewN | apply below_drew1) | exact HB.out)⟩
        ·replace c12 := Bool.eq_false_iff.mpr c12
         subst c12
         have H1 : (barscanref23_Cuts.l0 kj6 l0 a1 a2 ([] : List Int) 0) = some (r1, r2) := by rw [if_neg (show ¬ (false = true) by decide)] at H; exact H
         clear H
         have H := H1
         clear H1
         have H' := Aside0.mk H
         clear H
         go_wp2_with (first | ((with_reducible refine gate_callee (f := 19) rfl ?_); refine goesL_ (some 29) rfl rfl Try.func19 (by kernel_rfl) rfl #[.slice A0 l0.length c0, .int .i64 a1, .int .i64 a2, .int .i64 0] rfl (by (try simp only [List.map_toArray, List.map_cons, List.map_nil]); first | done | rfl | (simp only [List.length_drop, List.length_take]; rfl)) ?_; (with_reducible refine (barscanref23_Fits.calls kj6 _ _ l0 a1 a2 0 false _ ?side1 ?side2 A11.out).mono ?_); (case side1 => repeat (first | exact (Kd.C_below HR0.out HB.out) | (with_reducible refine Kd.C_alloc ?_ _) | (with_reducible refine Kd.C_drewN ?_ _) | (with_reducible refine Kd.C_drew ?_))); (case side2 => exact HC0.out); rintro e w16 ⟨rfl, hb⟩; refine ⟨_, rfl, ?_⟩; have n0_ := Aside0.mk (below_step (by repeat (first | (with_reducible first | exact HB.out | apply below_alloc | apply pw_below_drewN | apply below_drew1) | exact HB.out)) hb); clear HB; have HB := n0_; clear n0_; (try clear hb); (try clear hb2); (try clear hk); (try clear hi)))
         go_loopg [8, 9] kj6 (fun kq v8 v9 w' => ∃ (x8_3 : List Int) (x9_3 : Int), v9 = .int .i64 x9_3 ∧ Aside0 (barscanref23_Cuts.l0 kq l0 a1 a2 x8_3 x9_3 = some (r1, r2)) ∧ Aside0 (kq ≤ kj6) ∧ Aside0 (Kd.R (Kd.int .i64) 3 w' w.heap.size (fun _ => True) v8 x8_3) ∧ Aside0 (Below w.heap.size w w'))
         case atStart => exact ⟨(([] : List Int)), (0), (by first | rfl | (simp; done) | (simp [*]; done)), H', ⟨Nat.le_refl _⟩, ⟨by first | exact Kd.R_nil _ _ _ _ _ | exact Kd.N_nil _ _ _ _ _ | exact Kd.V_nil _ _ _ _ _ | exact Kd.Q_nil _ _ _ _ _ | exact Kd.S_nil _ _ _ _ _⟩, ⟨by repeat (first | (with_reducible first | exact HB.out | apply below_alloc | apply pw_below_drewN | apply below_drew1) | exact HB.out)⟩⟩
         case round =>
          clear H'
          try clear c1
          try clear p2
          try clear c5
          try clear c5b0
          try clear c6
          try clear c8
          try clear c8b0
          try clear c9
          try clear c10
          try clear c10b0
          try clear c10b1
          try clear c12
          try clear p2
          obtain ⟨x8_3, x9_3, rfl, HA, HK3, HO_8, HB⟩ := hrel
          cases gk with
          | zero => exact absurd HA.out (by simp [barscanref23_Cuts.l0])
          | succ k3 =>
           have H := HA.out
           clear HA
           simp only [barscanref23_Cuts.l0] at H
           by_cases c17 : x9_3 < (l0.length : Int)
           ·rw [if_pos c17] at H
            have c17b0 : decide (x9_3 < (l0.length : Int)) = true := decide_eq_true c17
            clear c17
            by_cases c18 : 0 ≤ x9_3
            ·rw [if_pos c18] at H
             have c18b0 := eq_true c18
             have c18b1 : decide (0 ≤ x9_3) = true := decide_eq_true c18
             clear c18
             by_cases c19 : x9_3 ≤ (l0.length : Int)
             ·rw [if_pos c19] at H
              have c19b0 := eq_true c19
              have c19b1 : decide (x9_3 ≤ (l0.length : Int)) = true := decide_eq_true c19
              clear c19
              replace H := Option.bind_eq_some_iff.mp H
              obtain ⟨t282, A200, H⟩ := H
              replace H : (if t282 = 0 then (some (([] : List Int), 16)) else (if (x8_3.length : Int) = 16 then (some (([] : List Int), 16)) else (if x8_3.length < 17592186044416 then (barscanref23_Cuts.l0 k3 l0 a1 a2 (x8_3 ++ [t282]) (wrap64 (x9_3 + t282))) else (none)))) = some (r1, r2) := H
              have A20 := Aside0.mk A200
              clear A200
              by_cases c21 : t282 = 0
              ·rw [if_pos c21] at H
               have c21b0 : (t282 == 0) = true := beq_iff_eq.mpr c21
               have c21b1 : (t282 != 0) = false := bne_eq_false_iff_eq.mpr c21
               clear c21
               simp only [Option.some.injEq, Prod.mk.injEq] at H
               obtain ⟨rfl, rfl⟩ := H
               obtain ⟨i022, hi022, _, hsz22, _⟩ := info_parts info5
               obtain ⟨A22, hcut22, hA22, hC22⟩ := print_drop_of (P := Try.prog) (Value.int .u8) 0 22 5 .i64 Try.underlying22 hi022 hsz22 A0 c0 l0 x9_3 (of_decide_eq_true (by first | (with_reducible assumption) | assumption)) (of_decide_eq_true (by first | (with_reducible assumption) | assumption)) HC0.out
               have HR281 := Aside0.mk (Kd.C_of_reads (h1 := fun _ => rfl) (hA22 _ (Kd.reads_of_C HR0.out)))
               have HC281 := Aside0.mk hC22
               clear hA22 hC22 hi022 hsz22
               go_wp2_with (first | ((with_reducible refine gate_callee (f := 25) rfl ?_); refine goesL_ (some 42) rfl rfl Try.func25 (by kernel_rfl) rfl #[.slice A22 (l0.drop (x9_3 : Int).toNat).length (c0 - x9_3.toNat), .int .i64 a1, .int .i64 a2] rfl (by (try simp only [List.map_toArray, List.map_cons, List.map_nil]); first | done | (rw [show (l0.drop (x9_3 : Int).toNat).length = (l0.length - x9_3.toNat) from List.length_drop] <;> rfl) | rfl | (simp only [List.length_drop, List.length_take]; rfl)) ?_; (with_reducible refine (barscanref23_longest.calls k3 _ _ (l0.drop (x9_3 : Int).toNat) a1 a2 t282 _ ?side1 ?side2 A20.out).mono ?_); (case side1 => repeat (first | exact (Kd.C_below HR281.out HB.out) | (with_reducible refine Kd.C_alloc ?_ _) | (with_reducible refine Kd.C_drewN ?_ _) | (with_reducible refine Kd.C_drew ?_))); (case side2 => exact HC281.out); rintro e w23 ⟨rfl, hb⟩; refine ⟨_, rfl, ?_⟩; have n0_ := Aside0.mk (Kd.R_below (by (with_reducible repeat (first | apply Kd.R_alloc | apply Kd.R_drewN | apply Kd.R_drew)); exact HO_8.out) hb); have n1_ := Aside0.mk (below_step (by repeat (first | (with_reducible first | exact HB.out | apply below_alloc | apply pw_below_drewN | apply below_drew1) | exact HB.out)) hb); clear HO_8; clear HB; have HO_8 := n0_; have HB := n1_; clear n0_ n1_; (try clear hb); (try clear hb2); (try clear hk); (try clear hi)))
               go_ret2
               exact ⟨_, by first | rfl | (simp [errW_none, errW_some] <;> rfl) | (simp [*, errW_none, errW_some] <;> rfl), by first | exact Kd.R_nil _ _ _ _ _ | exact Kd.N_nil _ _ _ _ _ | exact Kd.V_nil _ _ _ _ _ | exact Kd.Q_nil _ _ _ _ _ | exact Kd.S_nil _ _ _ _ _, by repeat (first | (with_reducible first | exact HB.out | apply below_alloc | apply pw_below_drewN | apply below_drew1) | exact HB.out)⟩
              ·rw [if_neg c21] at H
               have c21b0 : (t282 == 0) = false := beq_eq_false_iff_ne.mpr c21
               have c21b1 : (t282 != 0) = true := bne_iff_ne.mpr c21
               by_cases c24 : (x8_3.length : Int) = 16
               ·rw [if_pos c24] at H
                have c24b0 : ((x8_3.length : Int) == 16) = true := beq_iff_eq.mpr c24
                have c24b1 : ((x8_3.length : Int) != 16) = false := bne_eq_false_iff_eq.mpr c24
                clear c24
                simp only [Option.some.injEq, Prod.mk.injEq] at H
                obtain ⟨rfl, rfl⟩ := H
                obtain ⟨i025, hi025, _, hsz25, _⟩ := info_parts info5
                obtain ⟨A25, hcut25, hA25, hC25⟩ := print_drop_of (P := Try.prog) (Value.int .u8) 0 22 5 .i64 Try.underlying22 hi025 hsz25 A0 c0 l0 x9_3 (of_decide_eq_true (by first | (with_reducible assumption) | assumption)) (of_decide_eq_true (by first | (with_reducible assumption) | assumption)) HC0.out
                have HR281 := Aside0.mk (Kd.C_of_reads (h1 := fun _ => rfl) (hA25 _ (Kd.reads_of_C HR0.out)))
                have HC281 := Aside0.mk hC25
                clear hA25 hC25 hi025 hsz25
                go_wp2_with (first | ((with_reducible refine gate_callee (f := 25) rfl ?_); refine goesL_ (some 42) rfl rfl Try.func25 (by kernel_rfl) rfl #[.slice A25 (l0.drop (x9_3 : Int).toNat).length (c0 - x9_3.toNat), .int .i64 a1, .int .i64 a2] rfl (by (try simp only [List.map_toArray, List.map_cons, List.map_nil]); first | done | (rw [show (l0.drop (x9_3 : Int).toNat).length = (l0.length - x9_3.toNat) from List.length_drop] <;> rfl) | rfl | (simp only [List.length_drop, List.length_take]; rfl)) ?_; (with_reducible refine (barscanref23_longest.calls k3 _ _ (l0.drop (x9_3 : Int).toNat) a1 a2 t282 _ ?side1 ?side2 A20.out).mono ?_); (case side1 => repeat (first | exact (Kd.C_below HR281.out HB.out) | (with_reducible refine Kd.C_alloc ?_ _) | (with_reducible refine Kd.C_drewN ?_ _) | (with_reducible refine Kd.C_drew ?_))); (case side2 => exact HC281.out); rintro e w26 ⟨rfl, hb⟩; refine ⟨_, rfl, ?_⟩; have n0_ := Aside0.mk (Kd.R_below (by (with_reducible repeat (first | apply Kd.R_alloc | apply Kd.R_drewN | apply Kd.R_drew)); exact HO_8.out) hb); have n1_ := Aside0.mk (below_step (by repeat (first | (with_reducible first | exact HB.out | apply below_alloc | apply pw_below_drewN | apply below_drew1) | exact HB.out)) hb); clear HO_8; clear HB; have HO_8 := n0_; have HB := n1_; clear n0_ n1_; (try clear hb); (try clear hb2); (try clear hk); (try clear hi); obtain ⟨Ao27, co27, eo27⟩ := Kd.R_slice HO_8.out; subst eo27))
                go_ret2
                exact ⟨_, by first | rfl | (simp [errW_none, errW_some] <;> rfl) | (simp [*, errW_none, errW_some] <;> rfl), by first | exact Kd.R_nil _ _ _ _ _ | exact Kd.N_nil _ _ _ _ _ | exact Kd.V_nil _ _ _ _ _ | exact Kd.Q_nil _ _ _ _ _ | exact Kd.S_nil _ _ _ _ _, by repeat (first | (with_reducible first | exact HB.out | apply below_alloc | apply pw_below_drewN | apply below_drew1) | exact HB.out)⟩
               ·rw [if_neg c24] at H
                have c24b0 : ((x8_3.length : Int) == 16) = false := beq_eq_false_iff_ne.mpr c24
                have c24b1 : ((x8_3.length : Int) != 16) = true := bne_iff_ne.mpr c24
                by_cases c28 : x8_3.length < 17592186044416
                ·rw [if_pos c28] at H
                 have LMc28 := Aside0.mk c28
                 clear c28
                 obtain ⟨y283, hy283⟩ : ∃ y_ : List Int, y_ = (x8_3 ++ [t282]) := ⟨_, rfl⟩
                 replace H : (barscanref23_Cuts.l0 k3 l0 a1 a2 y283 (wrap64 (x9_3 + t282))) = some (r1, r2) := by first | (rw [hy283]; with_reducible exact H) | (have H2_ := (Option.bind_some _ _).symm.trans H; rw [hy283]; with_reducible exact H2_) | (have H2_ := (Option.bind_some _ _).symm.trans H; with_reducible exact H2_) | with_reducible exact H | (rw [hy283]; exact H) | exact H
                 have Ny283 := Aside0.mk hy283
                 clear hy283
                 have H' := Aside0.mk H
                 clear H
                 obtain ⟨i029, hi029, _, hsz29, _⟩ := info_parts info5
                 obtain ⟨A29, hcut29, hA29, hC29⟩ := print_drop_of (P := Try.prog) (Value.int .u8) 0 22 5 .i64 Try.underlying22 hi029 hsz29 A0 c0 l0 x9_3 (of_decide_eq_true (by first | (with_reducible assumption) | assumption)) (of_decide_eq_true (by first | (with_reducible assumption) | assumption)) HC0.out
                 have HR281 := Aside0.mk (Kd.C_of_reads (h1 := fun _ => rfl) (hA29 _ (Kd.reads_of_C HR0.out)))
                 have HC281 := Aside0.mk hC29
                 clear hA29 hC29 hi029 hsz29
                 go_wp2_with (first | ((with_reducible refine gate_callee (f := 25) rfl ?_); refine goesL_ (some 42) rfl rfl Try.func25 (by kernel_rfl) rfl #[.slice A29 (l0.drop (x9_3 : Int).toNat).length (c0 - x9_3.toNat), .int .i64 a1, .int .i64 a2] rfl (by (try simp only [List.map_toArray, List.map_cons, List.map_nil]); first | done | (rw [show (l0.drop (x9_3 : Int).toNat).length = (l0.length - x9_3.toNat) from List.length_drop] <;> rfl) | rfl | (simp only [List.length_drop, List.length_take]; rfl)) ?_; (with_reducible refine (barscanref23_longest.calls k3 _ _ (l0.drop (x9_3 : Int).toNat) a1 a2 t282 _ ?side1 ?side2 A20.out).mono ?_); (case side1 => repeat (first | exact (Kd.C_below HR281.out HB.out) | (with_reducible refine Kd.C_alloc ?_ _) | (with_reducible refine Kd.C_drewN ?_ _) | (with_reducible refine Kd.C_drew ?_))); (case side2 => exact HC281.out); rintro e w30 ⟨rfl, hb⟩; refine ⟨_, rfl, ?_⟩; have n0_ := Aside0.mk (Kd.R_below (by (with_reducible repeat (first | apply Kd.R_alloc | apply Kd.R_drewN | apply Kd.R_drew)); exact HO_8.out) hb); have n1_ := Aside0.mk (below_step (by repeat (first | (with_reducible first | exact HB.out | apply below_alloc | apply pw_below_drewN | apply below_drew1) | exact HB.out)) hb); clear HO_8; clear HB; have HO_8 := n0_; have HB := n1_; clear n0_ n1_; (try clear hb); (try clear hb2); (try clear hk); (try clear hi); obtain ⟨Ao31, co31, eo31⟩ := Kd.R_slice HO_8.out; subst eo31) | ((with_reducible refine gate_builtin (b := .append) (xs := #[.tmp 50, .tmp 52]) rfl ?_); (try (refine gate_guard (by rfl) ?_; dsimp only)); at_builtin; refine Kd.R_append (Kd.int .i64) (w0 := w) w.heap.size rfl (.tmp 50) (.tmp 52) 26 3 (.int .i64 0) 8 rfl Try.underlying26 info3 rfl (by decide) (by omega) (.slice Ao31 x8_3.length co31) x8_3 t282 [.int .i64 t282] (fun _ => True) (fun _ => False) rfl rfl ?aP (fun _ hk => hk.elim) ?aF ?aO ?aB ?aS ?aL ?_; (case aP => exact rfl); (case aB => exact (by repeat (first | (with_reducible first | exact HB.out | apply below_alloc | apply pw_below_drewN | apply below_drew1) | exact HB.out))); (case aF => exact (fun _ _ => trivial)); (case aO => exact (by (with_reducible repeat (first | apply Kd.R_alloc | apply Kd.R_drewN | apply Kd.R_drew)); exact HO_8.out)); (case aS => exact (below_size (by repeat (first | (with_reducible first | exact HB.out | apply below_alloc | apply pw_below_drewN | apply below_drew1) | exact HB.out)))); (case aL => have := LMc28.out; omega); intro v284 w32 ho hb hg hat; rw [← Ny283.out] at ho; have n0_ := Aside0.mk (hb); have n1_ := Aside0.mk (ho); clear HB; clear HO_8; have HB := n0_; have HO285 := n1_; clear n0_ n1_; clear ho hb hg hat))
                 go_roundg k3
                 case measure => have := HJ3.out; have := HJ6.out; have := HK3.out; omega
                 case rel => exact ⟨(y283), (wrap64 (x9_3 + t282)), (by first | rfl | (simp; done) | (simp [*]; done)), H', ⟨by have := HJ3.out; have := HJ6.out; have := HK3.out; omega⟩, ⟨by (with_reducible repeat (first | apply Kd.R_alloc | apply Kd.R_drewN | apply Kd.R_drew)); exact HO285.out⟩, ⟨by repeat (first | (with_reducible first | exact HB.out | apply below_alloc | apply pw_below_drewN | apply below_drew1) | exact HB.out)⟩⟩
                ·rw [if_neg c28] at H
                 exact absurd H (by simp)
             ·rw [if_neg c19] at H
              exact absurd H (by simp)
            ·rw [if_neg c18] at H
             exact absurd H (by simp)
           ·rw [if_neg c17] at H
            have c17b0 : decide (x9_3 < (l0.length : Int)) = false := decide_eq_false c17
            clear c17
            simp only [Option.some.injEq, Prod.mk.injEq] at H
            obtain ⟨rfl, rfl⟩ := H
            go_wp2
            go_ret2
            exact ⟨_, by first | rfl | (simp [errW_none, errW_some] <;> rfl) | (simp [*, errW_none, errW_some] <;> rfl), by (with_reducible repeat (first | apply Kd.R_alloc | apply Kd.R_drewN | apply Kd.R_drew)); exact HO_8.out, by repeat (first | (with_reducible first | exact HB.out | apply below_alloc | apply pw_below_drewN | apply below_drew1) | exact HB.out)⟩

end Go.Proofs.Ytclbjddcenkidaa.PS
namespace Go.Proofs.Ytclbjddcenkidaa.PS
open Go.RowKit Go.Proofs.YtclbjddcenkidaaW.PrintWords Go.Proofs.YtclbjddcenkidaaW.PrintLast Go.Proofs.YtclbjddcenkidaaW.PrintMore
attribute [local go_sem] max2_int min2_int max_two min_two max_three min_three max_four min_four
section
variable {l : List Int} (hn : l.length ≤ 4096) (hx : ∀ c ∈ l, 0 ≤ c ∧ c < 256) {lv : Nat} (hlv : lv < 4) (v : Nat)
include hn hx hlv
end
end Go.Proofs.Ytclbjddcenkidaa.PS
namespace Go.Proofs.Ytclbjddcenkidaa.PS
open Go.RowKit Go.Proofs.YtclbjddcenkidaaW.PrintWords Go.Proofs.YtclbjddcenkidaaW.PrintLast Go.Proofs.YtclbjddcenkidaaW.PrintMore
attribute [local go_sem] max2_int min2_int max_two min_two max_three min_three max_four min_four
theorem cutsR_len (v lev : Nat) : ∀ d rest (out : List Int), d + out.length = 16 → (cutsR v lev d rest out).1.length ≤ 16
  | 0, rest, out, h => by
    unfold cutsR
    split
    · show out.length ≤ 16; omega
    · simp
  | d + 1, rest, out, h => by
    unfold cutsR
    split
    · show out.length ≤ 16; omega
    · split
      · simp
      · exact cutsR_len v lev d _ _ (by simp; omega)
theorem byteL_of {l : List Int} (h : ∀ c ∈ l, 0 ≤ c ∧ c < 256) : byteL l = true := by
  unfold byteL
  rw [List.all_eq_true]
  intro c hc
  have := h c hc
  simpa using this

end Go.Proofs.Ytclbjddcenkidaa.PS
namespace Go.Proofs.Ytclbjddcenkidaa.PS
open Go.RowKit Go.Proofs.YtclbjddcenkidaaW.PrintWords Go.Proofs.YtclbjddcenkidaaW.PrintLast Go.Proofs.YtclbjddcenkidaaW.PrintMore
attribute [local go_sem] max2_int min2_int max_two min_two max_three min_three max_four min_four
theorem wr_sum (a s : Nat) (h : a + s ≤ 5000) : wrap64 ((a : Int) + (s : Int)) = ((a + s : Nat) : Int) := by unfold wrap64; omega
theorem wr_one (c : Nat) (h : c ≤ 5000) : wrap64 (1 + wrap64 (c : Int)) = ((1 + c : Nat) : Int) := by unfold wrap64; omega
theorem wr_dif (n a : Nat) (h : a ≤ n) (h2 : n ≤ 5000) : wrap64 ((n : Int) - (a : Int)) = ((n - a : Nat) : Int) := by unfold wrap64; omega
section
variable {l lens : List Int} (hn : l.length ≤ 120) (hx : ∀ c ∈ l, 0 ≤ c ∧ c < 256) (hy : ∀ c ∈ lens, 0 ≤ c ∧ c < 256) (hm : lens.length ≤ 16) {v lv : Nat} (hv1 : 1 ≤ v) (hv2 : v ≤ 40) (hlv : lv < 4)
include hn hx hy hm hv1 hv2 hlv
theorem min_j6 (n : Nat) (hn16 : n ≤ 16) (h : 1 ≤ n → Div v (lv + 1) l n ∨ fitsS l v (lv + 1) 0 = true) (b : Bool) (hb : b = true ∨ 1 ≤ n) : Ev (fun f => barscanlaw23_SplitMinimal.j6 f l v ((lv : Int) + 1) n b) true := by
  have _u0 := hy
  have _u1 := hm
  refine Ev.step (fun f => barscanlaw23_SplitMinimal.j6.eq_2 ..) ?_
  cases b with
  | true => exact Ev.ifp rfl (Ev.now _)
  | false =>
    have h1 : 1 ≤ n := by simpa using hb
    obtain ⟨e1, e2⟩ := cuts_min (by omega) hn16 h1 (h h1)
    have hc : split_Cuts.f l v ((lv : Int) + 1) = some (cutsS l v (lv + 1)) := by
      unfold split_Cuts.f
      rw [if_pos ⟨by omega, byteL_of hx⟩, if_neg (by omega), if_neg (by omega), Int.toNat_natCast, show ((lv : Int) + 1).toNat = lv + 1 by omega]
    have h3 : ((cutsS l v (lv + 1)).1.length : Int) ≤ (n : Int) := by omega
    refine Ev.ifn (by simp) ?_
    rw [hc]
    simp only [Option.bind_some]
    exact Ev.ifp e1 (Ev.ifp h3 (Ev.now _))
theorem min_l0 : ∀ (d i at_ n : Nat), i + d = lens.length → at_ ≤ l.length → n ≤ i → n ≤ at_ → ((∀ m, Div v (lv + 1) (l.drop at_) m → Div v (lv + 1) l (m + n)) ∨ (at_ = l.length ∧ n = 1 ∧ fitsS l v (lv + 1) 0 = true)) →
    Ev (fun f => barscanlaw23_SplitMinimal.l0 f l lens v ((lv : Int) + 1) at_ n i) true := by
  intro d
  have fin : ∀ (i at_ n : Nat), i ≤ lens.length → at_ ≤ l.length → n ≤ i → ((∀ m, Div v (lv + 1) (l.drop at_) m → Div v (lv + 1) l (m + n)) ∨ (at_ = l.length ∧ n = 1 ∧ fitsS l v (lv + 1) 0 = true)) →
      Ev (fun f => barscanlaw23_SplitMinimal.j2 f l lens v ((lv : Int) + 1) at_ n i false) true := by
    intro i at_ n hi hat hni hinv
    have hd : at_ = l.length → (1 ≤ n → Div v (lv + 1) l n ∨ fitsS l v (lv + 1) 0 = true) := by
      intro e _
      rcases hinv with h | ⟨_, _, h⟩
      · have := h 0 (by rw [e, List.drop_length]; exact Div.nil)
        rw [Nat.zero_add] at this
        exact .inl this
      · exact .inr h
    refine Ev.step (fun f => barscanlaw23_SplitMinimal.j2.eq_2 ..) ?_
    refine Ev.ifn (by simp) ?_
    by_cases hlt : (at_ : Int) < (l.length : Int)
    · refine Ev.ifp hlt ?_
      refine Ev.step (fun f => barscanlaw23_SplitMinimal.j6.eq_2 ..) ?_
      exact Ev.ifp rfl (Ev.now _)
    · refine Ev.ifn hlt ?_
      refine min_j6 hn hx hy hm hv1 hv2 hlv n (by omega) (hd (by omega)) _ ?_
      by_cases hz : n = 0
      · exact .inl (by simp [hz])
      · exact .inr (by omega)
  induction d with
  | zero =>
    intro i at_ n hi hat hni hna hinv
    refine Ev.step (fun f => barscanlaw23_SplitMinimal.l0.eq_2 ..) ?_
    exact Ev.ifn (by omega) (fin i at_ n (by omega) hat hni hinv)
  | succ d ih =>
    intro i at_ n hi hat hni hna hinv
    refine Ev.step (fun f => barscanlaw23_SplitMinimal.l0.eq_2 ..) ?_
    refine Ev.ifp (by omega) ?_
    by_cases hlt : at_ < l.length
    · have hil : i < lens.length := by omega
      have hc : rd lens (i : Int) = lens[i] := by rw [rd, Int.toNat_natCast]; simp [List.getD_eq_getElem?_getD, List.getElem?_eq_getElem hil]
      have hcb := hy _ (List.getElem_mem hil)
      obtain ⟨c, hce⟩ := Int.eq_ofNat_of_zero_le hcb.1
      rw [hce] at hc hcb
      -- the part that is tried
      have tried : ∀ s : Nat, 1 ≤ s → s ≤ l.length - at_ → Ev (fun f => barscanlaw23_SplitMinimal.j4 f l lens v ((lv : Int) + 1) at_ n i s) true := by
        intro s hs1 hs2
        have hpart : (l.take (at_ + s)).drop at_ = (l.drop at_).take s := by rw [List.drop_take, Nat.add_sub_cancel_left]
        have b4 : at_ + s ≤ 5000 := by omega
        have step : ∀ ex : Int, 0 ≤ ex → ex ≤ 1000 → (fitsS ((l.drop at_).take s) v (lv + 1) ex = true → ((∀ m, Div v (lv + 1) (l.drop (at_ + s)) m → Div v (lv + 1) l (m + (n + 1))) ∨ (at_ + s = l.length ∧ n + 1 = 1 ∧ fitsS l v (lv + 1) 0 = true))) →
            Ev (fun f => barscanlaw23_SplitMinimal.j5 f l lens v ((lv : Int) + 1) at_ n i s ex) true := by
          intro ex e0 e1 hgo
          have i1 : 0 ≤ (at_ : Int) := by omega
          have i2 : (at_ : Int) ≤ ((at_ + s : Nat) : Int) := by omega
          have i3 : ((at_ + s : Nat) : Int) ≤ (l.length : Int) := by omega
          have hfit := rfits_all (l := (l.drop at_).take s) (by rw [List.length_take, List.length_drop]; omega) (fun c hc => hx c (List.mem_of_mem_drop (List.mem_of_mem_take hc))) hlv e0 e1 v
          have hnext := fun hg => ih (i + 1) (at_ + s) (n + 1) (by omega) (by omega) (by omega) (by omega) (hgo hg)
          have b2 : n ≤ 5000 := by omega
          have b3 : i ≤ 5000 := by omega
          have hw2 := wr_add1 n b2
          have hw3 := wr_add1 i b3
          have hw1 := wr_sum at_ s b4
          refine Ev.step (fun f => barscanlaw23_SplitMinimal.j5.eq_2 ..) ?_
          simp only [hw1, hw2, hw3, Int.toNat_natCast, hpart]
          refine Ev.ifp i1 (Ev.ifp i2 (Ev.ifp i3 ?_))
          refine Ev.bind (g := fun f => barscanref23_Fits.f f ((l.drop at_).take s) v ((lv : Int) + 1) ex) hfit ?_
          cases hg : fitsS ((l.drop at_).take s) v (lv + 1) ex with
          | true => exact Ev.ifp rfl (hnext hg)
          | false => exact Ev.ifn (by simp) (Ev.now _)
        refine Ev.step (fun f => barscanlaw23_SplitMinimal.j4.eq_2 ..) ?_
        by_cases hs : (s : Int) = (l.length : Int)
        · refine Ev.ifp hs (step 0 (by omega) (by omega) (fun hf => .inr ?_))
          have ha : at_ = 0 := by omega
          have hsl : s = l.length := by omega
          refine ⟨by omega, by omega, ?_⟩
          rw [ha, List.drop_zero, hsl, List.take_length] at hf
          exact hf
        · refine Ev.ifn hs (step 20 (by omega) (by omega) (fun hf => .inl fun m hdiv => ?_))
          rcases hinv with h | ⟨e, _, _⟩
          · have := h (m + 1) (Div.cons (l.drop at_) s m hs1 (by rw [List.length_drop]; omega) hf (by rw [List.drop_drop]; exact hdiv))
            rw [show m + (n + 1) = m + 1 + n by omega]
            exact this
          · omega
      have i1 : 0 ≤ (i : Int) := by omega
      have i2 : (i : Int) < (lens.length : Int) := by omega
      have hlast := tried (l.length - at_) (by omega) (Nat.le_refl _)
      have hown : ¬ ((1 + c : Nat) : Int) > ((l.length - at_ : Nat) : Int) → Ev (fun f => barscanlaw23_SplitMinimal.j4 f l lens v ((lv : Int) + 1) at_ n i ((1 + c : Nat) : Int)) true := fun h => tried (1 + c) (by omega) (by omega)
      have d1 : decide ((at_ : Int) < (l.length : Int)) = true := decide_eq_true (by omega)
      have b5 : c ≤ 5000 := by omega
      have b6 : at_ ≤ l.length := by omega
      have b7 : l.length ≤ 5000 := by omega
      have hw1 := wr_one c b5
      have hw2 := wr_dif l.length at_ b6 b7
      rw [d1]
      refine Ev.step (fun f => barscanlaw23_SplitMinimal.j2.eq_2 ..) ?_
      refine Ev.ifp rfl (Ev.ifp i1 (Ev.ifp i2 ?_))
      have hgc : rd lens (i : Int) = (c : Int) := hc
      simp only [hgc, hw1, hw2]
      have j3 : ∀ (b : Bool), (b = false → ¬ ((1 + c : Nat) : Int) > ((l.length - at_ : Nat) : Int)) → Ev (fun f => barscanlaw23_SplitMinimal.j3 f l lens v ((lv : Int) + 1) at_ n i ((1 + c : Nat) : Int) b) true := by
        intro b hb
        refine Ev.step (fun f => barscanlaw23_SplitMinimal.j3.eq_2 ..) ?_
        cases b with
        | true => exact Ev.ifp rfl (by simp only [hw2]; exact hlast)
        | false => exact Ev.ifn (by simp) (hown (hb rfl))
      by_cases hgt : ((1 + c : Nat) : Int) > ((l.length - at_ : Nat) : Int)
      · exact Ev.ifp hgt (j3 true (fun h => by cases h))
      · exact Ev.ifn hgt (j3 _ (fun _ => hgt))
    · have d1 : decide ((at_ : Int) < (l.length : Int)) = false := decide_eq_false (by omega)
      rw [d1]
      exact fin i at_ n (by omega) hat hni hinv
end

end Go.Proofs.Ytclbjddcenkidaa.PS
namespace Go.Proofs.Ytclbjddcenkidaa.Pure
open Go.RowKit Go.Proofs.Ytclbjddcenkidaa.PS Go.Proofs.YtclbjddcenkidaaW.PrintWords Go.Proofs.YtclbjddcenkidaaW.PrintLast
theorem SplitMinimal : barscanlaw23_SplitMinimal.Pure := by
  intro l0 a1 a2 l3 h1 h2 hw ha1 ha2 _ _ hw3
  have hx : ∀ c ∈ l0, 0 ≤ c ∧ c < 256 := fun c hc => wf_byte (hw c hc)
  have hy : ∀ c ∈ l3, 0 ≤ c ∧ c < 256 := fun c hc => wf_byte (hw3 c hc)
  have b1 := wf_byte ha1
  have b2 := wf_byte ha2
  obtain ⟨v, hv⟩ : ∃ v : Nat, wrap64 (1 + wrap64 (Int.tmod a1 40)) = (v : Int) ∧ 1 ≤ v ∧ v ≤ 40 := by
    have e : Int.tmod a1 40 = a1 % 40 := Int.tmod_eq_emod_of_nonneg b1.1
    refine ⟨(1 + a1 % 40).toNat, ?_, ?_, ?_⟩
    · rw [e]; unfold wrap64; omega
    · omega
    · omega
  obtain ⟨lv, hlv⟩ : ∃ lv : Nat, (1 + Int.tmod a2 4) % 256 = (lv : Int) + 1 ∧ lv < 4 := by
    have e : Int.tmod a2 4 = a2 % 4 := Int.tmod_eq_emod_of_nonneg b2.1
    refine ⟨(a2 % 4).toNat, ?_, ?_⟩
    · rw [e]; omega
    · omega
  suffices H : Ev (fun k => barscanlaw23_SplitMinimal.f k l0 a1 a2 l3) true from H.rounds
  unfold barscanlaw23_SplitMinimal.f
  rw [hv.1, hlv.1]
  by_cases hl : (l0.length : Int) > 120
  · refine Ev.ifp hl ?_
    refine Ev.step (fun f => barscanlaw23_SplitMinimal.j0.eq_2 ..) ?_
    exact Ev.ifp rfl (Ev.now _)
  · refine Ev.ifn hl ?_
    refine Ev.step (fun f => barscanlaw23_SplitMinimal.j0.eq_2 ..) ?_
    by_cases hm : (l3.length : Int) > 16
    · exact Ev.ifp (by simpa using hm) (Ev.now _)
    · refine Ev.ifn (by simpa using hm) ?_
      exact min_l0 (l := l0) (lens := l3) (by omega) hx hy (by omega) hv.2.1 hv.2.2 hlv.2 l3.length 0 0 0 (by omega) (by omega) (by omega) (by omega) (.inl fun m hd => by simpa using hd)
end Go.Proofs.Ytclbjddcenkidaa.Pure
