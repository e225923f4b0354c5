-- Texts of this claim, merged by the prover's program (wip/tools/order_pack.py).
import Derived.Test.YtclbjddcenkidaaKD5
import Derived.Deep.Slices
import Derived.ChangeArms
set_option linter.unusedVariables false
set_option linter.unusedSimpArgs false
namespace Go.Proofs.Ytclbjddcenkidaa.PS
open Go.RowKit Go.Proofs.YtclbjddcenkidaaW.PrintWords Go.Proofs.YtclbjddcenkidaaW.PrintLast Go.Proofs.YtclbjddcenkidaaW.PrintMore
open Go.Maps
theorem k40_mkM (w : World) (base : Nat) (ok : Nat → Prop) (x : S40)  : k40.M w base ok x [.int .i64 x.f0, .int .i64 x.f1, .int .i64 x.f2] := ⟨[.int .i64 x.f0], [.int .i64 x.f1, .int .i64 x.f2], rfl, rfl, ⟨[.int .i64 x.f1], [.int .i64 x.f2], rfl, rfl, rfl⟩⟩
theorem agree_sub {p q : List S42} (h : AgreeP q) (hs : ∀ m ∈ p, m ∈ q) : AgreeP p := fun m hm m' hm' => h m (hs m hm) m' (hs m' hm')
theorem chk_congr {l l' : List S42} (h : ∀ m, m ∈ l ↔ m ∈ l') {r : Int} (hc : ChkIs l r) : ChkIs l' r := by
  have e0 : l.length = 0 ↔ l'.length = 0 := by
    rw [List.length_eq_zero_iff, List.length_eq_zero_iff, List.eq_nil_iff_forall_not_mem, List.eq_nil_iff_forall_not_mem]
    exact ⟨fun hh m hm => hh m ((h m).2 hm), fun hh m hm => hh m ((h m).1 hm)⟩
  have e1 : l.any (fun m => !validS m.f1) = l'.any (fun m => !validS m.f1) := by
    rw [Bool.eq_iff_iff, List.any_eq_true, List.any_eq_true]
    exact ⟨fun ⟨m, hm, hv⟩ => ⟨m, (h m).1 hm, hv⟩, fun ⟨m, hm, hv⟩ => ⟨m, (h m).2 hm, hv⟩⟩
  have e2 : AgreeP l ↔ AgreeP l' := ⟨fun hh => agree_sub hh (fun m hm => (h m).2 hm), fun hh => agree_sub hh (fun m hm => (h m).1 hm)⟩
  unfold ChkIs at hc ⊢
  rw [← e1, ← e2, Ne, ← e0]
  exact hc
theorem lookup_congr {es es' : List (Int × ByteArray)} {l l' : List S42} (h : ∀ m, m ∈ l ↔ m ∈ l') (h1 : HasT es l) (h2 : HasT es' l') (x : Int) : es.lookup x = es'.lookup x := by
  apply Option.ext
  intro s
  rw [h1.look, h2.look]
  exact ⟨fun ⟨m, hm, e⟩ => ⟨m, (h m).1 hm, e⟩, fun ⟨m, hm, e⟩ => ⟨m, (h m).2 hm, e⟩⟩
theorem perm_congr {es es' : List (Int × ByteArray)} {l l' : List S42} (h : ∀ m, m ∈ l ↔ m ∈ l') (h1 : HasT es l) (h2 : HasT es' l') : (es.map (·.1)).Perm (es'.map (·.1)) := by
  refine (List.perm_ext_iff_of_nodup h1.nodup h2.nodup).2 fun x => ?_
  rw [has_mem h1, has_mem h2]
  exact ⟨fun ⟨m, hm, e⟩ => ⟨m, (h m).1 hm, e⟩, fun ⟨m, hm, e⟩ => ⟨m, (h m).2 hm, e⟩⟩
theorem set_congr {l l' : List S42} (h : ∀ m, m ∈ l ↔ m ∈ l') : joinP l' = joinP l ∧ missS l' = missS l := by
  obtain ⟨c1, k1⟩ := col_chk l
  obtain ⟨c2, k2⟩ := col_chk l'
  have e : (colS l').1 = (colS l).1 := c2.one (chk_congr h c1)
  unfold joinP missS
  rw [e]
  by_cases h0 : (colS l).1 = 0
  · rw [if_pos h0, if_pos h0, if_pos h0, if_pos h0]
    obtain ⟨t1, a1⟩ := k1 h0
    obtain ⟨t2, _⟩ := k2 (e.trans h0)
    have hl := lookup_congr h t1 t2
    have hp := perm_congr h t1 t2
    have hk : keysS (colS l').2 = keysS (colS l).2 := mergeSort_of_perm_i hp.symm
    have hn : (colS l').2.length = (colS l).2.length := by have := hp.length_eq; simpa using this.symm
    have f2 := (h _).2 (first_mem (ok_len (e.trans h0)))
    obtain ⟨g1, g2, _⟩ := a1 _ f2 _ (first_mem (ok_len h0))
    have ho : outS (colS l').2 = outS (colS l).2 := by
      unfold outS
      rw [hk]
      congr 1
      funext x
      unfold pieceS
      rw [hl x]
    refine ⟨?_, ?_⟩
    · unfold joinR
      rw [hn, ho, g1, g2]
    · unfold missL
      rw [g1]
      have : (fun (i : Nat) => ((colS l').2.lookup (i : Int)).isNone) = fun (i : Nat) => ((colS l).2.lookup (i : Int)).isNone := by
        funext i; rw [hl]
      rw [this]
  · rw [if_neg h0, if_neg h0, if_neg h0, if_neg h0]
    exact ⟨rfl, rfl⟩

end Go.Proofs.Ytclbjddcenkidaa.PS
namespace Go.Proofs.Ytclbjddcenkidaa.PS
open Go.RowKit Go.Proofs.YtclbjddcenkidaaW.PrintWords Go.Proofs.YtclbjddcenkidaaW.PrintLast Go.Proofs.YtclbjddcenkidaaW.PrintMore
attribute [local go_sem] max2_int min2_int max_two min_two max_three min_three max_four min_four
open Go.Maps
theorem info42 : (Try.prog.info? 42).map (fun i => (i.zero, i.size, i.bytes)) = some (some (.agg #[(.slice none 0 0), (.int .i64 0), (.int .i64 0), (.int .i64 0)]), 4, 48) := by kernel_rfl
/-- a message whose row of segments lies where it lies -/
structure Q42 where
  A : Option Addr
  c : Nat
  m : S42
def kh42 : Kd (Option Addr × Nat × Nat) := Kd.scalar (fun x => .slice x.1 x.2.1 x.2.2) (fun _ => rfl)
def kq42 : Kd Q42 := Kd.iso (Kd.pair kh42 k40) (fun x : Q42 => ((x.A, x.m.f0.length, x.c), x.m.f1))
theorem kq42_mkM (w : World) (base : Nat) (ok : Nat → Prop) (x : Q42) : kq42.M w base ok x [.slice x.A x.m.f0.length x.c, .int .i64 x.m.f1.f0, .int .i64 x.m.f1.f1, .int .i64 x.m.f1.f2] :=
  ⟨[.slice x.A x.m.f0.length x.c], [.int .i64 x.m.f1.f0, .int .i64 x.m.f1.f1, .int .i64 x.m.f1.f2], rfl, rfl, k40_mkM w base ok x.m.f1⟩
theorem kq42_open {w : World} {x : Q42} {cs : List Value} (h : kq42.K w x cs) : cs = [.slice x.A x.m.f0.length x.c, .int .i64 x.m.f1.f0, .int .i64 x.m.f1.f1, .int .i64 x.m.f1.f2] := by
  obtain ⟨c0, c1, rfl, h0, h1⟩ := h
  have e0 : c0 = [.slice x.A x.m.f0.length x.c] := h0
  have e1 := k40_open h1
  rw [e0, e1]; rfl
def okQ (w : World) (l : List S42) (x : Q42) : Prop := x.m ∈ l ∧ x.m.f0.length ≤ x.c ∧ k54.C w x.A x.m.f0.length x.m.f0
theorem C_of_q {w : World} {A : Option Addr} {n : Nat} {qs : List Q42} (h : kq42.C w A n qs) (hq : ∀ x ∈ qs, x.m.f0.length ≤ x.c ∧ k54.C w x.A x.m.f0.length x.m.f0) : k42.C w A n (qs.map (·.m)) := by
  obtain ⟨h1, h2, h3⟩ := h
  refine ⟨by rw [List.length_map]; exact h1, h2, fun hn => ?_⟩
  obtain ⟨ad, e, hc⟩ := h3 hn
  refine ⟨ad, e, fun j y hj => ?_⟩
  rw [List.getElem?_map] at hj
  cases hx : qs[j]? with
  | none => rw [hx] at hj; simp at hj
  | some x =>
    rw [hx] at hj
    obtain rfl : x.m = y := by simpa using hj
    obtain ⟨cs, g1, g2, g3⟩ := hc j x hx
    obtain ⟨q1, q2⟩ := hq x (List.mem_of_getElem? hx)
    refine ⟨cs, g1, ?_, g3⟩
    rw [kq42_open g2]
    exact k42_mk w x.m q1 q2
theorem okQ_here {w : World} {A : Option Addr} {l : List S42} (h : k42.C w A l.length l) {i : Nat} (hi : i < l.length) : ∃ ad x, A = some ad ∧ okQ w l x ∧ x.m = l[i] ∧
    w.cell? (ad.add (i * 4)) = some (.slice x.A x.m.f0.length x.c) ∧ w.cell? ⟨(ad.add (i * 4)).block, (ad.add (i * 4)).off + 1, none⟩ = some (.int .i64 x.m.f1.f0) ∧
    w.cell? ⟨(ad.add (i * 4)).block, (ad.add (i * 4)).off + 2, none⟩ = some (.int .i64 x.m.f1.f1) ∧ w.cell? ⟨(ad.add (i * 4)).block, (ad.add (i * 4)).off + 3, none⟩ = some (.int .i64 x.m.f1.f2) := by
  obtain ⟨ad, A3, c3, e3, g0, g1, g2, g3, hl3, hi3⟩ := at_T42 h (i : Int) (by omega) (by omega)
  rw [Int.toNat_natCast, rd42 hi] at g0 g1 g2 g3
  rw [rd42 hi] at hl3 hi3
  exact ⟨ad, ⟨A3, c3, l[i]⟩, e3, ⟨List.getElem_mem hi, hl3, hi3⟩, rfl, g0, g1, g2, g3⟩

end Go.Proofs.Ytclbjddcenkidaa.PS
namespace Go.Proofs.Ytclbjddcenkidaa.PS
open Go.RowKit Go.Proofs.YtclbjddcenkidaaW.PrintWords Go.Proofs.YtclbjddcenkidaaW.PrintLast Go.Proofs.YtclbjddcenkidaaW.PrintMore
attribute [local go_sem] max2_int min2_int max_two min_two max_three min_three max_four min_four
open Go.Maps
set_option maxHeartbeats 8000000 in
set_option maxRecDepth 100000 in
theorem SplitOrder_calls (A : Option Addr) (c : Nat) (l : List S42) (B : Option Addr) (d : Nat) (ps : List Int) (w : World) (hC : Kd.C k42 w A l.length l) (hc : l.length ≤ c) (hP : (Kd.int .u8).C w B ps.length ps) (hd : ps.length ≤ d) (hp : ∀ p ∈ ps, 0 ≤ p ∧ p < 256) :
    Calls Try.prog 6 #[.slice A l.length c, .slice B ps.length d] w fun e w' => e = .returned (.bool true) ∧ Below w.heap.size w w' := by
  obtain ⟨b, hb, hf⟩ := few_ev l
  obtain ⟨kf, hkf⟩ := Ev.rounds hb
  have HC := Aside0.mk hC
  have HCC := Aside0.mk hc
  have HP := Aside0.mk hP
  have HPP := Aside0.mk hp
  have HPD := Aside0.mk hd
  have HKF := Aside0.mk hkf
  have HF := Aside0.mk hf
  clear hC hc hb hkf hf hP hp hd
  cases b with
  | false =>
    go_enter Try.func6, Try.ntmps6
    go_wp2_with (first
      | ((with_reducible refine (barscanlaw23_few.calls kf _ c l false _ HC.out HCC.out HKF.out).mono ?_); rintro e w1 ⟨rfl, ⟨nd, rfl⟩⟩)
      | ((with_reducible refine (exampleHolds_calls _).mono ?_); rintro e w2 ⟨rfl, hb2⟩; have HB2 := Aside0.mk hb2; clear hb2))
    go_ret
    exact ⟨rfl, below_then (pw_below_drewN (Below.refl w.heap.size w) nd) (pw_below_drewN (Below.refl w.heap.size w) nd).size HB2.out⟩
  | true =>
    by_cases h0 : l.length = 0
    · have hd0 : ((l.length : Int) == 0) = true := by rw [h0]; rfl
      have hd1 : (l.length == 0) = true := by rw [h0]; rfl
      clear h0
      go_enter Try.func6, Try.ntmps6
      go_wp2_with (first
        | ((with_reducible refine (barscanlaw23_few.calls kf _ c l true _ HC.out HCC.out HKF.out).mono ?_); rintro e w1 ⟨rfl, ⟨nd, rfl⟩⟩)
        | ((with_reducible refine (exampleHolds_calls _).mono ?_); rintro e w2 ⟨rfl, hb2⟩; have HB2 := Aside0.mk hb2; clear hb2))
      go_ret
      exact ⟨rfl, below_then (pw_below_drewN (Below.refl w.heap.size w) nd) (pw_below_drewN (Below.refl w.heap.size w) nd).size HB2.out⟩
    · have hd0 : ((l.length : Int) == 0) = false := beq_eq_false_iff_ne.mpr (by omega)
      have hd1 : (l.length == 0) = false := beq_eq_false_iff_ne.mpr h0
      have HL0 := Aside0.mk h0
      clear h0
      by_cases hp40 : 40 < ps.length
      · have hd2 : decide ((40 : Int) < (ps.length : Int)) = true := decide_eq_true (by omega)
        have hd3 : decide (40 < ps.length) = true := decide_eq_true hp40
        clear hp40
        go_enter Try.func6, Try.ntmps6
        go_wp2_with (first
          | ((with_reducible refine (barscanlaw23_few.calls kf _ c l true _ HC.out HCC.out HKF.out).mono ?_); rintro e w1 ⟨rfl, ⟨nd, rfl⟩⟩)
          | ((with_reducible refine (exampleHolds_calls _).mono ?_); rintro e w2 ⟨rfl, hb2⟩; have HB2 := Aside0.mk hb2; clear hb2))
        go_ret
        exact ⟨rfl, below_then (pw_below_drewN (Below.refl w.heap.size w) nd) (pw_below_drewN (Below.refl w.heap.size w) nd).size HB2.out⟩
      · have hd2 : decide ((40 : Int) < (ps.length : Int)) = false := decide_eq_false (by omega)
        have hd3 : decide (40 < ps.length) = false := decide_eq_false hp40
        have HP40 := Aside0.mk (by omega : ps.length ≤ 40)
        have HL := Aside0.mk (HF.out rfl).1
        have HL40 := Aside0.mk (HF.out rfl).2
        clear HF hp40
        have hub := Try.underlying42
        have hn0 : (0 < l.length) = True := eq_true (by have := HL0.out; omega)
        go_enter Try.func6, Try.ntmps6
        go_wp2_with ((with_reducible refine (barscanlaw23_few.calls kf _ c l true _ HC.out HCC.out HKF.out).mono ?_); rintro e w1 ⟨rfl, ⟨nd, rfl⟩⟩)
        obtain ⟨w1, hw1⟩ : ∃ w1, w1 = w.drewN nd := ⟨_, rfl⟩
        have HB1 := Aside0.mk (by rw [hw1]; exact pw_below_drewN (Below.refl w.heap.size w) nd : Below w.heap.size w w1)
        rw [← hw1]
        clear hw1
        go_loopg [5, 6] (ps.length + 1) (fun kq v5 v6 wr => ∃ (i : Nat) (qs : List Q42), v6 = .int .i64 i ∧ i ≤ ps.length ∧ kq + i = ps.length + 1 ∧ qs.length = i ∧ Aside0 (∀ x ∈ qs, okQ w l x) ∧ Aside0 (Kd.R kq42 42 wr w1.heap.size (fun _ => True) v5 qs) ∧ Aside0 (Below w1.heap.size w1 wr))
        case atStart => exact ⟨0, [], rfl, Nat.zero_le _, rfl, rfl, ⟨fun x hx => by simp at hx⟩, ⟨Kd.R_nil _ _ _ _ _⟩, ⟨Below.refl _ _⟩⟩
        case round =>
          obtain ⟨i, qs, rfl, hi, hk, hql, HQ, HO, HB⟩ := hrel
          obtain ⟨kk, rfl⟩ : ∃ kk, gk = kk + 1 := ⟨gk - 1, by omega⟩
          by_cases hlt : i < ps.length
          · have HBW := Aside0.mk (below_then HB1.out HB1.out.size HB.out : Below w.heap.size w wr)
            obtain ⟨adp, rfl, hpx⟩ := Kd.at_int HP.out (i : Int) (by omega) (by omega)
            have hpb := HPP.out (rd ps (i : Int)) (by rw [rd, Int.toNat_natCast, List.getD_eq_getElem?_getD, List.getElem?_eq_getElem hlt]; exact List.getElem_mem hlt)
            rw [Int.toNat_natCast] at hpx
            obtain ⟨p, hpp⟩ : ∃ p : Nat, rd ps (i : Int) = (p : Int) := ⟨(rd ps (i : Int)).toNat, by omega⟩
            rw [hpp] at hpx hpb
            have hmod : p % l.length < l.length := Nat.mod_lt _ (by have := HL0.out; omega)
            obtain ⟨ad, x, rfl, hok, hxm, g0, g1, g2, g3⟩ := okQ_here HC.out hmod
            replace hpx := (HBW.out.cell (World.block_lt_of_cell? w _ hpx)).trans hpx
            replace g0 := (HBW.out.cell (World.block_lt_of_cell? w _ g0)).trans g0
            replace g1 := (HBW.out.cell (World.block_lt_of_cell? w _ g1)).trans g1
            replace g2 := (HBW.out.cell (World.block_lt_of_cell? w _ g2)).trans g2
            replace g3 := (HBW.out.cell (World.block_lt_of_cell? w _ g3)).trans g3
            have hww : IntKind.i64.wrap (p : Int) = (p : Int) := IntWalk.i64_in _ (by omega)
            have hw2 : IntKind.i64.wrap ((i : Int) + 1) = (i : Int) + 1 := IntWalk.i64_in _ (by have := HP40.out; omega)
            have htm : Int.tmod (p : Int) (l.length : Int) = ((p % l.length : Nat) : Int) := by rw [Int.tmod_eq_emod_of_nonneg (by omega)]; omega
            obtain ⟨q, hq⟩ : ∃ q, q = p % l.length := ⟨_, rfl⟩
            rw [← hq] at hmod htm g0 g1 g2 g3
            have hww2 : IntKind.i64.wrap (q : Int) = (q : Int) := IntWalk.i64_in _ (by have := HL40.out; omega)
            have q1 : ((q : Int) < (l.length : Int)) = True := eq_true (by omega)
            have q2 : (q < l.length) = True := eq_true hmod
            have q3 : (0 ≤ (q : Int)) = True := eq_true (by omega)
            have r1 : ((i : Int) < (ps.length : Int)) = True := eq_true (by omega)
            have r2 : (i < ps.length) = True := eq_true hlt
            have HOK := Aside0.mk hok
            have HSQ := Aside0.mk (by have := HP40.out; omega : (qs.length + 1) * 48 ≤ 140737488355328)
            clear hok hxm hq hpp
            go_wp2_with ((with_reducible refine gate_builtin (b := .append) (xs := #[.tmp 36, .tmp 48]) rfl ?_); at_builtin; refine Kd.R_append kq42 (w0 := w1) w1.heap.size rfl (.tmp 36) (.tmp 48) 33 42 (.agg #[(.slice none 0 0), (.int .i64 0), (.int .i64 0), (.int .i64 0)]) 48 rfl Try.underlying33 info42 rfl (by decide) (by omega) u5 qs x [.slice x.A x.m.f0.length x.c, .int .i64 x.m.f1.f0, .int .i64 x.m.f1.f1, .int .i64 x.m.f1.f2] (fun _ => True) (fun _ => False) rfl rfl ?aP (fun _ hk => hk.elim) ?aF ?aO ?aB ?aS ?aL ?_; (case aP => exact kq42_mkM _ _ _ x); (case aF => exact (fun _ _ => trivial)); (case aO => exact HO.out); (case aB => exact HB.out); (case aS => exact HB.out.size); (case aL => exact HSQ.out); intro v49 w4 ho hb hg hat; have HO4 := Aside0.mk ho; have HB4 := Aside0.mk hb; clear ho hb hg hat)
            go_roundg kk
            case measure => omega
            case rel => exact ⟨i + 1, qs ++ [x], by first | rfl | go_num, by omega, by omega, by rw [List.length_append, hql]; rfl, ⟨fun y hy => by
              rcases List.mem_append.1 hy with hy | hy
              · exact HQ.out y hy
              · rw [List.mem_singleton.1 hy]; exact HOK.out⟩, HO4, HB4⟩
          · obtain rfl : i = ps.length := by omega
            have r1 : ((ps.length : Int) < (ps.length : Int)) = False := eq_false (by omega)
            have HQL := Aside0.mk hql
            have HBW := Aside0.mk (below_then HB1.out HB1.out.size HB.out : Below w.heap.size w wr)
            have hlw : IntKind.i64.wrap ((l.length : Int) - 1) = (l.length : Int) - 1 := IntWalk.i64_in _ (by have := HL40.out; omega)
            clear hql hi
            go_wp2
            clear hlw
            go_loopg [5, 7] (l.length + 1) (fun kq v5 v7 wq => ∃ (j : Nat) (qs' : List Q42), v7 = .int .i64 ((j : Int) - 1) ∧ j ≤ l.length ∧ kq = j + 1 ∧ qs'.length + j = ps.length + l.length ∧ Aside0 (∀ x ∈ qs', okQ w l x) ∧ Aside0 (∀ t (ht : t < l.length), j ≤ t → ∃ x ∈ qs', x.m = l[t]) ∧ Aside0 (Kd.R kq42 42 wq w1.heap.size (fun _ => True) v5 qs') ∧ Aside0 (Below w1.heap.size w1 wq))
            case atStart => exact ⟨l.length, qs, rfl, Nat.le_refl _, rfl, by have := HQL.out; omega, HQ, ⟨fun t ht hj => by omega⟩, HO, HB⟩
            case round =>
              obtain ⟨j, qs', rfl, hj, hk2, hqn, HQ, HT, HO, HB⟩ := hrel
              by_cases hlt : 0 < j
              · obtain ⟨t, rfl⟩ : ∃ t, j = t + 1 := ⟨j - 1, by omega⟩
                obtain ⟨kk, rfl⟩ : ∃ kk, gk = kk + 1 := ⟨gk - 1, by omega⟩
                have HBW := Aside0.mk (below_then HB1.out HB1.out.size HB.out : Below w.heap.size w wr)
                have htl : t < l.length := by omega
                obtain ⟨ad, x, rfl, hok, hxm, g0, g1, g2, g3⟩ := okQ_here HC.out htl
                replace g0 := (HBW.out.cell (World.block_lt_of_cell? w _ g0)).trans g0
                replace g1 := (HBW.out.cell (World.block_lt_of_cell? w _ g1)).trans g1
                replace g2 := (HBW.out.cell (World.block_lt_of_cell? w _ g2)).trans g2
                replace g3 := (HBW.out.cell (World.block_lt_of_cell? w _ g3)).trans g3
                have he : (((t + 1 : Nat) : Int) - 1) = (t : Int) := by omega
                rw [he]
                have hww2 : IntKind.i64.wrap ((t : Int) - 1) = (t : Int) - 1 := IntWalk.i64_in _ (by have := HL40.out; omega)
                have q1 : ((t : Int) < (l.length : Int)) = True := eq_true (by omega)
                have q2 : (t < l.length) = True := eq_true htl
                have q3 : (0 ≤ (t : Int)) = True := eq_true (by omega)
                have HOK := Aside0.mk hok
                have HXM := Aside0.mk hxm
                have HSQ := Aside0.mk (by have := HP40.out; have := HL40.out; omega : (qs'.length + 1) * 48 ≤ 140737488355328)
                clear hok hxm he
                go_wp2_with ((with_reducible refine gate_builtin (b := .append) (xs := #[.tmp 57, .tmp 62]) rfl ?_); at_builtin; refine Kd.R_append kq42 (w0 := w1) w1.heap.size rfl (.tmp 57) (.tmp 62) 33 42 (.agg #[(.slice none 0 0), (.int .i64 0), (.int .i64 0), (.int .i64 0)]) 48 rfl Try.underlying33 info42 rfl (by decide) (by omega) u5 qs' x [.slice x.A x.m.f0.length x.c, .int .i64 x.m.f1.f0, .int .i64 x.m.f1.f1, .int .i64 x.m.f1.f2] (fun _ => True) (fun _ => False) rfl rfl ?aP (fun _ hk => hk.elim) ?aF ?aO ?aB ?aS ?aL ?_; (case aP => exact kq42_mkM _ _ _ x); (case aF => exact (fun _ _ => trivial)); (case aO => exact HO.out); (case aB => exact HB.out); (case aS => exact HB.out.size); (case aL => exact HSQ.out); intro v49 w4 ho hb hg hat; have HO4 := Aside0.mk ho; have HB4 := Aside0.mk hb; clear ho hb hg hat)
                go_roundg kk
                case measure => omega
                case rel => exact ⟨t, qs' ++ [x], by first | rfl | go_num, by omega, by omega, by rw [List.length_append, List.length_singleton]; omega, ⟨fun y hy => by
                  rcases List.mem_append.1 hy with hy | hy
                  · exact HQ.out y hy
                  · rw [List.mem_singleton.1 hy]; exact HOK.out⟩, ⟨fun s hs hj2 => by
                  by_cases e : s = t
                  · subst e; exact ⟨x, by simp, HXM.out⟩
                  · obtain ⟨y, hy, e2⟩ := HT.out s hs (by omega)
                    exact ⟨y, List.mem_append_left _ hy, e2⟩⟩, HO4, HB4⟩
              · obtain rfl : j = 0 := by omega
                obtain ⟨A9, c9, rfl, hc9, hC9⟩ := Kd.R_reads HO.out
                have hq9 : ∀ x ∈ qs', x.m.f0.length ≤ x.c ∧ k54.C wr x.A x.m.f0.length x.m.f0 := fun x hx => ⟨(HQ.out x hx).2.1, Kd.C_below (HQ.out x hx).2.2 (below_then HB1.out HB1.out.size HB.out)⟩
                have hCo := C_of_q hC9 hq9
                obtain ⟨o, ho⟩ : ∃ o, o = qs'.map (·.m) := ⟨_, rfl⟩
                have hol : qs'.length = o.length := by rw [ho, List.length_map]
                have hs : ∀ m, m ∈ l ↔ m ∈ o := fun m => by
                  rw [ho]
                  constructor
                  · intro hm
                    obtain ⟨t, ht, rfl⟩ := List.mem_iff_getElem.1 hm
                    obtain ⟨x, hx, e⟩ := HT.out t ht (Nat.zero_le _)
                    exact List.mem_map.2 ⟨x, hx, e⟩
                  · intro hm
                    obtain ⟨x, hx, rfl⟩ := List.mem_map.1 hm
                    exact (HQ.out x hx).1
                rw [← ho] at hCo
                rw [hol] at hCo hc9 hqn ⊢
                have HLo := Aside0.mk (⟨by have := HP40.out; have := HL40.out; omega, fun m hm => HL.out.2 m ((hs m).2 hm)⟩ : fewL o)
                obtain ⟨hjo, hmo⟩ := set_congr hs
                have HBq := Aside0.mk (below_then HB1.out HB1.out.size HB.out : Below w.heap.size w wr)
                have HCo := Aside0.mk hCo
                have HKo := Aside0.mk hc9
                obtain ⟨xs, e1, hj1⟩ : ∃ xs e1, joinP l = (xs, e1) := ⟨_, _, rfl⟩
                obtain ⟨ms, e2, hm1⟩ : ∃ ms e2, missS l = (ms, e2) := ⟨_, _, rfl⟩
                have HML := Aside0.mk (by have := miss_len l; rw [hm1] at this; exact Nat.lt_of_le_of_lt this (by decide) : ms.length < 4611686018427387904)
                have HJ := Aside0.mk hj1
                have HM := Aside0.mk hm1
                have HJo := Aside0.mk (hjo.trans hj1)
                have HMo := Aside0.mk (hmo.trans hm1)
                have he : (((0 : Nat) : Int) - 1) = -1 := by omega
                rw [he]
                clear hq9 hCo ho hol hs hjo hmo hj1 hm1 he hqn hc9 hC9 hj hk2 hlt
                go_wp2_with (fail)
                have k1 := Join_few _ c l _ (Kd.C_below HC.out HBq.out) HCC.out HL.out
                rw [HJ.out] at k1
                refine k1.mono ?_
                clear k1
                rintro e w2 ⟨A2, c2, rfl, hc2, hC2, hb2⟩
                have HB2 := Aside0.mk (below_then HBq.out HBq.out.size hb2)
                have HCo := Aside0.mk (Kd.C_below HCo.out hb2)
                have HC2 := Aside0.mk hC2
                have HK2 := Aside0.mk hc2
                clear hc2 hC2 hb2
                go_wp2_with (fail)
                have k1 := Join_few _ c9 o _ HCo.out HKo.out HLo.out
                rw [HJo.out] at k1
                refine k1.mono ?_
                clear k1
                rintro e w3 ⟨A3, c3, rfl, hc3, hC3, hb3⟩
                have HB3 := Aside0.mk (below_then HB2.out HB2.out.size hb3)
                have HCo := Aside0.mk (Kd.C_below HCo.out hb3)
                have HC2 := Aside0.mk (Kd.C_below HC2.out hb3)
                have HC3 := Aside0.mk hC3
                have HK3 := Aside0.mk hc3
                clear hc3 hC3 hb3
                go_wp2_with (fail)
                have k1 := Missing_few _ c l _ (Kd.C_below HC.out HB3.out) HCC.out HL.out
                rw [HM.out] at k1
                refine k1.mono ?_
                clear k1
                rintro e w4 ⟨A4, c4, rfl, hc4, hC4, hb4⟩
                have HB4 := Aside0.mk (below_then HB3.out HB3.out.size hb4)
                have HCo := Aside0.mk (Kd.C_below HCo.out hb4)
                have HC2 := Aside0.mk (Kd.C_below HC2.out hb4)
                have HC3 := Aside0.mk (Kd.C_below HC3.out hb4)
                have HC4 := Aside0.mk hC4
                have HK4 := Aside0.mk hc4
                clear hc4 hC4 hb4
                go_wp2_with (fail)
                have k1 := Missing_few _ c9 o _ HCo.out HKo.out HLo.out
                rw [HMo.out] at k1
                refine k1.mono ?_
                clear k1
                rintro e w5 ⟨A5, c5, rfl, hc5, hC5, hb5⟩
                have HB5 := Aside0.mk (below_then HB4.out HB4.out.size hb5)
                have hx2 := Kd.C_string (P := Try.prog) (src := 22) (dst := 9) (c := c2) Try.underlying22 Try.underlying5 Try.underlying9 (Kd.C_below HC2.out hb5)
                have hx3 := Kd.C_string (P := Try.prog) (src := 22) (dst := 9) (c := c3) Try.underlying22 Try.underlying5 Try.underlying9 (Kd.C_below HC3.out hb5)
                have HC4 := Aside0.mk (Kd.C_below HC4.out hb5)
                have HC5 := Aside0.mk hC5
                have HK5 := Aside0.mk hc5
                clear hc5 hC5 hb5
                go_wp2_with (first
                  | ((with_reducible refine (same_self A4 A5 c4 c5 ms HML.out _ HC4.out HK4.out HC5.out HK5.out).mono ?_); rintro e w6 ⟨rfl, ⟨nd6, rfl⟩⟩)
                  | ((with_reducible refine (exampleHolds_calls _).mono ?_); rintro e w7 ⟨rfl, hb7⟩; have HB7 := Aside0.mk hb7; clear hb7))
                go_ret
                exact ⟨rfl, below_then (pw_below_drewN HB5.out _) (pw_below_drewN HB5.out _).size HB7.out⟩

end Go.Proofs.Ytclbjddcenkidaa.PS
namespace Go.Proofs.Ytclbjddcenkidaa.PS
open Go.RowKit Go.Proofs.YtclbjddcenkidaaW.PrintWords Go.Proofs.YtclbjddcenkidaaW.PrintLast Go.Proofs.YtclbjddcenkidaaW.PrintMore
attribute [local go_sem] max2_int min2_int max_two min_two max_three min_three max_four min_four
section
variable {H : Type} {enc : TypeId × Value → H} {w : World} {base : Nat} {spare : Nat → Bool} {held : Bool}
theorem op_rowp {α : Type} (z : α) (d : Kd α) (pr : α → Prop) {t e : TypeId} {fuel : Nat} {cs : List Value} {x : DataW H × List MemPlace} (ht : Try.prog.underlying t = some (.slice e)) (hsz : Try.prog.cellsOf e = d.sz)
    (ih : ∀ fuel cs x, DataW.trod enc Try.prog w base spare held fuel e cs = some x → ∃ y, d.K w y cs ∧ pr y) (h : DataW.trod enc Try.prog w base spare held fuel t cs = some x) :
    ∃ (A : Option Addr) (xs : List α) (c : Nat), cs = [.slice A xs.length c] ∧ xs.length ≤ c ∧ d.C w A xs.length xs ∧ ∀ x ∈ xs, pr x := by
  rcases Go.Deep.open_slice ht h with ⟨rfl, _⟩ | ⟨a, len, cap, m, n, D, Pl, rfl, _, hl, hm, hmm, _, hx⟩
  · exact ⟨none, [], 0, rfl, Nat.le_refl _, ⟨rfl, by simp, fun h => by simp at h⟩, fun x hx => by simp at hx⟩
  · have hlm : len ≤ m := by rw [hmm]; split <;> omega
    obtain ⟨f, hf⟩ := @Go.Deep.choose_lt α ⟨z⟩ len (fun i y => ∃ cs', w.cells? base (a.add (i * Try.prog.cellsOf e)) (Try.prog.cellsOf e) = some cs' ∧ d.K w y cs' ∧ pr y) (fun i hi => by
      obtain ⟨cs', h1, h2⟩ := hx i (by omega)
      obtain ⟨y, hy⟩ := ih _ _ _ h2
      exact ⟨y, cs', h1, hy⟩)
    have hlen : ((List.range len).map f).length = len := by simp
    have hml : maxLen = 9223372036854775807 := by decide
    refine ⟨some a, (List.range len).map f, cap, by rw [hlen], by omega, ⟨rfl, by omega, fun _ => ⟨a, rfl, fun j y hj => ?_⟩⟩, fun x hx => ?_⟩
    · rw [List.getElem?_map] at hj
      have hjl : j < len := by
        cases hr : (List.range len)[j]? with
        | none => rw [hr] at hj; simp at hj
        | some q =>
          have := (List.getElem?_eq_some_iff.1 hr).1
          simpa using this
      rw [List.getElem?_range hjl] at hj
      obtain rfl : f j = y := by simpa using hj
      obtain ⟨cs', h1, h2, _⟩ := hf j hjl
      obtain ⟨_, h4, h5⟩ := World.cells?_some h1
      refine ⟨cs', by rw [h4, hsz], h2, fun i u hi => ?_⟩
      have hil : i < cs'.length := (List.getElem?_eq_some_iff.1 hi).1
      have := h5 i (by omega)
      rw [Go.Deep.add_add, hsz, hi] at this
      exact this
    · obtain ⟨i, hi, rfl⟩ := List.mem_map.1 hx
      obtain ⟨_, _, _, h⟩ := hf i (List.mem_range.1 hi)
      exact h
theorem op_picks {v : Value} {d : DataW H} {p : List MemPlace} (h : DataW.Trod enc Try.prog w base spare held 22 v d p) {a : Option Addr} {n c : Nat} (hv : v = .slice a n c) : ∃ xs : List Int, n = xs.length ∧ xs.length ≤ c ∧ (Kd.int .u8).C w a xs.length xs ∧ ∀ x ∈ xs, 0 ≤ x ∧ x < 256 := by
  obtain ⟨fuel, hf⟩ := h
  subst hv
  obtain ⟨A, xs, c', e, hle, hC, hx⟩ := op_rowp 0 (Kd.int .u8) (fun x => 0 ≤ x ∧ x < 256) Try.underlying22 (by kernel_rfl) (fun _ _ _ h => by
    obtain ⟨n, rfl, _, hw⟩ := DataW.trod_int Try.underlying5 h
    refine ⟨n, rfl, ?_⟩
    have e1 : IntKind.u8.min = 0 := by decide
    have e2 : IntKind.u8.max = 255 := by decide
    simp only [Lit.wf, e1, e2, Bool.and_eq_true, decide_eq_true_eq] at hw
    omega) hf
  simp [Value.cells] at e
  obtain ⟨rfl, rfl, rfl⟩ := e
  exact ⟨xs, rfl, hle, hC, hx⟩
end

end Go.Proofs.Ytclbjddcenkidaa.PS
