-- Texts of this claim, merged by the prover's program (wip/tools/trim.py); theorems that no proof uses are left out.
import Derived.Test.YtclbjddcenkidaaKD2
import Derived.Maps.StringElems
import Derived.Maps.OwnIn
import Derived.Shelf.Small.Strs
import Derived.Shelf.Strings.Search1
import Derived.Shelf.Sort.Plain
import Derived.Shelf.Slices.In.SortNone
import Derived.Test.YtclbjddcenkidaaProg
import Derived.Lib.SlKeysI
import Derived.Sort.OwnSortedInts
import Derived.WalkSpells
set_option linter.unusedVariables false
set_option linter.unusedSimpArgs false
namespace Go.Proofs.Ytclbjddcenkidaa.PS
open Go.RowKit Go.Proofs.YtclbjddcenkidaaW.PrintWords Go.Proofs.YtclbjddcenkidaaW.PrintLast Go.Proofs.YtclbjddcenkidaaW.PrintMore
attribute [local go_sem] max2_int min2_int max_two min_two max_three min_three max_four min_four
def validS (a : S40) : Bool := (a.f0 == 0 && (a.f1 == 0 && a.f2 == 0)) || (decide (2 ≤ a.f1) && (decide (a.f1 ≤ 16) && (decide (0 ≤ a.f0) && (decide (a.f0 < a.f1) && (decide (0 ≤ a.f2) && decide (a.f2 ≤ 255))))))
theorem valid_f (a : S40) : split_valid.f a.f0 a.f1 a.f2 = some (validS a) := by
  unfold split_valid.f validS
  repeat' split
  all_goals first | (simp_all; done) | (simp_all; omega)
set_option maxHeartbeats 4000000 in
set_option maxRecDepth 100000 in
theorem collected1_calls (A : Option Addr) (c n : Nat) (a : S40) (w : World) :
    Calls Try.prog 36 #[.agg #[.slice A n c, .int .i64 a.f0, .int .i64 a.f1, .int .i64 a.f2]] w fun e w' => e = .returned (.bool !validS a) ∧ Below w.heap.size w w' := by
  have hu42 := Try.underlying42
  go_enter Try.func36, Try.ntmps36
  go_wp2_with (fail)
  refine (split_valid.calls a.f0 a.f1 a.f2 _ _ (valid_f a)).mono ?_
  rintro e w1 ⟨rfl, hb1⟩
  go_wp2
  go_ret
  exact ⟨rfl, below_step (by repeat (first | exact Below.refl _ _ | apply below_alloc)) hb1⟩
set_option maxHeartbeats 4000000 in
set_option maxRecDepth 100000 in
theorem IndexFunc_calls (A : Option Addr) (c : Nat) (l : List S42) (w : World) (hC : Kd.C k42 w A l.length l) (hc : l.length ≤ c) (hlen : l.length < 4611686018427387904) :
    Calls Try.prog 49 #[.slice A l.length c, .func (.func 36) #[] #[]] w fun e w' => ∃ r : Int, e = .returned (.int .i64 r) ∧ decide (r ≥ 0) = l.any (fun m => !validS m.f1) ∧ Below w.heap.size w w' := by
  have HC := Aside0.mk hC
  clear hC
  go_enter Try.func49, Try.ntmps49
  go_wp2
  go_loopg [5, 8] (l.length + 1) (fun kq s5 s8 wr => ∃ (i : Nat), s8 = .int .i64 i ∧ i ≤ l.length ∧ kq + i = l.length + 1 ∧ Aside0 (Below w.heap.size w wr) ∧ Aside0 ((l.take i).any (fun m => !validS m.f1) = false))
  case atStart => exact ⟨0, rfl, Nat.zero_le _, rfl, ⟨Below.refl _ _⟩, ⟨rfl⟩⟩
  case round =>
    obtain ⟨i, rfl, hi, hk, HB, HN⟩ := hrel
    obtain ⟨kk, rfl⟩ : ∃ kk, gk = kk + 1 := ⟨gk - 1, by omega⟩
    by_cases hlt : i < l.length
    · obtain ⟨ad, A0, c0, rfl, h0, h1, h2, h3, hl0, hi0⟩ := at_T42 (Kd.C_below HC.out HB.out) (i : Int) (by omega) (by omega)
      rw [Int.toNat_natCast] at h0 h1 h2 h3
      have hg : l[i]? = some (rd_T42 l (i : Int)) := by rw [rd_T42, Int.toNat_natCast, List.getD_eq_getElem?_getD, List.getElem?_eq_getElem hlt]; rfl
      have hc' := collected1_calls A0 c0 (rd_T42 l (i : Int)).f0.length (rd_T42 l (i : Int)).f1 wr
      clear hi0 hl0
      have hany : (l.take (i + 1)).any (fun m => !validS m.f1) = ((l.take i).any (fun m => !validS m.f1) || !validS (rd_T42 l (i : Int)).f1) := by
        rw [List.take_add_one, hg, List.any_append]; simp
      have hmem : rd_T42 l (i : Int) ∈ l := List.mem_of_getElem? hg
      rw [HN.out, Bool.false_or] at hany
      have hq : l.any (fun m => !validS m.f1) = ((!validS (rd_T42 l (i : Int)).f1) || l.any (fun m => !validS m.f1)) := by
        cases hv : validS (rd_T42 l (i : Int)).f1
        · rw [List.any_eq_true.2 ⟨_, hmem, by simp [hv]⟩]; rfl
        · rfl
      have hw : IntKind.i64.wrap ((i : Int) + 1) = (i : Int) + 1 := IntWalk.i64_in _ (by omega)
      clear hg
      cases hv : validS (rd_T42 l (i : Int)).f1 <;> rw [hv] at hc' hany hq
      · have HC' := Aside0.mk hc'
        have HQ := Aside0.mk hq
        clear hc' hany hq hw
        go_wp2_with (fail)
        refine HC'.out.mono ?_
        rintro e w1 ⟨rfl, hb1⟩
        have HB1 := Aside0.mk hb1
        clear hb1 HC'
        go_wp2
        go_ret
        refine ⟨_, rfl, ?_, below_then HB.out HB.out.size HB1.out⟩
        rw [HQ.out]
        simp
      · have HC' := Aside0.mk hc'
        have HA := Aside0.mk hany
        clear hc' hany hq
        go_wp2_with (fail)
        refine HC'.out.mono ?_
        rintro e w1 ⟨rfl, hb1⟩
        have HB1 := Aside0.mk hb1
        clear hb1 HC'
        go_wp2
        go_roundg kk
        case measure => omega
        case rel => exact ⟨i + 1, by first | rfl | go_num, by omega, by omega, ⟨below_then HB.out HB.out.size HB1.out⟩, HA⟩
    · have he : i = l.length := by omega
      have hf : l.any (fun m => !validS m.f1) = false := by have := HN.out; rwa [he, List.take_length] at this
      have HF := Aside0.mk hf
      clear hf
      subst he
      go_wp2
      go_ret
      exact ⟨_, rfl, by rw [HF.out]; rfl, HB.out⟩
set_option maxHeartbeats 4000000 in
set_option maxRecDepth 100000 in
theorem ContainsFunc_calls (A : Option Addr) (c : Nat) (l : List S42) (w : World) (hC : Kd.C k42 w A l.length l) (hc : l.length ≤ c) (hlen : l.length < 4611686018427387904) :
    Calls Try.prog 35 #[.slice A l.length c, .func (.func 36) #[] #[]] w fun e w' => e = .returned (.bool (l.any (fun m => !validS m.f1))) ∧ Below w.heap.size w w' := by
  have HC := Aside0.mk (IndexFunc_calls A c l w hC hc hlen)
  clear hC
  go_enter Try.func35, Try.ntmps35
  go_wp2_with (fail)
  refine HC.out.mono ?_
  rintro e w1 ⟨r, rfl, hr, hb1⟩
  have HB1 := Aside0.mk hb1
  have HR := Aside0.mk hr
  clear hb1 HC hr
  go_wp2
  go_ret
  exact ⟨by first | (rw [← HR.out]; done) | (rw [← HR.out]; rfl) | (simp [← HR.out]), HB1.out⟩

end Go.Proofs.Ytclbjddcenkidaa.PS
namespace Go.Proofs.Ytclbjddcenkidaa.PS
open Go.RowKit Go.Proofs.YtclbjddcenkidaaW.PrintWords Go.Proofs.YtclbjddcenkidaaW.PrintLast Go.Proofs.YtclbjddcenkidaaW.PrintMore
attribute [local go_sem] max2_int min2_int max_two min_two max_three min_three max_four min_four
open Go.Maps
/-- the text of a message's segments -/
def joinS (l : List S54) : List Int := l.flatMap (·.f1)
def textB (m : S42) : ByteArray := strOfNums (joinS m.f0)
def smallM (m : S42) : Prop := (joinS m.f0).length < 140737488355328 ∧ m.f0.length < 4611686018427387904
theorem join_ev (l : List S54) (hl : l.length < 4611686018427387904) (h : (joinS l).length < 140737488355328) : ∃ k, modes_Join.f k l = some (joinS l) := by
  refine ⟨l.length + 1, ?_⟩
  suffices H : ∀ n i (acc : List Int), i + n = l.length → acc = joinS (l.take i) → modes_Join.l0 (n + 1) acc l (l.length : Int) (i : Int) = some (joinS l) from H l.length 0 [] (by omega) (by simp [joinS])
  intro n
  induction n with
  | zero =>
    intro i acc hi ha
    rw [modes_Join.l0, if_neg (by omega), ha, show i = l.length by omega, List.take_length]
  | succ n ih =>
    intro i acc hi ha
    have hlt : i < l.length := by omega
    have hg : l[i]? = some (rd_T54 l (i : Int)) := by rw [rd_T54, Int.toNat_natCast, List.getD_eq_getElem?_getD, List.getElem?_eq_getElem hlt]; rfl
    have e : acc ++ (rd_T54 l (i : Int)).f1 = joinS (l.take (i + 1)) := by
      rw [ha, joinS, joinS, List.take_add_one, hg]; simp
    have e2 : joinS l = joinS (l.take (i + 1)) ++ joinS (l.drop (i + 1)) := by
      rw [joinS, joinS, joinS, ← List.flatMap_append, List.take_append_drop]
    have e3 : (joinS l).length = (acc ++ (rd_T54 l (i : Int)).f1).length + (joinS (l.drop (i + 1))).length := by rw [e2, e, List.length_append]
    rw [List.length_append] at e3
    have hw : wrap64 ((i : Int) + 1) = ((i + 1 : Nat) : Int) := by unfold wrap64; omega
    rw [modes_Join.l0, if_pos (by omega), if_pos (by omega), if_pos (by omega), if_pos (by omega), hw]
    exact ih (i + 1) _ (by omega) e
/-- a map from numbers to texts, as the list of its entries in the order in which they came -/
structure MapIs (D : DataW Unit) (es : List (Int × ByteArray)) : Prop where
  tidy : Tidy D
  has : ∀ x, Maps.has D (.int .i64 x) = (es.lookup x).isSome
  at_ : ∀ x s, es.lookup x = some s → ∀ z, D.atKey (.int .i64 x) z = .lit (.string s.data.toList)
  size : Maps.size D = es.length
  nodup : (es.map (·.1)).Nodup
theorem MapIs.nil : MapIs (.map []) [] := ⟨tidy_empty, fun _ => rfl, fun _ _ h => by simp at h, rfl, List.nodup_nil⟩
theorem lit_ne {x y : Int} (h : y ≠ x) : (Lit.int .i64 y) ≠ (Lit.int .i64 x) := fun e => h (by injection e)
theorem lookup_snoc (es : List (Int × ByteArray)) (x : Int) (s : ByteArray) (y : Int) : (es ++ [(x, s)]).lookup y = (es.lookup y).or (if y == x then some s else none) := by
  rw [List.lookup_append]
  simp only [List.lookup]
  cases h : y == x <;> simp
theorem lookup_none {es : List (Int × ByteArray)} {x : Int} (h : es.lookup x = none) : ∀ p ∈ es, p.1 ≠ x := by
  intro p hp e
  rw [List.lookup_eq_none_iff] at h
  have := h p hp
  simp [e] at this
theorem MapIs.put {D : DataW Unit} {es : List (Int × ByteArray)} (h : MapIs D es) {x : Int} (hx : (Lit.int .i64 x).wf = true) (s : ByteArray) (hs : es.lookup x = none) : MapIs (D.put (.int .i64 x) (.lit (.string s.data.toList))) (es ++ [(x, s)]) := by
  have hk : WideAt.IsKeyLit (Lit.int .i64 x) := by first | exact trivial | exact hx | simpa [WideAt.IsKeyLit] using hx
  refine ⟨h.tidy.put hk _, fun y => ?_, fun y t ht z => ?_, ?_, ?_⟩
  · by_cases e : y = x
    · subst e; rw [has_put_same h.tidy.isMap hk, lookup_snoc]; simp
    · rw [has_put_other (lit_ne e), h.has, lookup_snoc]; simp [e]
  · rw [lookup_snoc] at ht
    by_cases e : y = x
    · subst e
      rw [hs] at ht
      simp at ht
      subst ht
      rw [atKey_put_same h.tidy.isMap hk]
    · rw [atKey_put_other (lit_ne e)]
      simp [e] at ht
      exact h.at_ y t ht z
  · rw [size_put h.tidy, h.has, hs, if_neg (by simp), h.size]; simp
  · rw [List.map_append, List.nodup_append]
    refine ⟨h.nodup, by simp, fun a ha b hb => ?_⟩
    obtain ⟨p, hp, rfl⟩ := List.mem_map.1 ha
    simp at hb
    rw [hb]
    exact lookup_none hs p hp
theorem MapIs.again {D : DataW Unit} {es : List (Int × ByteArray)} (h : MapIs D es) {x : Int} (hx : (Lit.int .i64 x).wf = true) (s : ByteArray) (hs : es.lookup x = some s) : MapIs (D.put (.int .i64 x) (.lit (.string s.data.toList))) es := by
  have hk : WideAt.IsKeyLit (Lit.int .i64 x) := by first | exact trivial | exact hx | simpa [WideAt.IsKeyLit] using hx
  refine ⟨h.tidy.put hk _, fun y => ?_, fun y t ht z => ?_, ?_, ?_⟩
  · by_cases e : y = x
    · subst e; rw [has_put_same h.tidy.isMap hk, hs]; rfl
    · rw [has_put_other (lit_ne e), h.has]
  · by_cases e : y = x
    · subst e
      rw [hs] at ht
      cases ht
      rw [atKey_put_same h.tidy.isMap hk]
    · rw [atKey_put_other (lit_ne e)]
      exact h.at_ y t ht z
  · rw [size_put h.tidy, h.has, hs, if_pos (by rfl), h.size]
  · exact h.nodup
/-- does a message fit what was met before -/
def badS (first : S40) (es : List (Int × ByteArray)) (m : S42) : Bool := m.f1.f1 != first.f1 || (m.f1.f2 != first.f2 || (match es.lookup m.f1.f0 with | some old => old.data.toList != (textB m).data.toList | none => false))
def putS (es : List (Int × ByteArray)) (m : S42) : List (Int × ByteArray) := match es.lookup m.f1.f0 with | some _ => es | none => es ++ [(m.f1.f0, textB m)]
def colR (first : S40) : List S42 → List (Int × ByteArray) → Option (List (Int × ByteArray))
  | [], es => some es
  | m :: l, es => if badS first es m = true then none else colR first l (putS es m)
def colS (l : List S42) : Int × List (Int × ByteArray) :=
  if l.length = 0 then (5, []) else if l.any (fun m => !validS m.f1) = true then (1, []) else match colR (rd_T42 l 0).f1 l [] with | none => (34, []) | some es => (0, es)

end Go.Proofs.Ytclbjddcenkidaa.PS
namespace Go.Proofs.Ytclbjddcenkidaa.PS
open Go.RowKit Go.Proofs.YtclbjddcenkidaaW.PrintWords Go.Proofs.YtclbjddcenkidaaW.PrintLast Go.Proofs.YtclbjddcenkidaaW.PrintMore
attribute [local go_sem] max2_int min2_int max_two min_two max_three min_three max_four min_four
open Go.Maps
theorem law3 : Keyed Try.prog 3 := int_keyed Try.underlying3
theorem zero9 (w : World) : (zeroValue 9).run Try.prog w = .ok (.string ByteArray.empty) w := by kernel_rfl
theorem err_nil {l : List S42} (h : l.length = 0) : (colS l).1 = 5 := by unfold colS; rw [if_pos h]
theorem err_bad {l : List S42} (h : l.length ≠ 0) (h2 : l.any (fun m => !validS m.f1) = true) : (colS l).1 = 1 := by unfold colS; rw [if_neg h, if_pos h2]
theorem err_con {l : List S42} (h : l.length ≠ 0) (h2 : l.any (fun m => !validS m.f1) = false) (h3 : colR (rd_T42 l 0).f1 l [] = none) : (colS l).1 = 34 := by unfold colS; rw [if_neg h, if_neg (by rw [h2]; simp), h3]
theorem err_ok {l : List S42} (h : l.length ≠ 0) (h2 : l.any (fun m => !validS m.f1) = false) {es} (h3 : colR (rd_T42 l 0).f1 l [] = some es) : colS l = (0, es) := by unfold colS; rw [if_neg h, if_neg (by rw [h2]; simp), h3]
theorem valid_wf {a : S40} (h : validS a = true) : (Lit.int .i64 a.f0).wf = true := by
  unfold validS at h
  have : -9223372036854775808 ≤ a.f0 ∧ a.f0 ≤ 9223372036854775807 := by
    simp only [Bool.or_eq_true, Bool.and_eq_true, beq_iff_eq, decide_eq_true_eq] at h
    omega
  have e1 : IntKind.i64.min = -9223372036854775808 := by decide
  have e2 : IntKind.i64.max = 9223372036854775807 := by decide
  simp only [Lit.wf, e1, e2, Bool.and_eq_true, decide_eq_true_eq]
  exact this
theorem str_of {s t : ByteArray} {d : DataW Unit} {ps : List MemPlace} (h : (d, ps) = (DataW.lit (.string s.data.toList), [])) (h2 : d = .lit (.string t.data.toList)) : t = s := by
  obtain ⟨h3, _⟩ := Prod.mk.inj h
  rw [h2] at h3
  injection h3 with h4
  injection h4 with h5
  cases s; cases t
  congr 1
  exact Array.toList_inj.1 h5
theorem same_bytes {s t : ByteArray} (h : s.toList = t.toList) : s = t := WideShapes.bytes_inj (by rw [← ByteArray.toList_eq, ← ByteArray.toList_eq]; exact h)
/-- what collected returns -/
def colPost (l : List S42) (w : World) (e : Ending) (w' : World) : Prop :=
  (((colS l).1 ≠ 0 ∧ e = .returned (.tuple #[.map none, .agg #[.int .i64 0, .int .i64 0, .int .i64 0], .int .i64 (colS l).1])) ∨
    ((colS l).1 = 0 ∧ ∃ b D, e = .returned (.tuple #[.map (some b), .agg #[.int .i64 (rd_T42 l 0).f1.f0, .int .i64 (rd_T42 l 0).f1.f1, .int .i64 (rd_T42 l 0).f1.f2], .int .i64 0]) ∧ w.heap.size ≤ b ∧ w'.ownsMap Try.prog 3 (plainElem Try.prog 9) b l.length D ∧ MapIs D (colS l).2)) ∧ Below w.heap.size w w'
theorem results_col {tmps : Array Value} {w : World} (g : Nat) (x y z : Int) (v2 v4 : Value) (hp : tmps.getD 3 undef = .pointer (some ⟨g, 0, none⟩)) (h2 : tmps.getD 2 undef = v2) (h4 : tmps.getD 4 undef = v4)
    (hg : w.heap[g]? = some (.cells #[.int .i64 x, .int .i64 y, .int .i64 z] 40 (0, 0))) : (results Try.f26 tmps).run Try.prog w = .ok (.tuple #[v2, .agg #[.int .i64 x, .int .i64 y, .int .i64 z], v4]) w := by
  have hr : Try.f26.results = #[.tmp 2, .cell 3 40, .tmp 4] := by kernel_rfl
  have hp' : tmps[3]?.getD undef = .pointer (some ⟨g, 0, none⟩) := by simpa using hp
  have h2' : tmps[2]?.getD undef = v2 := by simpa using h2
  have h4' : tmps[4]?.getD undef = v4 := by simpa using h4
  have hl := run_loadVar_row (P := Try.prog) w g 40 40 #[.int .i64 x, .int .i64 y, .int .i64 z] (0, 0) _ hg Try.underlying40 rfl (by kernel_rfl)
  simp [results, hr, hp', h2', h4', asAddr, hl]
set_option maxHeartbeats 8000000 in
set_option maxRecDepth 100000 in
theorem collected_calls (A : Option Addr) (c : Nat) (l : List S42) (w : World) (hC : Kd.C k42 w A l.length l) (hc : l.length ≤ c) (hs : ∀ m ∈ l, smallM m) (hlen : l.length < 4611686018427387904) :
    Calls Try.prog 26 #[.slice A l.length c] w (colPost l w) := by
  have hmm := @run_makeMap Try.prog
  have HC := Aside0.mk hC
  have HS := Aside0.mk hs
  have HK := Aside0.mk (ContainsFunc_calls A c l (w.alloc (.cells #[.int .i64 0, .int .i64 0, .int .i64 0] 40)) (Kd.C_alloc hC _) hc hlen)
  clear hC hs
  go_enter Try.func26, Try.ntmps26
  by_cases h0 : l.length = 0
  · go_wp2
    (try simp only [Exit.inBlock, Exit.then])
    refine bodyPost_ret (results_col w.heap.size 0 0 0 _ _ rfl rfl rfl ?_) rfl ?_
    · exact heap_alloc_new w _
    · exact ⟨.inl ⟨by rw [err_nil h0]; decide, by rw [err_nil h0]; rfl⟩, (Below.refl _ _).alloc (Nat.le_refl _) _⟩
  · have h00 : ((l.length : Int) == 0) = false := by apply Bool.eq_false_iff.2; intro h; rw [beq_iff_eq] at h; omega
    go_wp2_with (fail)
    refine HK.out.mono ?_
    rintro e w1 ⟨rfl, hb1⟩
    have hbk1 := blk_below (blk_new w (.cells #[.int .i64 0, .int .i64 0, .int .i64 0] 40)) hb1
    have HBK3 := Aside0.mk hbk1
    have HB1 := Aside0.mk (below_then ((Below.refl _ _).alloc (Nat.le_refl _) _) (by simp) hb1 : Below w.heap.size w w1)
    clear hb1
    cases hbad : l.any (fun m => !validS m.f1) with
    | true =>
      have h1 := err_bad h0 hbad
      have H1 := Aside0.mk h1
      clear hbad h1
      have z0 : w1.cell? ⟨w.heap.size, 0, none⟩ = some (.int .i64 0) := (blk_cell HBK3.out 0).trans rfl
      have z1 : w1.cell? ⟨w.heap.size, 1, none⟩ = some (.int .i64 0) := (blk_cell HBK3.out 1).trans rfl
      have z2 : w1.cell? ⟨w.heap.size, 2, none⟩ = some (.int .i64 0) := (blk_cell HBK3.out 2).trans rfl
      have q0 := blk_frozen HBK3.out 0
      have q1 := blk_frozen HBK3.out 1
      have q2 := blk_frozen HBK3.out 2
      go_wp2
      (try simp only [Exit.inBlock, Exit.then])
      refine bodyPost_ret (results_col w.heap.size 0 0 0 _ _ rfl rfl rfl ?_) rfl ?_
      · exact blk_put (blk_put (blk_put HBK3.out 0 _ rfl) 1 _ rfl) 2 _ rfl
      · exact ⟨.inl ⟨by rw [H1.out]; decide, by rw [H1.out]; rfl⟩, below_set (below_set (below_set HB1.out (Nat.le_refl _)) (Nat.le_refl _)) (Nat.le_refl _)⟩
    | false =>
      have HBAD := Aside0.mk hbad
      clear hbad
      obtain ⟨ad, A0, c0, rfl, f0, f1, f2, f3, hl0, hi0⟩ := at_T42 (Kd.C_below HC.out HB1.out) 0 (by omega) (by omega)
      rw [show ((0 : Int)).toNat = 0 from rfl, show 0 * 4 = 0 from rfl, Addr.add_zero'] at f0 f1 f2 f3
      clear hi0 hl0
      obtain ⟨a, ha⟩ : ∃ a, a = (rd_T42 l 0).f1 := ⟨_, rfl⟩
      rw [← ha] at f1 f2 f3
      have HA := Aside0.mk ha
      clear ha
      have hv : ∀ m ∈ l, validS m.f1 = true := fun m hm => by
        have := List.any_eq_false.1 HBAD.out m hm
        simpa using this
      have HV := Aside0.mk hv
      clear hv
      go_wp2
      go_loopg [26] (l.length + 1) (fun kq v26 wr => ∃ (i : Nat) (es : List (Int × ByteArray)) (D : DataW Unit), v26 = .int .i64 i ∧ i ≤ l.length ∧ kq + i = l.length + 1 ∧ Aside0 (Below w.heap.size w wr) ∧
        Aside0 (wr.heap[w.heap.size]? = some (.cells #[.int .i64 0, .int .i64 0, .int .i64 0] 40 (0, 0))) ∧ Aside0 (wr.heap[w1.heap.size]? = some (.cells #[.int .i64 a.f0, .int .i64 a.f1, .int .i64 a.f2] 40 (0, 0))) ∧
        Aside0 (wr.ownsMap Try.prog 3 (plainElem Try.prog 9) (w1.heap.size + 1) i D) ∧ Aside0 (MapIs D es) ∧ Aside0 (colR a (l.drop i) es = colR a l []))
      case atStart =>
        exact ⟨0, [], .map [], rfl, Nat.zero_le _, rfl, ⟨below_alloc (below_alloc HB1.out _) _⟩, ⟨blk_alloc (blk_alloc HBK3.out _) _⟩, ⟨blk_alloc (blk_new w1 _) _⟩,
          ⟨by have := World.ownsMap_made (H := Unit) (w1.alloc (.cells #[.int .i64 a.f0, .int .i64 a.f1, .int .i64 a.f2] 40)) Try.prog 3 (plainElem Try.prog 9); rwa [show (w1.alloc (.cells #[.int .i64 a.f0, .int .i64 a.f1, .int .i64 a.f2] 40)).heap.size = w1.heap.size + 1 by simp] at this⟩,
          ⟨MapIs.nil⟩, ⟨by rw [List.drop_zero]⟩⟩
      case round =>
        obtain ⟨i, es, D, rfl, hi, hk, HB, BK3, BK5, HM, HI, HR⟩ := hrel
        obtain ⟨kk, rfl⟩ : ∃ kk, gk = kk + 1 := ⟨gk - 1, by omega⟩
        by_cases hlt : i < l.length
        · obtain ⟨ad', A1, c1, e1, g0, g1, g2, g3, hl1, hi1⟩ := at_T42 (Kd.C_below HC.out HB.out) (i : Int) (by omega) (by omega)
          cases e1
          rw [Int.toNat_natCast] at g0 g1 g2 g3
          have hg : l[i]? = some (rd_T42 l (i : Int)) := by rw [rd_T42, Int.toNat_natCast, List.getD_eq_getElem?_getD, List.getElem?_eq_getElem hlt]; rfl
          have hmem : rd_T42 l (i : Int) ∈ l := List.mem_of_getElem? hg
          have hdrop : l.drop i = rd_T42 l (i : Int) :: l.drop (i + 1) := by
            rw [List.drop_eq_getElem_cons hlt]; congr 1
            rw [List.getElem?_eq_getElem hlt] at hg; exact Option.some.inj hg
          have hvm := HV.out _ hmem
          have hsm := HS.out _ hmem
          obtain ⟨m, hm⟩ : ∃ m, m = rd_T42 l (i : Int) := ⟨_, rfl⟩
          rw [← hm] at g0 g1 g2 g3 hl1 hi1 hdrop hvm hsm
          clear hm hg hmem
          have HDR := Aside0.mk hdrop
          have HVM := Aside0.mk hvm
          have HSM := Aside0.mk hsm
          have HL1 := Aside0.mk hl1
          have HI1 := Aside0.mk hi1
          clear hdrop hvm hsm hl1 hi1
          obtain ⟨kj, hkj⟩ := join_ev m.f0 HSM.out.2 HSM.out.1
          have HKJ := Aside0.mk hkj
          clear hkj
          go_wp2_with (fail)
          refine (modes_Join.calls kj A1 c1 m.f0 _ _ (Kd.C_alloc HI1.out _) HL1.out HKJ.out).mono ?_
          rintro e w2 ⟨vj, rfl, hoj, hb2⟩
          have hcv := own_string (P := Try.prog) Try.underlying22 Try.underlying5 Try.underlying9 (Kd.own_of_R hoj)
          have hb2' := hb2
          have BB : Below w.heap.size w w2 := below_then (below_alloc HB.out _) (below_alloc HB.out _).size hb2
          have HB2 := Aside0.mk BB
          have HM2 := Aside0.mk ((HM.out.alloc _).kept (grown_of_below hb2 none) (by simp))
          have BK8 := Aside0.mk (blk_below (blk_new wr (.cells #[.slice A1 m.f0.length c1, .int .i64 m.f1.f0, .int .i64 m.f1.f1, .int .i64 m.f1.f2] 42)) hb2)
          have BK5' := Aside0.mk (blk_below (blk_alloc BK5.out _) hb2)
          have BK3' := Aside0.mk (blk_below (blk_alloc BK3.out _) hb2)
          clear hb2 hb2' BB HB BK5 BK3 HM hoj
          have x1 : w2.cell? ⟨wr.heap.size, 1, none⟩ = some (.int .i64 m.f1.f0) := (blk_cell BK8.out 1).trans rfl
          have x2 : w2.cell? ⟨wr.heap.size, 2, none⟩ = some (.int .i64 m.f1.f1) := (blk_cell BK8.out 2).trans rfl
          have x3 : w2.cell? ⟨wr.heap.size, 3, none⟩ = some (.int .i64 m.f1.f2) := (blk_cell BK8.out 3).trans rfl
          have y1 : w2.cell? ⟨w1.heap.size, 1, none⟩ = some (.int .i64 a.f1) := (blk_cell BK5'.out 1).trans rfl
          have y2 : w2.cell? ⟨w1.heap.size, 2, none⟩ = some (.int .i64 a.f2) := (blk_cell BK5'.out 2).trans rfl
          have hwf : (Lit.int .i64 m.f1.f0).wf = true := valid_wf HVM.out
          have hkey := keyOf_int_mk Try.underlying3 hwf
          rw [← textB] at hcv
          have z0 : w2.cell? ⟨w.heap.size, 0, none⟩ = some (.int .i64 0) := (blk_cell BK3'.out 0).trans rfl
          have z1 : w2.cell? ⟨w.heap.size, 1, none⟩ = some (.int .i64 0) := (blk_cell BK3'.out 1).trans rfl
          have z2 : w2.cell? ⟨w.heap.size, 2, none⟩ = some (.int .i64 0) := (blk_cell BK3'.out 2).trans rfl
          have q0 := blk_frozen BK3'.out 0
          have q1 := blk_frozen BK3'.out 1
          have q2 := blk_frozen BK3'.out 2
          have hcon : badS a es m = true → (colS l).1 = 34 := fun hb => err_con h0 HBAD.out (by rw [← HA.out, ← HR.out, HDR.out, colR, if_pos hb])
          have hgo : badS a es m = false → colR a (l.drop (i + 1)) (putS es m) = colR a l [] := fun hb => by rw [← HR.out, HDR.out, colR, if_neg (by rw [hb]; simp)]
          have HCN := Aside0.mk hcon
          have HGO := Aside0.mk hgo
          clear hcon hgo
          have HN := Aside0.mk (by have : maxLen = 9223372036854775807 := by decide
                                   omega : i < maxLen)
          have HSZ := Aside0.mk (by rw [textB, strOfNums_size]; have := HSM.out.1; have : maxLen = 9223372036854775807 := by decide
                                    omega : (textB m).size ≤ maxLen)
          by_cases hA : m.f1.f1 = a.f1
          · have hA0 : (m.f1.f1 == a.f1) = true := beq_iff_eq.mpr hA
            have hA1 : (m.f1.f1 != a.f1) = false := bne_eq_false_iff_eq.mpr hA
            clear hA
            by_cases hB : m.f1.f2 = a.f2
            · have hB0 : (m.f1.f2 == a.f2) = true := beq_iff_eq.mpr hB
              have hB1 : (m.f1.f2 != a.f2) = false := bne_eq_false_iff_eq.mpr hB
              clear hB
              cases hlk : es.lookup m.f1.f0 with
              | none =>
                have hb : badS a es m = false := by unfold badS; rw [hA1, hB1, hlk]; rfl
                have hhas : Maps.has D (.int .i64 m.f1.f0) = false := by rw [HI.out.has, hlk]; rfl
                have hgo := HGO.out hb
                rw [putS, hlk] at hgo
                have HNX := Aside0.mk hgo
                have HPUT := Aside0.mk (HI.out.put hwf (textB m) hlk)
                clear hb hgo hlk
                go_wp2_with (first | (at_lookup; refine wpList_lookup_own_ok _ rfl _ _ 55 rfl 3 9 law3 Try.underlying55 _ (zero9 _) (.lit (.string [])) [] (plainElem_string Try.underlying9 (by decide)) (w1.heap.size + 1) i D rfl HM2.out _ _ rfl hkey ?_; intro v ps hv; obtain ⟨sv, rfl, hsv, _⟩ := plainElem_string_inv Try.underlying9 hv) | (at_mapUpdate; refine wpList_mapUpdate_own _ rfl _ _ _ 55 rfl 3 9 law3 Try.underlying55 _ (w1.heap.size + 1) i D rfl HM2.out HN.out _ _ _ rfl rfl hkey _ [] (plainElem_string Try.underlying9 HSZ.out) ?_; intro w3 hm3 hg3))
                have HM3 := Aside0.mk hm3
                have HB3 := Aside0.mk (HB2.out.grown hg3 HB2.out.size (fun k hk => by cases hk; have := HB1.out.size; omega))
                have BK3n := Aside0.mk (blk_grown BK3'.out hg3 (by intro e; have := Option.some.inj e; have := HB1.out.size; omega))
                have BK5n := Aside0.mk (blk_grown BK5'.out hg3 (by intro e; have := Option.some.inj e; omega))
                clear hm3 hg3 HM2 HB2 BK3' BK5' BK8 hcv hmm
                go_wp2
                go_roundg kk
                case measure => omega
                case rel => exact ⟨i + 1, _, _, by first | rfl | go_num, by omega, by omega, HB3, BK3n, BK5n, HM3, HPUT, HNX⟩
              | some s =>
                have hhas : Maps.has D (.int .i64 m.f1.f0) = true := by rw [HI.out.has, hlk]; rfl
                by_cases hS : s.toList = (textB m).toList
                · have hb : badS a es m = false := by unfold badS; rw [hA1, hB1, hlk]; simp [← ByteArray.toList_eq, hS]
                  have hSe := same_bytes hS
                  have hgo := HGO.out hb
                  rw [putS, hlk] at hgo
                  have HNX := Aside0.mk hgo
                  have HPUT := Aside0.mk (HI.out.again hwf (textB m) (by rw [← hSe]; exact hlk))
                  have hS1 : (s.toList != (textB m).toList) = false := bne_eq_false_iff_eq.mpr hS
                  have hS0 : (s.toList == (textB m).toList) = true := beq_iff_eq.mpr hS
                  clear hb hgo hS
                  go_wp2_with (first | (at_lookup; refine wpList_lookup_own_ok _ rfl _ _ 55 rfl 3 9 law3 Try.underlying55 _ (zero9 _) (.lit (.string [])) [] (plainElem_string Try.underlying9 (by decide)) (w1.heap.size + 1) i D rfl HM2.out _ _ rfl hkey ?_; intro v ps hv; obtain ⟨sv, rfl, hsv, _⟩ := plainElem_string_inv Try.underlying9 hv; obtain rfl := str_of hsv (HI.out.at_ _ _ hlk _); clear hv hsv) | (at_mapUpdate; refine wpList_mapUpdate_own _ rfl _ _ _ 55 rfl 3 9 law3 Try.underlying55 _ (w1.heap.size + 1) i D rfl HM2.out HN.out _ _ _ rfl rfl hkey _ [] (plainElem_string Try.underlying9 HSZ.out) ?_; intro w3 hm3 hg3))
                  have HM3 := Aside0.mk hm3
                  have HB3 := Aside0.mk (HB2.out.grown hg3 HB2.out.size (fun k hk => by cases hk; have := HB1.out.size; omega))
                  have BK3n := Aside0.mk (blk_grown BK3'.out hg3 (by intro e; have := Option.some.inj e; have := HB1.out.size; omega))
                  have BK5n := Aside0.mk (blk_grown BK5'.out hg3 (by intro e; have := Option.some.inj e; omega))
                  clear hm3 hg3 HM2 HB2 BK3' BK5' BK8 hcv hmm
                  go_wp2
                  go_roundg kk
                  case measure => omega
                  case rel => exact ⟨i + 1, _, _, by first | rfl | go_num, by omega, by omega, HB3, BK3n, BK5n, HM3, HPUT, HNX⟩
                · have hS1 : (s.toList != (textB m).toList) = true := bne_iff_ne.mpr hS
                  have hS0 : (s.toList == (textB m).toList) = false := beq_eq_false_iff_ne.mpr hS
                  have H34 := Aside0.mk (HCN.out (by unfold badS; rw [hA1, hB1, hlk]; show (s.data.toList != (textB m).data.toList) = true; rw [← ByteArray.toList_eq, ← ByteArray.toList_eq]; exact hS1))
                  clear hS
                  go_wp2_with (at_lookup; refine wpList_lookup_own_ok _ rfl _ _ 55 rfl 3 9 law3 Try.underlying55 _ (zero9 _) (.lit (.string [])) [] (plainElem_string Try.underlying9 (by decide)) (w1.heap.size + 1) i D rfl HM2.out _ _ rfl hkey ?_; intro v ps hv; obtain ⟨sv, rfl, hsv, _⟩ := plainElem_string_inv Try.underlying9 hv; obtain rfl := str_of hsv (HI.out.at_ _ _ hlk _); clear hv hsv)
                  (try simp only [Exit.inBlock, Exit.then])
                  refine bodyPost_ret (results_col w.heap.size 0 0 0 _ _ rfl rfl rfl ?_) rfl ?_
                  · exact blk_put (blk_put (blk_put BK3'.out 0 _ rfl) 1 _ rfl) 2 _ rfl
                  · exact ⟨.inl ⟨by rw [H34.out]; decide, by rw [H34.out]; rfl⟩, below_set (below_set (below_set HB2.out (Nat.le_refl _)) (Nat.le_refl _)) (Nat.le_refl _)⟩
            · have hB0 : (m.f1.f2 == a.f2) = false := beq_eq_false_iff_ne.mpr hB
              have hB1 : (m.f1.f2 != a.f2) = true := bne_iff_ne.mpr hB
              have H34 := Aside0.mk (HCN.out (by unfold badS; rw [hA1, hB1]; rfl))
              clear hB
              go_wp2_with (at_lookup; refine wpList_lookup_own_ok _ rfl _ _ 55 rfl 3 9 law3 Try.underlying55 _ (zero9 _) (.lit (.string [])) [] (plainElem_string Try.underlying9 (by decide)) (w1.heap.size + 1) i D rfl HM2.out _ _ rfl hkey ?_; intro v ps hv; obtain ⟨sv, rfl, hsv, _⟩ := plainElem_string_inv Try.underlying9 hv)
              (try simp only [Exit.inBlock, Exit.then])
              refine bodyPost_ret (results_col w.heap.size 0 0 0 _ _ rfl rfl rfl ?_) rfl ?_
              · exact blk_put (blk_put (blk_put BK3'.out 0 _ rfl) 1 _ rfl) 2 _ rfl
              · exact ⟨.inl ⟨by rw [H34.out]; decide, by rw [H34.out]; rfl⟩, below_set (below_set (below_set HB2.out (Nat.le_refl _)) (Nat.le_refl _)) (Nat.le_refl _)⟩
          · have hA0 : (m.f1.f1 == a.f1) = false := beq_eq_false_iff_ne.mpr hA
            have hA1 : (m.f1.f1 != a.f1) = true := bne_iff_ne.mpr hA
            have H34 := Aside0.mk (HCN.out (by unfold badS; rw [hA1]; rfl))
            clear hA
            go_wp2_with (at_lookup; refine wpList_lookup_own_ok _ rfl _ _ 55 rfl 3 9 law3 Try.underlying55 _ (zero9 _) (.lit (.string [])) [] (plainElem_string Try.underlying9 (by decide)) (w1.heap.size + 1) i D rfl HM2.out _ _ rfl hkey ?_; intro v ps hv; obtain ⟨sv, rfl, hsv, _⟩ := plainElem_string_inv Try.underlying9 hv)
            (try simp only [Exit.inBlock, Exit.then])
            refine bodyPost_ret (results_col w.heap.size 0 0 0 _ _ rfl rfl rfl ?_) rfl ?_
            · exact blk_put (blk_put (blk_put BK3'.out 0 _ rfl) 1 _ rfl) 2 _ rfl
            · exact ⟨.inl ⟨by rw [H34.out]; decide, by rw [H34.out]; rfl⟩, below_set (below_set (below_set HB2.out (Nat.le_refl _)) (Nat.le_refl _)) (Nat.le_refl _)⟩
        · have he : i = l.length := by omega
          have hr2 := HR.out
          rw [he, List.drop_length, colR] at hr2
          have HCOL := Aside0.mk (err_ok h0 HBAD.out (by rw [← HA.out]; exact hr2.symm))
          clear hr2
          subst he
          have z0 : wr.cell? ⟨w.heap.size, 0, none⟩ = some (.int .i64 0) := (blk_cell BK3.out 0).trans rfl
          have z1 : wr.cell? ⟨w.heap.size, 1, none⟩ = some (.int .i64 0) := (blk_cell BK3.out 1).trans rfl
          have z2 : wr.cell? ⟨w.heap.size, 2, none⟩ = some (.int .i64 0) := (blk_cell BK3.out 2).trans rfl
          have q0 := blk_frozen BK3.out 0
          have q1 := blk_frozen BK3.out 1
          have q2 := blk_frozen BK3.out 2
          have y0 : wr.cell? ⟨w1.heap.size, 0, none⟩ = some (.int .i64 a.f0) := (blk_cell BK5.out 0).trans rfl
          have y1 : wr.cell? ⟨w1.heap.size, 1, none⟩ = some (.int .i64 a.f1) := (blk_cell BK5.out 1).trans rfl
          have y2 : wr.cell? ⟨w1.heap.size, 2, none⟩ = some (.int .i64 a.f2) := (blk_cell BK5.out 2).trans rfl
          go_wp2
          go_region
          go_wp2
          (try simp only [Exit.inBlock, Exit.then])
          refine bodyPost_ret (results_col w.heap.size a.f0 a.f1 a.f2 _ _ rfl rfl rfl ?_) rfl ?_
          · exact blk_drew (blk_put (blk_put (blk_put BK3.out 0 _ rfl) 1 _ rfl) 2 _ rfl)
          · refine ⟨.inr ⟨by rw [HCOL.out], w1.heap.size + 1, D, ?_, by have := HB1.out.size; omega, ?_, by rw [HCOL.out]; exact HI.out⟩, ?_⟩
            · rw [HA.out]; rfl
            · exact ((((HM.out.setCell (by show w1.heap.size + 1 ≠ w.heap.size; have := HB1.out.size; omega) _).setCell (by show w1.heap.size + 1 ≠ w.heap.size; have := HB1.out.size; omega) _).setCell (by show w1.heap.size + 1 ≠ w.heap.size; have := HB1.out.size; omega) _).drew)
            · exact below_drew1 (below_set (below_set (below_set HB.out (Nat.le_refl _)) (Nat.le_refl _)) (Nat.le_refl _))

end Go.Proofs.Ytclbjddcenkidaa.PS
namespace Go.Proofs.Ytclbjddcenkidaa.PS
open Go.RowKit Go.Proofs.YtclbjddcenkidaaW.PrintWords Go.Proofs.YtclbjddcenkidaaW.PrintLast Go.Proofs.YtclbjddcenkidaaW.PrintMore
attribute [local go_sem] max2_int min2_int max_two min_two max_three min_three max_four min_four
open Go.Maps
def missL (es : List (Int × ByteArray)) (n : Nat) : List Int := ((List.range n).filter fun (i : Nat) => (es.lookup (i : Int)).isNone).map fun (i : Nat) => (i : Int)
def missS (l : List S42) : List Int × Int := if (colS l).1 = 0 then (missL (colS l).2 (rd_T42 l 0).f1.f1.toNat, 0) else ([], (colS l).1)
theorem missL_succ (es : List (Int × ByteArray)) (i : Nat) : missL es (i + 1) = missL es i ++ (if (es.lookup (i : Int)).isNone then [(i : Int)] else []) := by
  unfold missL
  rw [List.range_succ, List.filter_append, List.map_append]
  congr 1
  by_cases h : (es.lookup (i : Int)).isNone = true <;> simp [h]
theorem missL_len (es : List (Int × ByteArray)) (i : Nat) : (missL es i).length ≤ i := by
  unfold missL
  rw [List.length_map]
  exact Nat.le_trans (List.length_filter_le _ _) (by simp)
theorem small_wf {x : Int} (h0 : -9223372036854775808 ≤ x) (h1 : x ≤ 9223372036854775807) : (Lit.int .i64 x).wf = true := by
  have e1 : IntKind.i64.min = -9223372036854775808 := by decide
  have e2 : IntKind.i64.max = 9223372036854775807 := by decide
  simp only [Lit.wf, e1, e2, Bool.and_eq_true, decide_eq_true_eq]
  exact ⟨h0, h1⟩
theorem ok_total {l : List S42} (h : (colS l).1 = 0) : validS (rd_T42 l 0).f1 = true := by
  unfold colS at h
  split at h
  · simp at h
  · rename_i h0
    split at h
    · simp at h
    · rename_i h1
      have hlt : 0 < l.length := by omega
      have hg : l[0]? = some (rd_T42 l 0) := by rw [rd_T42, List.getD_eq_getElem?_getD]; simp [List.getElem?_eq_getElem hlt]
      have hm := List.mem_of_getElem? hg
      have h2 := List.any_eq_false.1 (by simpa using h1 : l.any (fun m => !validS m.f1) = false) _ hm
      simpa using h2
theorem total_bd {a : S40} (h : validS a = true) : 0 ≤ a.f1 ∧ a.f1 ≤ 16 := by
  unfold validS at h
  simp only [Bool.or_eq_true, Bool.and_eq_true, beq_iff_eq, decide_eq_true_eq] at h
  omega
set_option maxHeartbeats 8000000 in
set_option maxRecDepth 100000 in
theorem Missing_calls (A : Option Addr) (c : Nat) (l : List S42) (w : World) (hC : Kd.C k42 w A l.length l) (hc : l.length ≤ c) (hs : ∀ m ∈ l, smallM m) (hlen : l.length < 4611686018427387904) :
    Calls Try.prog 17 #[.slice A l.length c] w fun e w' => ∃ v0_ : Value, e = .returned (.tuple #[v0_, .int .i64 (missS l).2]) ∧ Kd.R (Kd.int .i64) 3 w' w.heap.size (fun _ => True) v0_ (missS l).1 ∧ Below w.heap.size w w' := by
  have HK := Aside0.mk (collected_calls A c l w hC hc hs hlen)
  clear hC hs
  go_enter Try.func17, Try.ntmps17
  go_wp2_with (fail)
  refine HK.out.mono ?_
  rintro e w1 ⟨⟨hne, rfl⟩ | ⟨h0, b, D, rfl, hbb, hM, hI⟩, hb1⟩
  · have HB1 := Aside0.mk hb1
    have hne2 : ((colS l).1 != 0) = true := bne_iff_ne.2 hne
    have hms : missS l = ([], (colS l).1) := by unfold missS; rw [if_neg hne]
    have HMS := Aside0.mk hms
    clear hb1 hms HK
    go_wp2
    go_ret2
    rw [HMS.out]
    exact ⟨_, rfl, Kd.R_nil _ _ _ _ _, below_alloc HB1.out _⟩
  · have HB1 := Aside0.mk hb1
    have htot := total_bd (ok_total h0)
    obtain ⟨n, hn⟩ : ∃ n : Nat, (rd_T42 l 0).f1.f1 = (n : Int) := ⟨(rd_T42 l 0).f1.f1.toNat, by omega⟩
    have hms : missS l = (missL (colS l).2 n, 0) := by unfold missS; rw [if_pos h0, hn]; rfl
    rw [hn] at htot
    have HMS := Aside0.mk hms
    have HM := Aside0.mk hM
    have HI := Aside0.mk hI
    generalize (rd_T42 l 0).f1.f0 = a0 at *
    generalize (rd_T42 l 0).f1.f2 = a2 at *
    rw [hn]
    generalize (colS l).2 = es at *
    clear hb1 hms HK hM hI hn h0
    go_wp2
    go_loopg [7, 22] (n + 1) (fun kq v7 v22 wr => ∃ (i : Nat), v22 = .int .i64 i ∧ i ≤ n ∧ kq + i = n + 1 ∧ Aside0 (Kd.R (Kd.int .i64) 3 wr w1.heap.size (fun _ => True) v7 (missL es i)) ∧ Aside0 (Below w1.heap.size w1 wr) ∧ Aside0 (wr.ownsMap Try.prog 3 (plainElem Try.prog 9) b l.length D))
    case atStart => exact ⟨0, rfl, Nat.zero_le _, rfl, ⟨Kd.R_nil _ _ _ _ _⟩, ⟨below_alloc (Below.refl _ _) _⟩, ⟨HM.out.alloc _⟩⟩
    case round =>
      obtain ⟨i, rfl, hi, hk, HO, HB, HMr⟩ := hrel
      obtain ⟨kk, rfl⟩ : ∃ kk, gk = kk + 1 := ⟨gk - 1, by omega⟩
      have HLEN := Aside0.mk (missL_len es i)
      by_cases hlt : i < n
      · have hkey := keyOf_int_mk Try.underlying3 (small_wf (x := (i : Int)) (by omega) (by omega))
        have hw : IntKind.i64.wrap ((i : Int) + 1) = (i : Int) + 1 := IntWalk.i64_in _ (by omega)
        have hm1 := missL_succ es i
        cases hlk : es.lookup (i : Int) with
        | none =>
          have hhas : Maps.has D (.int .i64 (i : Int)) = false := by rw [HI.out.has, hlk]; rfl
          rw [hlk] at hm1
          have HM1 := Aside0.mk hm1
          clear hm1 hlk
          have hbne : some b ≠ u7.ownBlock := fun e => by
            have := own_base (Kd.own_of_R HO.out) b e.symm
            have := HM.out.lt
            omega
          have HNE := Aside0.mk hbne
          clear hbne
          go_wp2_with (first | (at_lookup; refine wpList_lookup_own_ok _ rfl _ _ 55 rfl 3 9 law3 Try.underlying55 _ (zero9 _) (.lit (.string [])) [] (plainElem_string Try.underlying9 (by decide)) b l.length D rfl HMr.out _ _ rfl hkey ?_; intro v ps hv; obtain ⟨sv, rfl, hsv, _⟩ := plainElem_string_inv Try.underlying9 hv; clear hv hsv) | (at_builtin; refine Kd.R_append (Kd.int .i64) (w0 := w1) w1.heap.size rfl (.tmp 33) (.tmp 35) 26 3 (.int .i64 0) 8 rfl Try.underlying26 info3 rfl (by decide) (by omega) u7 (missL es i) (i : Int) [.int .i64 i] (fun _ => True) (fun _ => False) rfl rfl ?aP (fun _ hk => hk.elim) (fun _ _ => trivial) ?aO ?aB ?aS ?aL ?_; (case aP => exact rfl); (case aO => exact HO.out); (case aB => exact HB.out); (case aS => exact HB.out.size); (case aL => have := HLEN.out; omega); intro v36 w4 ho hb hg hat; have HO4 := Aside0.mk ho; have HB4 := Aside0.mk hb; have HG4 := Aside0.mk hg; clear ho hb hg hat))
          go_roundg kk
          case measure => omega
          case rel => exact ⟨i + 1, by first | rfl | go_num, by omega, by omega, ⟨by rw [HM1.out]; exact HO4.out⟩, HB4, ⟨HMr.out.kept HG4.out HNE.out⟩⟩
        | some s =>
          have hhas : Maps.has D (.int .i64 (i : Int)) = true := by rw [HI.out.has, hlk]; rfl
          rw [hlk] at hm1
          have HM1 := Aside0.mk hm1
          clear hm1 hlk
          go_wp2_with (at_lookup; refine wpList_lookup_own_ok _ rfl _ _ 55 rfl 3 9 law3 Try.underlying55 _ (zero9 _) (.lit (.string [])) [] (plainElem_string Try.underlying9 (by decide)) b l.length D rfl HMr.out _ _ rfl hkey ?_; intro v ps hv; obtain ⟨sv, rfl, hsv, _⟩ := plainElem_string_inv Try.underlying9 hv; clear hv hsv)
          go_roundg kk
          case measure => omega
          case rel => exact ⟨i + 1, by first | rfl | go_num, by omega, by omega, ⟨by rw [HM1.out]; simpa using HO.out⟩, HB, HMr⟩
      · have he : i = n := by omega
        subst he
        go_wp2
        go_ret2
        rw [HMS.out]
        exact ⟨_, rfl, Kd.R_lower HO.out HB1.out.size, below_then HB1.out HB1.out.size HB.out⟩

end Go.Proofs.Ytclbjddcenkidaa.PS
/- The library contracts of strings.IndexByte and slices.Sort at this translation, laid by the kit's tool. -/
namespace Go.Proofs
open Go.Shelf
def Try.lays137_ren : Go.Shelf.Ren := ⟨fun | 137 => 82 | 217 => 88 | 266 => 90 | n => n, fun | 9 => 9 | 5 => 5 | 3 => 3 | n => n, fun | n => n⟩
theorem Try.lays137 : Go.Proofs.Lays.n137 Try.prog Try.lays137_ren := {
  mixed := by kernel_rfl
  f137 := Try.func82.trans (congrArg some (by kernel_rfl))
  f217 := Try.func88.trans (congrArg some (by kernel_rfl))
  f266 := Try.func90.trans (congrArg some (by kernel_rfl))
  t3 := Try.underlying3
  a3 := Try.isAgg3
  z3 := Try.sizeOf3
  v3 := Try.zeroValue3
  t5 := Try.underlying5
  a5 := Try.isAgg5
  z5 := Try.sizeOf5
  v5 := Try.zeroValue5
  t9 := Try.underlying9
  a9 := Try.isAgg9
  z9 := Try.sizeOf9
  v9 := Try.zeroValue9 }
open Go.RowKit in
/-- strings.IndexByte: "IndexByte returns the index of the first instance of c in s, or -1 if c is not present in s.": IT RETURNS 'Lib.indexByte s c'; the world is as it was. (LAID: no walk: one application.) -/
theorem Try.strings_IndexByte (s : ByteArray) (c : Int) (w : World) :
    Calls Try.prog 82 #[.string s, .int .u8 c] w fun e w' => e = .returned (.int .i64 (Lib.indexByte s.data.toList c.toNat.toUInt8)) ∧ w' = w := Any.strings_IndexByte Try.lays137 s c w
def Try.lays189_ren : Go.Shelf.Ren := ⟨fun | 189 => 27 | 125 => 40 | 257 => 39 | 128 => 59 | 129 => 60 | 294 => 50 | 295 => 51 | 296 => 52 | 297 => 53 | 298 => 54 | 299 => 55 | 216 => 56 | 300 => 57 | 301 => 58 | 328 => 68 | 329 => 69 | 330 => 70 | 331 => 71 | 332 => 72 | 215 => 73 | 343 => 84 | n => n, fun | 28 => 26 | 3 => 3 | 46 => 67 | 0 => 0 | 51 => 93 | 53 => 95 | 4 => 4 | 183 => 85 | 182 => 84 | 131 => 90 | 5 => 5 | 9 => 9 | 218 => 112 | 222 => 116 | 228 => 125 | 229 => 126 | n => n, fun | n => n⟩
theorem Try.lays189 : Go.Proofs.Lays.n189 Try.prog Try.lays189_ren := {
  mixed := by kernel_rfl
  f125 := Try.func40.trans (congrArg some (by kernel_rfl))
  f128 := Try.func59.trans (congrArg some (by kernel_rfl))
  f129 := Try.func60.trans (congrArg some (by kernel_rfl))
  f189 := Try.func27.trans (congrArg some (by kernel_rfl))
  f215 := Try.func73.trans (congrArg some (by kernel_rfl))
  f216 := Try.func56.trans (congrArg some (by kernel_rfl))
  f257 := Try.func39.trans (congrArg some (by kernel_rfl))
  f294 := Try.func50.trans (congrArg some (by kernel_rfl))
  f295 := Try.func51.trans (congrArg some (by kernel_rfl))
  f296 := Try.func52.trans (congrArg some (by kernel_rfl))
  f297 := Try.func53.trans (congrArg some (by kernel_rfl))
  f298 := Try.func54.trans (congrArg some (by kernel_rfl))
  f299 := Try.func55.trans (congrArg some (by kernel_rfl))
  f300 := Try.func57.trans (congrArg some (by kernel_rfl))
  f301 := Try.func58.trans (congrArg some (by kernel_rfl))
  f328 := Try.func68.trans (congrArg some (by kernel_rfl))
  f329 := Try.func69.trans (congrArg some (by kernel_rfl))
  f330 := Try.func70.trans (congrArg some (by kernel_rfl))
  f331 := Try.func71.trans (congrArg some (by kernel_rfl))
  f332 := Try.func72.trans (congrArg some (by kernel_rfl))
  f343 := Try.func84.trans (congrArg some (by kernel_rfl))
  t0 := Try.underlying0
  a0 := Try.isAgg0
  z0 := Try.sizeOf0
  v0 := Try.zeroValue0
  t3 := Try.underlying3
  a3 := Try.isAgg3
  z3 := Try.sizeOf3
  v3 := Try.zeroValue3
  t4 := Try.underlying4
  a4 := Try.isAgg4
  z4 := Try.sizeOf4
  v4 := Try.zeroValue4
  t5 := Try.underlying5
  a5 := Try.isAgg5
  z5 := Try.sizeOf5
  v5 := Try.zeroValue5
  t9 := Try.underlying9
  a9 := Try.isAgg9
  z9 := Try.sizeOf9
  v9 := Try.zeroValue9
  t28 := Try.underlying26
  a28 := Try.isAgg26
  z28 := Try.sizeOf26
  v28 := Try.zeroValue26
  t46 := Try.underlying67
  a46 := Try.isAgg67
  z46 := Try.sizeOf67
  v46 := Try.zeroValue67
  t51 := Try.underlying93
  a51 := Try.isAgg93
  z51 := Try.sizeOf93
  v51 := Try.zeroValue93
  t53 := Try.underlying95
  a53 := Try.isAgg95
  z53 := Try.sizeOf95
  v53 := Try.zeroValue95
  t131 := Try.underlying90
  a131 := Try.isAgg90
  z131 := Try.sizeOf90
  v131 := Try.zeroValue90
  t182 := Try.underlying84
  a182 := Try.isAgg84
  z182 := Try.sizeOf84
  v182 := Try.zeroValue84
  t183 := Try.underlying85
  a183 := Try.isAgg85
  z183 := Try.sizeOf85
  v183 := Try.zeroValue85
  t218 := Try.underlying112
  a218 := Try.isAgg112
  z218 := Try.sizeOf112
  v218 := Try.zeroValue112
  t222 := Try.underlying116
  a222 := Try.isAgg116
  z222 := Try.sizeOf116
  v222 := Try.zeroValue116
  t228 := Try.underlying125
  a228 := Try.isAgg125
  z228 := Try.sizeOf125
  v228 := Try.zeroValue125
  t229 := Try.underlying126
  a229 := Try.isAgg126
  z229 := Try.sizeOf126
  v229 := Try.zeroValue126 }
open Go.Sort Go.RowKit in
theorem Try.slices_Sort_int (blk off cap : Nat) (zs : List Int) (w : World) (hH : Holds (Value.int .i64) w blk off zs.toArray) (hblk : blk < w.heap.size) (hsz : zs.length < 4611686018427387904) :
    Calls Try.prog 27 #[.slice (some ⟨blk, off, none⟩) zs.length cap] w fun e w' =>
      e = .returned (.tuple #[]) ∧ ∃ n os, w' = grow (putRow (Value.int .i64) (Sort.ahead w n) blk off (zs.mergeSort fun x y => decide (x ≤ y)).toArray) os := Any.slices_Sort_int Try.lays189 blk off cap zs w hH hblk hsz
open Go.RowKit Go.Sort in
/-- .. and plain. (LAID: no walk: one application.) -/
theorem Try.slices_Sort_int_none (p : Option Addr) (cap : Nat) (w : World) :
    Calls Try.prog 27 #[.slice p 0 cap] w fun e w' => e = .returned (.tuple #[]) ∧ w' = w := Any.slices_Sort_int_none Try.lays189 p cap w
end Go.Proofs
namespace Go.Proofs.Ytclbjddcenkidaa.PS
open Go.RowKit Go.Proofs.YtclbjddcenkidaaW.PrintWords Go.Proofs.YtclbjddcenkidaaW.PrintLast Go.Proofs.YtclbjddcenkidaaW.PrintMore
attribute [local go_sem] max2_int min2_int max_two min_two max_three min_three max_four min_four
open Go.Maps
def parF (l : List Int) : Int := l.foldl (fun x c => Go.bits .xor .u8 x c) 0
def parS (l : List Int) : Int := wrap64 (parF l)
theorem par_ev (l : List Int) (hl : l.length < 4611686018427387904) : split_Parity.f (l.length + 1) l = some (parS l) := by
  suffices H : ∀ n i, i + n = l.length → split_Parity.l0 (n + 1) ((l.take i).foldl (fun x c => Go.bits .xor .u8 x c) 0) l (l.length : Int) (i : Int) = some (parS l) from H l.length 0 (by omega)
  intro n
  induction n with
  | zero =>
    intro i hi
    rw [split_Parity.l0, if_neg (by omega), show i = l.length by omega, List.take_length]
    rfl
  | succ n ih =>
    intro i hi
    have hlt : i < l.length := by omega
    have hw : wrap64 ((i : Int) + 1) = ((i + 1 : Nat) : Int) := by unfold wrap64; omega
    have hr : rd l (i : Int) = l[i] := by rw [rd, Int.toNat_natCast]; simp [List.getD_eq_getElem?_getD, List.getElem?_eq_getElem hlt]
    have e : Go.bits .xor .u8 ((l.take i).foldl (fun x c => Go.bits .xor .u8 x c) 0) (rd l (i : Int)) = (l.take (i + 1)).foldl (fun x c => Go.bits .xor .u8 x c) 0 := by
      rw [List.take_add_one, List.getElem?_eq_getElem hlt, List.foldl_append, hr]; rfl
    rw [split_Parity.l0, if_pos (by omega), if_pos (by omega), if_pos (by omega), hw, e]
    exact ih (i + 1) (by omega)
def keysS (es : List (Int × ByteArray)) : List Int := (es.map (·.1)).mergeSort leI
def pieceS (es : List (Int × ByteArray)) (k : Int) : List Int := match es.lookup k with | some s => bytesOf s | none => []
def outS (es : List (Int × ByteArray)) : List Int := (keysS es).flatMap (pieceS es)
def joinR (es : List (Int × ByteArray)) (a : S40) : List Int × Int :=
  if (es.length : Int) < max 1 a.f1 then ([], 33) else if 4096 < (outS es).length then ([], 4) else if 0 < a.f1 ∧ parS (outS es) ≠ a.f2 then ([], 8) else (outS es, 0)
def joinP (l : List S42) : List Int × Int := if (colS l).1 = 0 then joinR (colS l).2 (rd_T42 l 0).f1 else ([], (colS l).1)
theorem keys_perm {D : DataW Unit} {es : List (Int × ByteArray)} (hI : MapIs D es) {ss : List Int} {left : Lit → Bool} (h : CollectedI D left ss) (hl : ∀ kl, left kl = false) : ss.mergeSort leI = keysS es ∧ ss.length = es.length ∧ (∀ x ∈ keysS es, x ∈ ss ∧ ∃ s, es.lookup x = some s) := by
  have hp : ss.Perm (es.map (·.1)) := by
    refine (List.perm_ext_iff_of_nodup h.1 hI.nodup).2 fun x => ?_
    rw [h.2 x, hl, hI.has]
    simp only [and_true]
    cases hx : es.lookup x with
    | none =>
      simp only [Option.isSome_none, Bool.false_eq_true, false_iff]
      intro hm
      obtain ⟨p, hp, rfl⟩ := List.mem_map.1 hm
      exact lookup_none hx p hp rfl
    | some s =>
      simp only [Option.isSome_some, true_iff]
      obtain ⟨l1, l2, h1, _⟩ := List.lookup_eq_some_iff.1 hx
      exact List.mem_map.2 ⟨(x, s), by rw [h1]; simp, rfl⟩
  refine ⟨mergeSort_of_perm_i hp, by rw [hp.length_eq, List.length_map], fun x hx => ?_⟩
  have hm : x ∈ ss := hp.mem_iff.2 (by rwa [keysS, List.mem_mergeSort] at hx)
  refine ⟨hm, ?_⟩
  have := ((h.2 x).1 hm).1
  rw [hI.has] at this
  exact Option.isSome_iff_exists.1 this
theorem out_take (es : List (Int × ByteArray)) (i : Nat) (h : i < (keysS es).length) {s : ByteArray} (hs : es.lookup (keysS es)[i] = some s) :
    ((keysS es).take (i + 1)).flatMap (pieceS es) = ((keysS es).take i).flatMap (pieceS es) ++ bytesOf s := by
  rw [List.take_add_one, List.getElem?_eq_getElem h, List.flatMap_append]
  simp [pieceS, hs]
theorem out_len (es : List (Int × ByteArray)) (i : Nat) : (((keysS es).take i).flatMap (pieceS es)).length ≤ (outS es).length := by
  have e : outS es = ((keysS es).take i).flatMap (pieceS es) ++ ((keysS es).drop i).flatMap (pieceS es) := by rw [outS, ← List.flatMap_append, List.take_append_drop]
  rw [e, List.length_append]
  omega
set_option maxHeartbeats 8000000 in
set_option maxRecDepth 100000 in
theorem Join_calls (A : Option Addr) (c : Nat) (l : List S42) (w : World) (hC : Kd.C k42 w A l.length l) (hc : l.length ≤ c) (hs : ∀ m ∈ l, smallM m) (hlen : l.length ≤ 1000000) (hbig : (outS (colS l).2).length < 70368744177664) :
    Calls Try.prog 15 #[.slice A l.length c] w fun e w' => ∃ v0_ : Value, e = .returned (.tuple #[v0_, .int .i64 (joinP l).2]) ∧ Kd.R (Kd.int .u8) 5 w' w.heap.size (fun _ => True) v0_ (joinP l).1 ∧ Below w.heap.size w w' := by
  have HK := Aside0.mk (collected_calls A c l w hC hc hs (by omega))
  clear hC hs
  obtain ⟨r, hr⟩ : ∃ r, r = joinP l := ⟨_, rfl⟩
  rw [← hr]
  go_enter Try.func15, Try.ntmps15
  go_wp2_with (fail)
  refine HK.out.mono ?_
  rintro e w1 ⟨⟨hne, rfl⟩ | ⟨h0, b, D, rfl, hbb, hM, hI⟩, hb1⟩
  · have HB1 := Aside0.mk hb1
    have hne2 : ((colS l).1 != 0) = true := bne_iff_ne.2 hne
    have hms : r = ([], (colS l).1) := by rw [hr]; unfold joinP; rw [if_neg hne]
    have HMS := Aside0.mk hms
    clear hb1 hms HK hr
    go_wp2
    go_ret2
    rw [HMS.out]
    exact ⟨_, rfl, Kd.R_nil _ _ _ _ _, below_alloc HB1.out _⟩
  · have HB1 := Aside0.mk hb1
    have htot := total_bd (ok_total h0)
    have hr : r = joinR (colS l).2 (rd_T42 l 0).f1 := by rw [hr]; unfold joinP; rw [if_pos h0]
    have HM := Aside0.mk hM
    have HI := Aside0.mk hI
    generalize (rd_T42 l 0).f1 = a at *
    generalize (colS l).2 = es at *
    have HRS := Aside0.mk hr
    have HBIG := Aside0.mk hbig
    clear hb1 HK hM hI h0 hr hbig
    have HSZ := Aside0.mk HI.out.size
    obtain ⟨mx, hmx⟩ : ∃ mx, (if (1 : Int) < a.f1 then a.f1 else 1) = mx := ⟨_, rfl⟩
    have hmx2 : max 1 a.f1 = mx := by rw [← hmx]; split <;> omega
    by_cases hsmall : (es.length : Int) < mx
    · have hd : decide ((es.length : Int) < mx) = true := decide_eq_true hsmall
      have hj : r = ([], 33) := by rw [HRS.out]; unfold joinR; rw [hmx2, if_pos hsmall]
      have HJ := Aside0.mk hj
      clear hj hmx2
      go_wp2_with (at_len; refine wpList_len_own _ rfl _ 55 rfl 3 9 Try.underlying55 _ b l.length D rfl (HM.out.alloc _) ?_; rw [HSZ.out])
      go_ret2
      rw [HJ.out]
      exact ⟨_, rfl, Kd.R_nil _ _ _ _ _, below_alloc HB1.out _⟩
    · have hd : decide ((es.length : Int) < mx) = false := decide_eq_false hsmall
      have hpos : 1 ≤ es.length := by omega
      have HJ := Aside0.mk (by rw [HRS.out]; unfold joinR; rw [hmx2, if_neg hsmall] : r = if 4096 < (outS es).length then ([], 4) else if 0 < a.f1 ∧ parS (outS es) ≠ a.f2 then ([], 8) else (outS es, 0))
      clear hmx2 hsmall
      have BK5 := Aside0.mk (blk_new w1 (.cells #[.int .i64 a.f0, .int .i64 a.f1, .int .i64 a.f2] 40))
      go_wp2_with (first
        | (at_len; refine wpList_len_own _ rfl _ 55 rfl 3 9 Try.underlying55 _ b l.length D rfl (HM.out.alloc _) ?_; rw [HSZ.out])
        | (at_range; refine wpList_range_own _ rfl _ 55 rfl 3 9 law3 Try.underlying55 _ b l.length D rfl (HM.out.alloc _) ?_; intro w0 hrg0 hg0 hs0; have HRG := Aside0.mk hrg0; have HG0 := Aside0.mk hg0; have HS0 := Aside0.mk hs0; clear hrg0 hg0 hs0))
      have e1 : (w1.alloc (.cells #[.int .i64 a.f0, .int .i64 a.f1, .int .i64 a.f2] 40)).heap.size = w1.heap.size + 1 := by simp
      have hs0 := HS0.out
      have hrg0 := HRG.out
      rw [e1] at hs0 hrg0
      have HS0 := Aside0.mk hs0
      have HRG := Aside0.mk hrg0
      have HB0 := Aside0.mk ((below_alloc HB1.out _).grown HG0.out (below_alloc HB1.out _).size (by intro k hk; cases hk) : Below w.heap.size w w0)
      have BK5 := Aside0.mk (blk_grown BK5.out HG0.out (by simp))
      clear hs0 hrg0 HG0
      have HEL := Aside0.mk (HI.out.nodup)
      have hel : es.length ≤ l.length := by rw [← HSZ.out]; exact HM.out.size_le
      have hw0 : w.heap.size ≤ w0.heap.size := HB0.out.size
      have hbl := HM.out.lt
      have hs0' := HS0.out
      go_frame
      rw [e1]
      clear e1
      go_loopg [7, 8] (es.length + 1) (fun kq v7 v8 wr => ∃ (left : Lit → Bool) (cnt : Nat) (ss : List Int), cnt < kq ∧ ss.length + cnt ≤ es.length ∧ Aside0 (wr.ranges Try.prog 3 (plainElem Try.prog 9) b (w1.heap.size + 1) l.length D left cnt) ∧ Aside0 (CollectedI D left ss) ∧
        Aside0 (Kd.R (Kd.int .i64) 3 wr w0.heap.size (fun _ => True) v7 ss) ∧ Aside0 (Below w.heap.size w wr) ∧ Aside0 (wr.heap[w1.heap.size]? = some (.cells #[.int .i64 a.f0, .int .i64 a.f1, .int .i64 a.f2] 40 (0, 0))) ∧ Aside0 (w0.heap.size ≤ wr.heap.size))
      case atStart => exact ⟨_, _, [], by rw [HSZ.out]; omega, by rw [HSZ.out]; simp, HRG, ⟨CollectedI.start D⟩, ⟨Kd.R_nil _ _ _ _ _⟩, HB0, BK5, ⟨Nat.le_refl _⟩⟩
      case round =>
        clear HRG HB0 BK5
        obtain ⟨left, cnt, ss, hck, hcs, HRG, HCO, HO, HB, BK5, HSW⟩ := hrel
        obtain ⟨kk, rfl⟩ : ∃ kk, gk = kk + 1 := ⟨gk - 1, by omega⟩
        go_wp2_with (at_next; refine wpList_next_ranges_is _ rfl _ rfl 3 9 .i64 law3 Try.underlying3 Try.underlying9 b (w1.heap.size + 1) l.length D left cnt rfl HRG.out ?_ ?_)
        · intro hc0 hl0
          obtain ⟨hkeys, hlen2, hmem⟩ := keys_perm HI.out HCO.out hl0
          have hwfk : ∀ x ∈ keysS es, (Lit.int .i64 x).wf = true := fun x hx => intKeys_wf HRG.out.owns Try.underlying3 x ((HCO.out.perm HRG.out.owns law3 Try.underlying3 hl0).mem_iff.1 (hmem x hx).1)
          have HWF := Aside0.mk hwfk
          have HMEM := Aside0.mk (fun x hx => (hmem x hx).2)
          clear hmem hwfk
          have hob := own_base (Kd.own_of_R HO.out)
          obtain ⟨_, h00 | ⟨g, cap, cur, rfl, hgb, hgh, hcl, hcm, hcz, htk⟩⟩ := Kd.own_of_R HO.out
          · exfalso; have := h00.1; omega
          have hS := holds_of_blockI hgh (by rw [Nat.mul_one] at htk; exact htk)
          have hsort := Try.slices_Sort_int g 0 cap ss wr hS (blk_lt hgh) (by omega)
          have HSORT := Aside0.mk hsort
          have HGH := Aside0.mk hgh
          have HK := Aside0.mk hkeys
          have HMr := Aside0.mk HRG.out.owns
          have HCZ := Aside0.mk (And.intro hcl (And.intro hcm (And.intro hcz (And.intro hgb hlen2))))
          clear hsort hgh hkeys htk hS HRG HCO HO hl0 hc0 hcs hck hob hcl hcm hcz hgb hlen2
          go_wp2_with (fail)
          refine HSORT.out.mono ?_
          rintro e w2 ⟨rfl, nn, os, hw2⟩
          obtain ⟨hcl, hcm, hcz, hgb, hlen2⟩ := HCZ.out
          have hrow := ownsRow_sortedI (n := nn) (os := os) (ss := ss) (ts := keysS es) (by rw [← HK.out, List.length_mergeSort]) hgb HGH.out (by omega) hcm hcz
          have hgr := grownBy_sortedI (w := wr) (g := g) (n := nn) (os := os) (keysS es).toArray
          rw [HK.out] at hw2
          rw [← hw2] at hrow hgr
          have HM2 := Aside0.mk (HMr.out.kept hgr (by intro e; have := Option.some.inj e; omega))
          have HB2 := Aside0.mk (HB.out.grown hgr HB.out.size (fun k hk => by cases hk; omega))
          have BK52 := Aside0.mk (blk_grown BK5.out hgr (by intro e; have := Option.some.inj e; omega))
          have hkl : (keysS es).length = es.length := by rw [keysS, List.length_mergeSort, List.length_map]
          rw [hlen2] at hrow
          have HROW := Aside0.mk hrow
          rw [hlen2]
          clear hw2 hrow hgr HSORT HGH HB BK5 HMr hgb hcl hcm hcz HCZ hlen2 HSW HK
          obtain ⟨ks, hks⟩ : ∃ ks, ks = keysS es := ⟨_, rfl⟩
          have HKS := Aside0.mk hks
          clear hks
          have HKL := Aside0.mk hkl
          clear hkl
          go_wp2
          go_loopg [9, 41] (es.length + 1) (fun kq v9 v41 wr => ∃ (i : Nat), v41 = .int .i64 i ∧ i ≤ es.length ∧ kq + i = es.length + 1 ∧ Aside0 (Kd.R (Kd.int .u8) 5 wr w2.heap.size (fun _ => True) v9 (((keysS es).take i).flatMap (pieceS es))) ∧ Aside0 (Below w2.heap.size w2 wr))
          case atStart => exact ⟨0, rfl, Nat.zero_le _, rfl, ⟨Kd.R_nil _ _ _ _ _⟩, ⟨Below.refl _ _⟩⟩
          case round =>
            obtain ⟨i, rfl, hi, hk, HO, HBr⟩ := hrel
            obtain ⟨kk, rfl⟩ : ∃ kk, gk = kk + 1 := ⟨gk - 1, by omega⟩
            by_cases hlt : i < es.length
            · have hltk : i < (keysS es).length := by rw [HKL.out]; exact hlt
              obtain ⟨s, hs⟩ := HMEM.out _ (List.getElem_mem hltk)
              have hot := out_take es i hltk hs
              have hol := out_len es (i + 1)
              rw [hot, List.length_append, bytesOf_length] at hol
              have hkey := keyOf_int_mk Try.underlying3 (HWF.out _ (List.getElem_mem hltk))
              have hMr := HM2.out.kept (grown_of_below HBr.out none) (by simp)
              obtain ⟨vs, ps, hrun, hvs⟩ := hMr.lookup law3 Try.underlying55 (zero9 _) (zd := .lit (.string [])) (zp := []) (plainElem_string Try.underlying9 (by decide)) hkey
              obtain ⟨sv, rfl, hsv, _⟩ := plainElem_string_inv Try.underlying9 hvs
              obtain rfl := str_of hsv (HI.out.at_ _ _ hs _)
              have hx : wr.cell? ⟨g, i, none⟩ = some (.int .i64 (keysS es)[i]) := by
                rw [pw_cell_below HBr.out (HROW.out.cellAt i (by omega) |>.trans (by rw [List.getElem?_map, List.getElem?_eq_getElem hltk]; rfl))]
              have p1 : (0 ≤ (i : Int)) = True := eq_true (by omega)
              have p2 : ((i : Int) < (es.length : Int)) = True := eq_true (by omega)
              have HOT := Aside0.mk hot
              have HOL := Aside0.mk hol
              obtain ⟨key, hke⟩ : ∃ key, key = (keysS es)[i] := ⟨_, rfl⟩
              rw [← hke] at hx hrun
              clear hot hol hs hMr hvs hsv hkey hke
              go_wp2_with (at_builtin; refine print_append_str (w0 := w2) w2.heap.size rfl (.tmp 45) (.tmp 48) 22 9 5 rfl Try.underlying22 Try.underlying9 info5 u9 (((keysS es).take i).flatMap (pieceS es)) s rfl rfl ?aO ?aB ?aS ?aL ?_; (case aO => exact Kd.own_of_R HO.out); (case aB => exact HBr.out); (case aS => exact HBr.out.size); (case aL => have := HOL.out; have := HBIG.out; omega); intro v49 w4 ho hb hg; have HO4 := Aside0.mk (show Kd.R (Kd.int .u8) 5 w4 w2.heap.size (fun _ => True) v49 (((keysS es).take i).flatMap (pieceS es) ++ bytesOf s) from Kd.R_of_own (enc := Value.int .u8) ho (fun _ _ => trivial)); have HB4 := Aside0.mk hb; clear ho hb hg)
              go_roundg kk
              case measure => omega
              case rel => exact ⟨i + 1, by first | rfl | go_num, by omega, by omega, ⟨by rw [HOT.out]; exact HO4.out⟩, HB4⟩
            · have he : i = es.length := by omega
              subst he
              have hfull : ((keysS es).take es.length).flatMap (pieceS es) = outS es := by rw [← HKL.out, List.take_length]; rfl
              rw [hfull] at HO
              clear hfull HROW HWF HMEM
              obtain ⟨Ao, co, hu9, hco, hCo⟩ := Kd.R_reads HO.out
              subst hu9
              have HCO := Aside0.mk hCo
              have HLC := Aside0.mk hco
              clear hCo hco
              by_cases hbig : 4096 < (outS es).length
              · have hb1 : decide ((4096 : Int) < ((outS es).length : Int)) = true := decide_eq_true (by omega)
                have hj := HJ.out
                rw [if_pos hbig] at hj
                have HJ := Aside0.mk hj
                clear hj hbig
                go_wp2
                go_ret2
                rw [HJ.out]
                exact ⟨_, rfl, Kd.R_nil _ _ _ _ _, below_then HB2.out HB2.out.size HBr.out⟩
              · have hb1 : decide ((4096 : Int) < ((outS es).length : Int)) = false := decide_eq_false (by omega)
                have hj := HJ.out
                rw [if_neg hbig] at hj
                have y1 : wr.cell? ⟨w1.heap.size, 1, none⟩ = some (.int .i64 a.f1) := (blk_cell (blk_below BK52.out HBr.out) 1).trans rfl
                have y2 : wr.cell? ⟨w1.heap.size, 2, none⟩ = some (.int .i64 a.f2) := (blk_cell (blk_below BK52.out HBr.out) 2).trans rfl
                have HPE := Aside0.mk (par_ev (outS es) (by omega))
                have HBW := Aside0.mk (below_then HB2.out HB2.out.size HBr.out : Below w.heap.size w wr)
                have hw2s : w.heap.size ≤ w2.heap.size := HB2.out.size
                clear hbig
                by_cases ht : 0 < a.f1
                · have ht1 : decide (0 < a.f1) = true := decide_eq_true ht
                  by_cases hp : parS (outS es) = a.f2
                  · have hp1 : (parS (outS es) != a.f2) = false := bne_eq_false_iff_eq.mpr hp
                    rw [if_neg (by rw [hp]; simp)] at hj
                    have HJ := Aside0.mk hj
                    clear hj hp ht
                    go_wp2_with (fail)
                    go_region_with (go_at_call 8; refine (split_Parity.calls _ _ co (outS es) _ _ (by repeat (first | exact HCO.out | apply Kd.C_drewN | apply Kd.C_drew)) HLC.out HPE.out).mono ?_; rintro e w5 ⟨rfl, ⟨nd, rfl⟩⟩)
                    all_goals
                      go_wp2
                      go_ret2
                      rw [HJ.out]
                      exact ⟨_, rfl, Kd.R_lower (by first | exact HO.out | exact Kd.R_drew HO.out | exact Kd.R_drewN HO.out _ | exact Kd.R_drewN (Kd.R_drew HO.out) _ | exact Kd.R_drew (Kd.R_drewN HO.out _) | exact Kd.R_drew (Kd.R_drewN (Kd.R_drew HO.out) _)) hw2s, by repeat (first | exact HBW.out | apply below_alloc | apply pw_below_drewN | apply below_drew1)⟩
                  · have hp1 : (parS (outS es) != a.f2) = true := bne_iff_ne.mpr hp
                    rw [if_pos ⟨ht, hp⟩] at hj
                    have HJ := Aside0.mk hj
                    clear hj hp ht
                    go_wp2_with (fail)
                    go_region_with (go_at_call 8; refine (split_Parity.calls _ _ co (outS es) _ _ (by repeat (first | exact HCO.out | apply Kd.C_drewN | apply Kd.C_drew)) HLC.out HPE.out).mono ?_; rintro e w5 ⟨rfl, ⟨nd, rfl⟩⟩)
                    all_goals
                      go_wp2
                      go_ret2
                      rw [HJ.out]
                      exact ⟨_, rfl, Kd.R_nil _ _ _ _ _, by repeat (first | exact HBW.out | apply below_alloc | apply pw_below_drewN | apply below_drew1)⟩
                · have ht1 : decide (0 < a.f1) = false := decide_eq_false ht
                  rw [if_neg (fun h => ht h.1)] at hj
                  have HJ := Aside0.mk hj
                  clear hj ht
                  go_wp2_with (fail)
                  go_region
                  all_goals
                    go_wp2
                    go_ret2
                    rw [HJ.out]
                    exact ⟨_, rfl, Kd.R_lower (by first | exact HO.out | exact Kd.R_drew HO.out | exact Kd.R_drewN HO.out _ | exact Kd.R_drewN (Kd.R_drew HO.out) _ | exact Kd.R_drew (Kd.R_drewN HO.out _) | exact Kd.R_drew (Kd.R_drewN (Kd.R_drew HO.out) _)) hw2s, by repeat (first | exact HBW.out | apply below_alloc | apply pw_below_drewN | apply below_drew1)⟩
        · intro x s w2 cnt2 hwx hws hlx hat hrg2 hlt2 hg2 hs2 hen
          have hob := own_base (Kd.own_of_R HO.out)
          have HRG2 := Aside0.mk hrg2
          have HO1 := Aside0.mk (Kd.R_grown2 HO.out rfl hg2 (fun k hk => by
            cases hk
            intro e
            have := own_base (Kd.own_of_R HO.out) _ e.symm
            have := HS0.out
            omega))
          have HB2 := Aside0.mk (HB.out.grown hg2 HB.out.size (fun k hk => by cases hk; have := HB1.out.size; omega))
          have BK52 := Aside0.mk (blk_grown BK5.out hg2 (by intro e; have := Option.some.inj e; omega))
          have HCO2 := Aside0.mk (HCO.out.step hlx hat)
          have HS2 := Aside0.mk (Nat.le_trans HSW.out (Nat.le_of_eq hs2.symm))
          have HLEN := Aside0.mk (show ss.length ≤ l.length by omega)
          clear hrg2 hg2 hs2 hat hlx hws
          go_wp2_with (at_builtin; refine Kd.R_append (Kd.int .i64) (w0 := w2) w0.heap.size rfl (.tmp 33) (.tmp 35) 26 3 (.int .i64 0) 8 rfl Try.underlying26 info3 rfl (by decide) (by omega) u7 ss x [.int .i64 x] (fun _ => True) (fun _ => False) rfl rfl ?aP (fun _ hk => hk.elim) (fun _ _ => trivial) ?aO ?aB ?aS ?aL ?_; (case aP => exact rfl); (case aO => exact HO1.out); (case aB => exact Below.refl _ _); (case aS => exact HS2.out); (case aL => have := HLEN.out; omega); intro v36 w4 ho hb hg hat; have HO4 := Aside0.mk ho; have HB4 := Aside0.mk hb; have HG4 := Aside0.mk hg; clear ho hb hg hat)
          go_roundg kk
          case measure => omega
          case rel => exact ⟨_, cnt2, ss ++ [x], by omega, by rw [List.length_append]; simp; omega, ⟨HRG2.out.kept HG4.out (fun e => by have := hob _ e.symm; omega) (fun e => by have := hob _ e.symm; omega)⟩, HCO2, HO4, ⟨HB2.out.grown HG4.out HB2.out.size (fun k hk => by have := hob k hk; omega)⟩, ⟨blk_grown BK52.out HG4.out (fun e => by have := hob _ e.symm; omega)⟩, ⟨Nat.le_trans HS2.out HB4.out.size⟩⟩

end Go.Proofs.Ytclbjddcenkidaa.PS
namespace Go.Proofs.Ytclbjddcenkidaa.PS
open Go.RowKit Go.Proofs.YtclbjddcenkidaaW.PrintWords Go.Proofs.YtclbjddcenkidaaW.PrintLast Go.Proofs.YtclbjddcenkidaaW.PrintMore
attribute [local go_sem] max2_int min2_int max_two min_two max_three min_three max_four min_four
open Go.Maps
theorem data_inj {s t : ByteArray} (h : s.data.toList = t.data.toList) : s = t := by
  cases s; cases t
  congr 1
  exact Array.toList_inj.1 h
def AgreeP (l : List S42) : Prop := ∀ m ∈ l, ∀ m' ∈ l, m.f1.f1 = m'.f1.f1 ∧ m.f1.f2 = m'.f1.f2 ∧ (m.f1.f0 = m'.f1.f0 → textB m = textB m')
structure HasT (es : List (Int × ByteArray)) (p : List S42) : Prop where
  nodup : (es.map (·.1)).Nodup
  look : ∀ x s, es.lookup x = some s ↔ ∃ m ∈ p, m.f1.f0 = x ∧ textB m = s
theorem has_nil : HasT [] [] := ⟨List.nodup_nil, fun x s => by simp⟩
theorem bad_no {first : S40} {es : List (Int × ByteArray)} {m : S42} (h : badS first es m = false) : m.f1.f1 = first.f1 ∧ m.f1.f2 = first.f2 ∧ ∀ old, es.lookup m.f1.f0 = some old → old = textB m := by
  unfold badS at h
  simp only [Bool.or_eq_false_iff, bne_eq_false_iff_eq] at h
  refine ⟨h.1, h.2.1, fun old ho => ?_⟩
  have := h.2.2
  rw [ho] at this
  exact data_inj (bne_eq_false_iff_eq.1 this)
theorem bad_yes {first : S40} {es : List (Int × ByteArray)} {m : S42} (h : badS first es m = true) : m.f1.f1 ≠ first.f1 ∨ m.f1.f2 ≠ first.f2 ∨ ∃ old, es.lookup m.f1.f0 = some old ∧ old ≠ textB m := by
  unfold badS at h
  simp only [Bool.or_eq_true, bne_iff_ne] at h
  rcases h with h | h | h
  · exact .inl h
  · exact .inr (.inl h)
  · right; right
    cases ho : es.lookup m.f1.f0 with
    | none => rw [ho] at h; simp at h
    | some old =>
      rw [ho] at h
      exact ⟨old, rfl, fun e => by subst e; simp at h⟩
theorem has_put {first : S40} {es : List (Int × ByteArray)} {m : S42} {p : List S42} (h : HasT es p) (hb : badS first es m = false) : HasT (putS es m) (p ++ [m]) := by
  obtain ⟨_, _, h3⟩ := bad_no hb
  unfold putS
  cases ho : es.lookup m.f1.f0 with
  | some old =>
    refine ⟨h.nodup, fun x s => ?_⟩
    rw [h.look]
    constructor
    · rintro ⟨m', hm, e1, e2⟩
      exact ⟨m', List.mem_append_left _ hm, e1, e2⟩
    · rintro ⟨m', hm, e1, e2⟩
      rcases List.mem_append.1 hm with hm | hm
      · exact ⟨m', hm, e1, e2⟩
      · have := List.mem_singleton.1 hm
        subst this
        have h4 := h3 _ ho
        subst h4
        obtain ⟨m2, hm2, f1, f2⟩ := (h.look _ _).1 ho
        exact ⟨m2, hm2, f1.trans e1, f2.trans e2⟩
  | none =>
    refine ⟨?_, fun x s => ?_⟩
    · rw [List.map_append, List.nodup_append]
      refine ⟨h.nodup, by simp, fun a ha b hb => ?_⟩
      obtain ⟨q, hq, rfl⟩ := List.mem_map.1 ha
      simp at hb
      rw [hb]
      exact lookup_none ho q hq
    · rw [lookup_snoc]
      constructor
      · intro hx
        cases hl : es.lookup x with
        | some t =>
          rw [hl] at hx
          have : t = s := by simpa using hx
          subst this
          obtain ⟨m', hm, e1, e2⟩ := (h.look _ _).1 hl
          exact ⟨m', List.mem_append_left _ hm, e1, e2⟩
        | none =>
          rw [hl] at hx
          by_cases e : x = m.f1.f0
          · subst e
            refine ⟨m, by simp, rfl, by simpa using hx⟩
          · simp [e] at hx
      · rintro ⟨m', hm, e1, e2⟩
        rcases List.mem_append.1 hm with hm | hm
        · have := (h.look x s).2 ⟨m', hm, e1, e2⟩
          rw [this]; rfl
        · have := List.mem_singleton.1 hm
          subst this
          subst e1
          rw [ho]
          simp [e2]
theorem colR_spec (first : S40) : ∀ (rest p : List S42) (es : List (Int × ByteArray)), HasT es p → (∀ m ∈ p, m.f1.f1 = first.f1 ∧ m.f1.f2 = first.f2) → AgreeP p → (∃ m0 ∈ p ++ rest, m0.f1 = first) →
    (colR first rest es = none → ¬ AgreeP (p ++ rest)) ∧ ∀ es', colR first rest es = some es' → AgreeP (p ++ rest) ∧ HasT es' (p ++ rest)
  | [], p, es, hh, ht, ha, _ => by
    rw [colR, List.append_nil]
    exact ⟨fun h => by simp at h, fun es' h => by cases h; exact ⟨ha, hh⟩⟩
  | m :: rest, p, es, hh, ht, ha, hf => by
    rw [colR]
    have e : p ++ m :: rest = (p ++ [m]) ++ rest := by simp
    cases hb : badS first es m with
    | true =>
      rw [if_pos rfl]
      refine ⟨fun _ hA => ?_, fun _ h => by simp at h⟩
      obtain ⟨m0, hm0, e0⟩ := hf
      have hm : m ∈ p ++ m :: rest := by simp
      rcases bad_yes hb with h | h | ⟨old, ho, hne⟩
      · exact h (by rw [← e0]; exact (hA m hm m0 hm0).1)
      · exact h (by rw [← e0]; exact (hA m hm m0 hm0).2.1)
      · obtain ⟨m2, hm2, f1, f2⟩ := (hh.look _ _).1 ho
        exact hne (f2 ▸ (hA m2 (List.mem_append_left _ hm2) m hm).2.2 f1)
    | false =>
      rw [if_neg (by simp), e]
      obtain ⟨h1, h2, h3⟩ := bad_no hb
      refine colR_spec first rest (p ++ [m]) (putS es m) (has_put hh hb) ?_ ?_ (by rw [← e]; exact hf)
      · intro m' hm'
        rcases List.mem_append.1 hm' with hm' | hm'
        · exact ht m' hm'
        · rw [List.mem_singleton.1 hm']; exact ⟨h1, h2⟩
      · intro a ha' b hb'
        have hat : a.f1.f1 = first.f1 ∧ a.f1.f2 = first.f2 := by
          rcases List.mem_append.1 ha' with hx | hx
          · exact ht a hx
          · rw [List.mem_singleton.1 hx]; exact ⟨h1, h2⟩
        have hbt : b.f1.f1 = first.f1 ∧ b.f1.f2 = first.f2 := by
          rcases List.mem_append.1 hb' with hx | hx
          · exact ht b hx
          · rw [List.mem_singleton.1 hx]; exact ⟨h1, h2⟩
        refine ⟨hat.1.trans hbt.1.symm, hat.2.trans hbt.2.symm, fun hi => ?_⟩
        rcases List.mem_append.1 ha' with hx | hx
        · rcases List.mem_append.1 hb' with hy | hy
          · exact (ha a hx b hy).2.2 hi
          · rw [List.mem_singleton.1 hy] at hi ⊢
            exact h3 _ ((hh.look _ _).2 ⟨a, hx, hi, rfl⟩)
        · rw [List.mem_singleton.1 hx] at hi ⊢
          rcases List.mem_append.1 hb' with hy | hy
          · exact (h3 _ ((hh.look _ _).2 ⟨b, hy, hi.symm, rfl⟩)).symm
          · rw [List.mem_singleton.1 hy]
def ChkIs (l : List S42) (r : Int) : Prop := (l.length = 0 ∧ r = 5) ∨ (l.length ≠ 0 ∧ l.any (fun m => !validS m.f1) = true ∧ r = 1) ∨ (l.length ≠ 0 ∧ l.any (fun m => !validS m.f1) = false ∧ ¬ AgreeP l ∧ r = 34) ∨ (l.length ≠ 0 ∧ l.any (fun m => !validS m.f1) = false ∧ AgreeP l ∧ r = 0)
theorem ChkIs.one {l : List S42} {r r' : Int} (h : ChkIs l r) (h' : ChkIs l r') : r = r' := by
  rcases h with h | h | h | h <;> rcases h' with h' | h' | h' | h' <;> simp_all
theorem col_chk (l : List S42) : ChkIs l (colS l).1 ∧ ((colS l).1 = 0 → HasT (colS l).2 l ∧ AgreeP l) := by
  by_cases h0 : l.length = 0
  · rw [err_nil h0]
    exact ⟨.inl ⟨h0, rfl⟩, fun h => by simp at h⟩
  · cases hb : l.any (fun m => !validS m.f1) with
    | true => rw [err_bad h0 hb]; exact ⟨.inr (.inl ⟨h0, hb, rfl⟩), fun h => by simp at h⟩
    | false =>
      have hlt : 0 < l.length := by omega
      have hg : l[0]? = some (rd_T42 l 0) := by rw [rd_T42, List.getD_eq_getElem?_getD]; simp [List.getElem?_eq_getElem hlt]
      have hm := List.mem_of_getElem? hg
      have hs := colR_spec (rd_T42 l 0).f1 l [] [] has_nil (fun m hm => by simp at hm) (fun m hm => by simp at hm) ⟨_, by simpa using hm, rfl⟩
      rw [List.nil_append] at hs
      cases hc : colR (rd_T42 l 0).f1 l [] with
      | none => rw [err_con h0 hb hc]; exact ⟨.inr (.inr (.inl ⟨h0, hb, hs.1 hc, rfl⟩)), fun h => by simp at h⟩
      | some es => rw [err_ok h0 hb hc]; exact ⟨.inr (.inr (.inr ⟨h0, hb, (hs.2 es hc).1, rfl⟩)), fun _ => ⟨(hs.2 es hc).2, (hs.2 es hc).1⟩⟩
theorem has_mem {es : List (Int × ByteArray)} {p : List S42} (h : HasT es p) (x : Int) : x ∈ es.map (·.1) ↔ ∃ m ∈ p, m.f1.f0 = x := by
  constructor
  · intro hx
    cases hl : es.lookup x with
    | none =>
      obtain ⟨q, hq, e⟩ := List.mem_map.1 hx
      exact absurd e (lookup_none hl q hq)
    | some s =>
      obtain ⟨m, hm, e, _⟩ := (h.look x s).1 hl
      exact ⟨m, hm, e⟩
  · rintro ⟨m, hm, e⟩
    have := (h.look x (textB m)).2 ⟨m, hm, e, rfl⟩
    obtain ⟨l1, l2, h1, _⟩ := List.lookup_eq_some_iff.1 this
    exact List.mem_map.2 ⟨(x, textB m), by rw [h1]; simp, rfl⟩
theorem first_mem {l : List S42} (h : l.length ≠ 0) : rd_T42 l 0 ∈ l := by
  have hlt : 0 < l.length := by omega
  have hg : l[0]? = some (rd_T42 l 0) := by rw [rd_T42, List.getD_eq_getElem?_getD]; simp [List.getElem?_eq_getElem hlt]
  exact List.mem_of_getElem? hg
theorem ok_len {l : List S42} (h : (colS l).1 = 0) : l.length ≠ 0 := fun e => by rw [err_nil e] at h; simp at h
end Go.Proofs.Ytclbjddcenkidaa.PS
namespace Go.Proofs.Ytclbjddcenkidaa.PS
open Go.RowKit Go.Proofs.YtclbjddcenkidaaW.PrintWords Go.Proofs.YtclbjddcenkidaaW.PrintLast Go.Proofs.YtclbjddcenkidaaW.PrintMore
attribute [local go_sem] max2_int min2_int max_two min_two max_three min_three max_four min_four   -- for this text's walks alone

def modes_countBits.j0 : Nat → Int → Int → Bool → Option (Int)
 | 0, _, _, _ => none
 | k + 1, x0, x1, x10 => if x10 = true then (some 0) else (if x0 = 1 then (some (wrap64 (10 + (wrap64 (2 * x1))))) else (if x0 = 2 then (some (wrap64 (9 + (wrap64 (2 * x1))))) else (if x0 = 4 then (some (wrap64 (8 + (wrap64 (8 * (mn x1 1)))))) else (some 0))))
def modes_countBits.f (k : Nat) (a0 : Int) (a1 : Int) : Option (Int) := if a1 < 0 then (modes_countBits.j0 k a0 a1 true) else (modes_countBits.j0 k a0 a1 (decide (a1 > 2)))
theorem modes_countBits.mono_l : ∀ k, (∀ y0 y1 y2, LeO (modes_countBits.j0 k y0 y1 y2) (modes_countBits.j0 (k + 1) y0 y1 y2))
 | 0 => fun _ _ _ r h => by simp [modes_countBits.j0] at h
 | k + 1 => by
  have ih0 := modes_countBits.mono_l k
  ·intro y0 y1 y2
   unfold modes_countBits.j0
   repeat' first
   | (with_reducible exact ih0 _ _ _)
   | (with_reducible exact LeO.refl _)
   | (with_reducible exact LeO.none _)
   | (with_reducible refine LeO.ite ?_ ?_)
   | (with_reducible refine LeO.bind ?_ (fun _ => ?_))
   | exact ih0 _ _ _
   | exact LeO.none _
   | refine LeO.ite ?_ ?_
   | refine LeO.bind ?_ (fun _ => ?_)
theorem modes_countBits.mono : ∀ a0 a1 k, LeO (modes_countBits.f k a0 a1) (modes_countBits.f (k + 1) a0 a1) := by
 intro a0 a1 k
 have ih0 := modes_countBits.mono_l k
 unfold modes_countBits.f
 repeat' first
   | (with_reducible exact ih0 _ _ _)
   | (with_reducible exact LeO.refl _)
   | (with_reducible exact LeO.none _)
   | (with_reducible refine LeO.ite ?_ ?_)
   | (with_reducible refine LeO.bind ?_ (fun _ => ?_))
   | exact ih0 _ _ _
   | exact LeO.none _
   | refine LeO.ite ?_ ?_
   | refine LeO.bind ?_ (fun _ => ?_)
set_option maxHeartbeats 8000000 in
set_option maxRecDepth 100000 in
theorem modes_countBits.calls (k : Nat) (a0 : Int) (a1 : Int) (r : Int) (w : World) (h : modes_countBits.f k a0 a1 = some r) :
  Calls Try.prog 63 #[.int .i64 a0, .int .i64 a1] w fun e w' => e = .returned (.int .i64 r) ∧ Below w.heap.size w w' := by
 have HB := Aside0.mk (Below.refl w.heap.size w)
 have H : (if a1 < 0 then (modes_countBits.j0 k a0 a1 true) else (modes_countBits.j0 k a0 a1 (decide (a1 > 2)))) = some r := h
 clear h
 have HC3 := Aside0.mk H
 clear H
 go_enter Try.func63, Try.ntmps63
 go_upto_region 1 with (fail)
 go_cut [10] (fun v10 wc => ∃ (kq : Nat) (x10_2 : Bool), v10 = .bool x10_2 ∧ Aside0 (modes_countBits.j0 kq a0 a1 x10_2 = some r) ∧ Aside0 (kq ≤ k) ∧ Aside0 (Below w.heap.size w wc))
 case first =>
  have H := HC3.out
  clear HC3
  by_cases c4 : a1 < 0
  ·rw [if_pos c4] at H
   have c4b0 : decide (a1 < 0) = true := decide_eq_true c4
   clear c4
   (first | rw [c4b0] | (simp only [i64_w, i32_w]; rw [c4b0]) | skip)
   have H' := Aside0.mk H
   clear H
   go_wp2
   go_meet
   case rel => exact ⟨_, (true), (by first | rfl | (simp; done) | (simp [*]; done)), H', ⟨by first | omega | exact Nat.le_refl _⟩, ⟨by repeat (first | (with_reducible first | exact HB.out | apply below_alloc | apply pw_below_drewN | apply below_drew1) | exact HB.out)⟩⟩
  ·rw [if_neg c4] at H
   have c4b0 : decide (a1 < 0) = false := decide_eq_false c4
   clear c4
   (first | rw [c4b0] | (simp only [i64_w, i32_w]; rw [c4b0]) | skip)
   have H' := Aside0.mk H
   clear H
   go_wp2
   go_meet
   case rel => exact ⟨_, (decide (a1 > 2)), (by first | rfl | (simp; done) | (simp [*]; done)), H', ⟨by first | omega | exact Nat.le_refl _⟩, ⟨by repeat (first | (with_reducible first | exact HB.out | apply below_alloc | apply pw_below_drewN | apply below_drew1) | exact HB.out)⟩⟩
 case rest =>
  clear HC3
  try clear p2
  try clear c4
  try clear c4b0
  obtain ⟨kq, x10_2, rfl, HA, HJ2, HB⟩ := hcut
  cases kq with
  | zero => exact absurd HA.out (by simp [modes_countBits.j0])
  | succ kj2 =>
   have H := HA.out
   clear HA
   simp only [modes_countBits.j0] at H
   by_cases c5 : x10_2 = true
   ·subst c5
    have H1 : (some 0) = some r := by rw [if_pos rfl] at H; exact H
    clear H
    have H := H1
    clear H1
    obtain rfl := Option.some.inj H
    go_wp2
    go_ret
    exact ⟨by first | rfl | (simp [errW_none, errW_some] <;> rfl) | (simp [*, errW_none, errW_some] <;> rfl), by repeat (first | (with_reducible first | exact HB.out | apply below_alloc | apply pw_below_drewN | apply below_drew1) | exact HB.out)⟩
   ·replace c5 := Bool.eq_false_iff.mpr c5
    subst c5
    have H1 : (if a0 = 1 then (some (wrap64 (10 + (wrap64 (2 * a1))))) else (if a0 = 2 then (some (wrap64 (9 + (wrap64 (2 * a1))))) else (if a0 = 4 then (some (wrap64 (8 + (wrap64 (8 * (mn a1 1)))))) else (some 0)))) = some r := by rw [if_neg (show ¬ (false = true) by decide)] at H; exact H
    clear H
    have H := H1
    clear H1
    by_cases c6 : a0 = 1
    ·rw [if_pos c6] at H
     have c6b0 : (a0 == 1) = true := beq_iff_eq.mpr c6
     have c6b1 : (a0 != 1) = false := bne_eq_false_iff_eq.mpr c6
     clear c6
     obtain rfl := Option.some.inj H
     go_wp2
     go_ret
     exact ⟨by first | rfl | (simp [errW_none, errW_some] <;> rfl) | (simp [*, errW_none, errW_some] <;> rfl), by repeat (first | (with_reducible first | exact HB.out | apply below_alloc | apply pw_below_drewN | apply below_drew1) | exact HB.out)⟩
    ·rw [if_neg c6] at H
     have c6b0 : (a0 == 1) = false := beq_eq_false_iff_ne.mpr c6
     have c6b1 : (a0 != 1) = true := bne_iff_ne.mpr c6
     by_cases c7 : a0 = 2
     ·rw [if_pos c7] at H
      have c7b0 : (a0 == 2) = true := beq_iff_eq.mpr c7
      have c7b1 : (a0 != 2) = false := bne_eq_false_iff_eq.mpr c7
      clear c7
      obtain rfl := Option.some.inj H
      go_wp2
      go_ret
      exact ⟨by first | rfl | (simp [errW_none, errW_some] <;> rfl) | (simp [*, errW_none, errW_some] <;> rfl), by repeat (first | (with_reducible first | exact HB.out | apply below_alloc | apply pw_below_drewN | apply below_drew1) | exact HB.out)⟩
     ·rw [if_neg c7] at H
      have c7b0 : (a0 == 2) = false := beq_eq_false_iff_ne.mpr c7
      have c7b1 : (a0 != 2) = true := bne_iff_ne.mpr c7
      by_cases c8 : a0 = 4
      ·rw [if_pos c8] at H
       have c8b0 : (a0 == 4) = true := beq_iff_eq.mpr c8
       have c8b1 : (a0 != 4) = false := bne_eq_false_iff_eq.mpr c8
       clear c8
       obtain ⟨ji9, hji9⟩ : ∃ j_ : Int, (mn a1 1) = j_ := ⟨_, rfl⟩
       replace H : (some (wrap64 (8 + (wrap64 (8 * (ji9)))))) = some r := by first | (rw [hji9] at H; exact H) | (simp only [hji9] at H ⊢; exact H)
       have hji9_ : (if 1 < a1 then 1 else a1) = ji9 := hji9
       obtain rfl := Option.some.inj H
       go_wp2
       go_ret
       exact ⟨by first | rfl | (simp [errW_none, errW_some] <;> rfl) | (simp only [← hji9]; first | rfl | (simp [errW_none, errW_some] <;> rfl)) | (simp [*, errW_none, errW_some] <;> rfl), by repeat (first | (with_reducible first | exact HB.out | apply below_alloc | apply pw_below_drewN | apply below_drew1) | exact HB.out)⟩
      ·rw [if_neg c8] at H
       have c8b0 : (a0 == 4) = false := beq_eq_false_iff_ne.mpr c8
       have c8b1 : (a0 != 4) = true := bne_iff_ne.mpr c8
       obtain rfl := Option.some.inj H
       go_wp2
       go_ret
       exact ⟨by first | rfl | (simp [errW_none, errW_some] <;> rfl) | (simp [*, errW_none, errW_some] <;> rfl), by repeat (first | (with_reducible first | exact HB.out | apply below_alloc | apply pw_below_drewN | apply below_drew1) | exact HB.out)⟩

end Go.Proofs.Ytclbjddcenkidaa.PS
namespace Go.Proofs.Ytclbjddcenkidaa.PS
open Go.RowKit Go.Proofs.YtclbjddcenkidaaW.PrintWords Go.Proofs.YtclbjddcenkidaaW.PrintLast Go.Proofs.YtclbjddcenkidaaW.PrintMore
attribute [local go_sem] max2_int min2_int max_two min_two max_three min_three max_four min_four   -- for this text's walks alone

def strings_IndexByte.f (a0 : ByteArray) (a1 : Int) : Option Int := some (Lib.indexByte a0.data.toList a1.toNat.toUInt8)
theorem strings_IndexByte.calls (a0 : ByteArray) (a1 : Int) (r : Int) (w : World) (h : strings_IndexByte.f a0 a1 = some r) :
  Calls Try.prog 82 #[.string a0, .int .u8 a1] w fun e w' => e = .returned (.int .i64 r) ∧ Drawn0 w w' := by
 obtain rfl := Option.some.inj h
 exact (Try.strings_IndexByte a0 a1 w).mono fun e w' ⟨he, hw⟩ => ⟨he, by rw [hw]; exact Drawn0.refl _⟩

end Go.Proofs.Ytclbjddcenkidaa.PS
namespace Go.Proofs.Ytclbjddcenkidaa.PS
open Go.RowKit Go.Proofs.YtclbjddcenkidaaW.PrintWords Go.Proofs.YtclbjddcenkidaaW.PrintLast Go.Proofs.YtclbjddcenkidaaW.PrintMore
attribute [local go_sem] max2_int min2_int max_two min_two max_three min_three max_four min_four   -- for this text's walks alone

def modes_Fits.f (a0 : Int) (a1 : Int) : Option (Bool) := if a0 = 1 then (if a1 ≥ 48 then (some (decide (a1 ≤ 57))) else (some false)) else (if a0 = 2 then ((strings_IndexByte.f (⟨#[48, 49, 50, 51, 52, 53, 54, 55, 56, 57, 65, 66, 67, 68, 69, 70, 71, 72, 73, 74, 75, 76, 77, 78, 79, 80, 81, 82, 83, 84, 85, 86, 87, 88, 89, 90, 32, 36, 37, 42, 43, 45, 46, 47, 58]⟩ : ByteArray) a1).bind fun t106 => (some (decide (t106 ≥ 0)))) else (some (a0 == 4)))
set_option maxHeartbeats 8000000 in
set_option maxRecDepth 100000 in
theorem modes_Fits.calls (a0 : Int) (a1 : Int) (r : Bool) (w : World) (h : modes_Fits.f a0 a1 = some r) :
  Calls Try.prog 64 #[.int .i64 a0, .int .u8 a1] w fun e w' => e = .returned (.bool r) ∧ Drawn0 w w' := by
 have H : (if a0 = 1 then (if a1 ≥ 48 then (some (decide (a1 ≤ 57))) else (some false)) else (if a0 = 2 then ((strings_IndexByte.f (⟨#[48, 49, 50, 51, 52, 53, 54, 55, 56, 57, 65, 66, 67, 68, 69, 70, 71, 72, 73, 74, 75, 76, 77, 78, 79, 80, 81, 82, 83, 84, 85, 86, 87, 88, 89, 90, 32, 36, 37, 42, 43, 45, 46, 47, 58]⟩ : ByteArray) a1).bind fun t106 => (some (decide (t106 ≥ 0)))) else (some (a0 == 4)))) = some r := h
 clear h
 by_cases c3 : a0 = 1
 ·rw [if_pos c3] at H
  have c3b0 : (a0 == 1) = true := beq_iff_eq.mpr c3
  have c3b1 : (a0 != 1) = false := bne_eq_false_iff_eq.mpr c3
  clear c3
  by_cases c4 : a1 ≥ 48
  ·rw [if_pos c4] at H
   have c4b0 : decide (48 ≤ a1) = true := decide_eq_true c4
   clear c4
   obtain rfl := Option.some.inj H
   go_enter Try.func64, Try.ntmps64
   go_wp2
   go_ret
   exact ⟨by first | rfl | (simp; done) | (simp [*]; done), by repeat (first | exact Drawn0.refl _ | apply Drawn0.step)⟩
  ·rw [if_neg c4] at H
   have c4b0 : decide (48 ≤ a1) = false := decide_eq_false c4
   clear c4
   obtain rfl := Option.some.inj H
   go_enter Try.func64, Try.ntmps64
   go_wp2
   go_ret
   exact ⟨by first | rfl | (simp; done) | (simp [*]; done), by repeat (first | exact Drawn0.refl _ | apply Drawn0.step)⟩
 ·rw [if_neg c3] at H
  have c3b0 : (a0 == 1) = false := beq_eq_false_iff_ne.mpr c3
  have c3b1 : (a0 != 1) = true := bne_iff_ne.mpr c3
  by_cases c5 : a0 = 2
  ·rw [if_pos c5] at H
   have c5b0 : (a0 == 2) = true := beq_iff_eq.mpr c5
   have c5b1 : (a0 != 2) = false := bne_eq_false_iff_eq.mpr c5
   clear c5
   replace H := Option.bind_eq_some_iff.mp H
   obtain ⟨t106, A60, H⟩ := H
   replace H : (some (decide (t106 ≥ 0))) = some r := H
   have A6 := Aside0.mk A60
   clear A60
   obtain rfl := Option.some.inj H
   go_enter Try.func64, Try.ntmps64
   go_wp2_with (first | ((with_reducible refine gate_callee (f := 82) rfl ?_); refine goesL_ (some 17) rfl rfl Try.func82 (by kernel_rfl) rfl #[.string (⟨#[48, 49, 50, 51, 52, 53, 54, 55, 56, 57, 65, 66, 67, 68, 69, 70, 71, 72, 73, 74, 75, 76, 77, 78, 79, 80, 81, 82, 83, 84, 85, 86, 87, 88, 89, 90, 32, 36, 37, 42, 43, 45, 46, 47, 58]⟩ : ByteArray), .int .u8 a1] rfl (by (try simp only [List.map_toArray, List.map_cons, List.map_nil]); first | done | rfl | (simp only [List.length_drop, List.length_take]; rfl)) ?_; (with_reducible refine (strings_IndexByte.calls (⟨#[48, 49, 50, 51, 52, 53, 54, 55, 56, 57, 65, 66, 67, 68, 69, 70, 71, 72, 73, 74, 75, 76, 77, 78, 79, 80, 81, 82, 83, 84, 85, 86, 87, 88, 89, 90, 32, 36, 37, 42, 43, 45, 46, 47, 58]⟩ : ByteArray) a1 t106 _ A6.out).mono ?_); rintro e w' ⟨rfl, ⟨nd, rfl⟩⟩; refine ⟨_, rfl, ?_⟩))
   go_ret
   exact ⟨by first | rfl | (simp; done) | (simp [*]; done), by repeat (first | exact Drawn0.refl _ | apply Drawn0.step)⟩
  ·rw [if_neg c5] at H
   have c5b0 : (a0 == 2) = false := beq_eq_false_iff_ne.mpr c5
   have c5b1 : (a0 != 2) = true := bne_iff_ne.mpr c5
   obtain rfl := Option.some.inj H
   go_enter Try.func64, Try.ntmps64
   go_wp2
   go_ret
   exact ⟨by first | rfl | (simp; done) | (simp [*]; done), by repeat (first | exact Drawn0.refl _ | apply Drawn0.step)⟩

end Go.Proofs.Ytclbjddcenkidaa.PS
namespace Go.Proofs.Ytclbjddcenkidaa.PS
open Go.RowKit Go.Proofs.YtclbjddcenkidaaW.PrintWords Go.Proofs.YtclbjddcenkidaaW.PrintLast Go.Proofs.YtclbjddcenkidaaW.PrintMore
attribute [local go_sem] max2_int min2_int max_two min_two max_three min_three max_four min_four   -- for this text's walks alone

def modes_group.f (a0 : Int) : Option (Int × List Int) := if a0 = 1 then (some (3, (([0, 4, 7, 10] : List Int)))) else (if a0 = 2 then (some (2, (([0, 6, 11] : List Int)))) else (some (1, (([0, 8] : List Int)))))
set_option maxHeartbeats 8000000 in
set_option maxRecDepth 100000 in
theorem modes_group.calls (a0 : Int) (r1 : Int) (r2 : List Int) (w : World) (h : modes_group.f a0 = some (r1, r2)) :
  Calls Try.prog 83 #[.int .i64 a0] w fun e w' => ∃ v1_ : Value, e = .returned (.tuple #[.int .i64 r1, v1_]) ∧ Kd.R (Kd.int .i64) 3 w' w.heap.size (fun _ => True) v1_ r2 ∧ Below w.heap.size w w' := by
 have HB := Aside0.mk (Below.refl w.heap.size w)
 have H : (if a0 = 1 then (some (3, (([0, 4, 7, 10] : List Int)))) else (if a0 = 2 then (some (2, (([0, 6, 11] : List Int)))) else (some (1, (([0, 8] : List Int)))))) = some (r1, r2) := h
 clear h
 by_cases c2 : a0 = 1
 ·rw [if_pos c2] at H
  have c2b0 : (a0 == 1) = true := beq_iff_eq.mpr c2
  have c2b1 : (a0 != 1) = false := bne_eq_false_iff_eq.mpr c2
  clear c2
  obtain ⟨y107, hy107⟩ : ∃ y_ : List Int, y_ = (([0, 4, 7, 10] : List Int)) := ⟨_, rfl⟩
  replace H : (some (3, y107)) = some (r1, r2) := by first | (rw [hy107]; with_reducible exact H) | (have H2_ := (Option.bind_some _ _).symm.trans H; rw [hy107]; with_reducible exact H2_) | (have H2_ := (Option.bind_some _ _).symm.trans H; with_reducible exact H2_) | with_reducible exact H | (rw [hy107]; exact H) | exact H
  have Ny107 := Aside0.mk hy107
  clear hy107
  simp only [Option.some.injEq, Prod.mk.injEq] at H
  obtain ⟨rfl, rfl⟩ := H
  go_enter Try.func83, Try.ntmps83
  go_wp2_with (first | ((with_reducible refine gate_dst (N := 7) rfl ?_); refine Kd.R_lit (Kd.int .i64) _ 3 ?hg (N := 7) ?hd (xs := ([0, 4, 7, 10] : List Int)) (inner := [.int .i64 0, .int .i64 4, .int .i64 7, .int .i64 10]) (ok := fun _ => True) (okp := fun _ => True) ?hr ?hp (fun _ hk => hk) trivial (Below.refl _ _) (Nat.le_refl _) (by simp) ?_; (case hd => rfl); (case hg => rfl); (case hr => first | (go_simp; done) | (go_simp; rfl)); (case hp => exact (Reps.one (show Kd.M (Kd.int .i64) _ _ _ 0 [.int .i64 0] from rfl) (Reps.one (show Kd.M (Kd.int .i64) _ _ _ 4 [.int .i64 4] from rfl) (Reps.one (show Kd.M (Kd.int .i64) _ _ _ 7 [.int .i64 7] from rfl) (Reps.one (show Kd.M (Kd.int .i64) _ _ _ 10 [.int .i64 10] from rfl) (Reps.none _ _)))))); intro v108 w3 ho4 hb hg_ hnew_; clear hg_ hnew_; (first | rw [← Ny107.out] at ho4 | (simp only [Int.reduceToNat] at ho4; rw [← Ny107.out] at ho4)); have n0_ := Aside0.mk (Kd.R_lower ho4 (below_size (by repeat (first | (with_reducible first | exact HB.out | apply below_alloc | apply pw_below_drewN | apply below_drew1) | exact HB.out)))); have n1_ := Aside0.mk (below_step (by repeat (first | (with_reducible first | exact HB.out | apply below_alloc | apply pw_below_drewN | apply below_drew1) | exact HB.out)) hb); clear HB; have HO109 := n0_; have HB := n1_; clear n0_ n1_; clear hb ho4))
  go_ret2
  exact ⟨_, by first | rfl | (simp [errW_none, errW_some] <;> rfl) | (simp [*, errW_none, errW_some] <;> rfl), by (with_reducible repeat (first | apply Kd.R_alloc | apply Kd.R_drewN | apply Kd.R_drew)); exact HO109.out, by repeat (first | (with_reducible first | exact HB.out | apply below_alloc | apply pw_below_drewN | apply below_drew1) | exact HB.out)⟩
 ·rw [if_neg c2] at H
  have c2b0 : (a0 == 1) = false := beq_eq_false_iff_ne.mpr c2
  have c2b1 : (a0 != 1) = true := bne_iff_ne.mpr c2
  by_cases c5 : a0 = 2
  ·rw [if_pos c5] at H
   have c5b0 : (a0 == 2) = true := beq_iff_eq.mpr c5
   have c5b1 : (a0 != 2) = false := bne_eq_false_iff_eq.mpr c5
   clear c5
   obtain ⟨y110, hy110⟩ : ∃ y_ : List Int, y_ = (([0, 6, 11] : List Int)) := ⟨_, rfl⟩
   replace H : (some (2, y110)) = some (r1, r2) := by first | (rw [hy110]; with_reducible exact H) | (have H2_ := (Option.bind_some _ _).symm.trans H; rw [hy110]; with_reducible exact H2_) | (have H2_ := (Option.bind_some _ _).symm.trans H; with_reducible exact H2_) | with_reducible exact H | (rw [hy110]; exact H) | exact H
   have Ny110 := Aside0.mk hy110
   clear hy110
   simp only [Option.some.injEq, Prod.mk.injEq] at H
   obtain ⟨rfl, rfl⟩ := H
   go_enter Try.func83, Try.ntmps83
   go_wp2_with (first | ((with_reducible refine gate_dst (N := 10) rfl ?_); refine Kd.R_lit (Kd.int .i64) _ 3 ?hg (N := 10) ?hd (xs := ([0, 6, 11] : List Int)) (inner := [.int .i64 0, .int .i64 6, .int .i64 11]) (ok := fun _ => True) (okp := fun _ => True) ?hr ?hp (fun _ hk => hk) trivial (Below.refl _ _) (Nat.le_refl _) (by simp) ?_; (case hd => rfl); (case hg => rfl); (case hr => first | (go_simp; done) | (go_simp; rfl)); (case hp => exact (Reps.one (show Kd.M (Kd.int .i64) _ _ _ 0 [.int .i64 0] from rfl) (Reps.one (show Kd.M (Kd.int .i64) _ _ _ 6 [.int .i64 6] from rfl) (Reps.one (show Kd.M (Kd.int .i64) _ _ _ 11 [.int .i64 11] from rfl) (Reps.none _ _))))); intro v111 w6 ho7 hb hg_ hnew_; clear hg_ hnew_; (first | rw [← Ny110.out] at ho7 | (simp only [Int.reduceToNat] at ho7; rw [← Ny110.out] at ho7)); have n0_ := Aside0.mk (Kd.R_lower ho7 (below_size (by repeat (first | (with_reducible first | exact HB.out | apply below_alloc | apply pw_below_drewN | apply below_drew1) | exact HB.out)))); have n1_ := Aside0.mk (below_step (by repeat (first | (with_reducible first | exact HB.out | apply below_alloc | apply pw_below_drewN | apply below_drew1) | exact HB.out)) hb); clear HB; have HO112 := n0_; have HB := n1_; clear n0_ n1_; clear hb ho7))
   go_ret2
   exact ⟨_, by first | rfl | (simp [errW_none, errW_some] <;> rfl) | (simp [*, errW_none, errW_some] <;> rfl), by (with_reducible repeat (first | apply Kd.R_alloc | apply Kd.R_drewN | apply Kd.R_drew)); exact HO112.out, by repeat (first | (with_reducible first | exact HB.out | apply below_alloc | apply pw_below_drewN | apply below_drew1) | exact HB.out)⟩
  ·rw [if_neg c5] at H
   have c5b0 : (a0 == 2) = false := beq_eq_false_iff_ne.mpr c5
   have c5b1 : (a0 != 2) = true := bne_iff_ne.mpr c5
   obtain ⟨y113, hy113⟩ : ∃ y_ : List Int, y_ = (([0, 8] : List Int)) := ⟨_, rfl⟩
   replace H : (some (1, y113)) = some (r1, r2) := by first | (rw [hy113]; with_reducible exact H) | (have H2_ := (Option.bind_some _ _).symm.trans H; rw [hy113]; with_reducible exact H2_) | (have H2_ := (Option.bind_some _ _).symm.trans H; with_reducible exact H2_) | with_reducible exact H | (rw [hy113]; exact H) | exact H
   have Ny113 := Aside0.mk hy113
   clear hy113
   simp only [Option.some.injEq, Prod.mk.injEq] at H
   obtain ⟨rfl, rfl⟩ := H
   go_enter Try.func83, Try.ntmps83
   go_wp2_with (first | ((with_reducible refine gate_dst (N := 11) rfl ?_); refine Kd.R_lit (Kd.int .i64) _ 3 ?hg (N := 11) ?hd (xs := ([0, 8] : List Int)) (inner := [.int .i64 0, .int .i64 8]) (ok := fun _ => True) (okp := fun _ => True) ?hr ?hp (fun _ hk => hk) trivial (Below.refl _ _) (Nat.le_refl _) (by simp) ?_; (case hd => rfl); (case hg => rfl); (case hr => first | (go_simp; done) | (go_simp; rfl)); (case hp => exact (Reps.one (show Kd.M (Kd.int .i64) _ _ _ 0 [.int .i64 0] from rfl) (Reps.one (show Kd.M (Kd.int .i64) _ _ _ 8 [.int .i64 8] from rfl) (Reps.none _ _)))); intro v114 w8 ho9 hb hg_ hnew_; clear hg_ hnew_; (first | rw [← Ny113.out] at ho9 | (simp only [Int.reduceToNat] at ho9; rw [← Ny113.out] at ho9)); have n0_ := Aside0.mk (Kd.R_lower ho9 (below_size (by repeat (first | (with_reducible first | exact HB.out | apply below_alloc | apply pw_below_drewN | apply below_drew1) | exact HB.out)))); have n1_ := Aside0.mk (below_step (by repeat (first | (with_reducible first | exact HB.out | apply below_alloc | apply pw_below_drewN | apply below_drew1) | exact HB.out)) hb); clear HB; have HO115 := n0_; have HB := n1_; clear n0_ n1_; clear hb ho9))
   go_ret2
   exact ⟨_, by first | rfl | (simp [errW_none, errW_some] <;> rfl) | (simp [*, errW_none, errW_some] <;> rfl), by (with_reducible repeat (first | apply Kd.R_alloc | apply Kd.R_drewN | apply Kd.R_drew)); exact HO115.out, by repeat (first | (with_reducible first | exact HB.out | apply below_alloc | apply pw_below_drewN | apply below_drew1) | exact HB.out)⟩

end Go.Proofs.Ytclbjddcenkidaa.PS
namespace Go.Proofs.Ytclbjddcenkidaa.PS
open Go.RowKit Go.Proofs.YtclbjddcenkidaaW.PrintWords Go.Proofs.YtclbjddcenkidaaW.PrintLast Go.Proofs.YtclbjddcenkidaaW.PrintMore
attribute [local go_sem] max2_int min2_int max_two min_two max_three min_three max_four min_four   -- for this text's walks alone

def modes_dataBits.f (a0 : Int) (a1 : Int) : Option (Int) := (modes_group.f a0).bind fun bt116 => (if bt116.1 = 0 then (none) else (if 0 ≤ bt116.1 then (if bt116.1 < (bt116.2.length : Int) then (if 0 ≤ (Int.tmod a1 bt116.1) then (if (Int.tmod a1 bt116.1) < (bt116.2.length : Int) then (some (wrap64 ((wrap64 ((wrap64 (Int.tdiv a1 bt116.1)) * (rd bt116.2 bt116.1))) + (rd bt116.2 (Int.tmod a1 bt116.1))))) else (none)) else (none)) else (none)) else (none)))
set_option maxHeartbeats 8000000 in
set_option maxRecDepth 100000 in
theorem modes_dataBits.calls (a0 : Int) (a1 : Int) (r : Int) (w : World) (h : modes_dataBits.f a0 a1 = some r) :
  Calls Try.prog 65 #[.int .i64 a0, .int .i64 a1] w fun e w' => e = .returned (.int .i64 r) ∧ Below w.heap.size w w' := by
 have HB := Aside0.mk (Below.refl w.heap.size w)
 have H : ((modes_group.f a0).bind fun bt116 => (if bt116.1 = 0 then (none) else (if 0 ≤ bt116.1 then (if bt116.1 < (bt116.2.length : Int) then (if 0 ≤ (Int.tmod a1 bt116.1) then (if (Int.tmod a1 bt116.1) < (bt116.2.length : Int) then (some (wrap64 ((wrap64 ((wrap64 (Int.tdiv a1 bt116.1)) * (rd bt116.2 bt116.1))) + (rd bt116.2 (Int.tmod a1 bt116.1))))) else (none)) else (none)) else (none)) else (none)))) = some r := h
 clear h
 replace H := Option.bind_eq_some_iff.mp H
 obtain ⟨⟨t116, t117⟩, A30, H⟩ := H
 replace H : (if t116 = 0 then (none) else (if 0 ≤ t116 then (if t116 < (t117.length : Int) then (if 0 ≤ (Int.tmod a1 t116) then (if (Int.tmod a1 t116) < (t117.length : Int) then (some (wrap64 ((wrap64 ((wrap64 (Int.tdiv a1 t116)) * (rd t117 t116))) + (rd t117 (Int.tmod a1 t116))))) else (none)) else (none)) else (none)) else (none))) = some r := H
 have A3 := Aside0.mk A30
 clear A30
 by_cases c4 : t116 = 0
 ·rw [if_pos c4] at H
  exact absurd H (by simp)
 ·rw [if_neg c4] at H
  have c4b0 : (t116 == 0) = false := beq_eq_false_iff_ne.mpr c4
  have c4b1 : (t116 != 0) = true := bne_iff_ne.mpr c4
  by_cases c5 : 0 ≤ t116
  ·rw [if_pos c5] at H
   have c5b0 : decide (0 ≤ t116) = true := decide_eq_true c5
   clear c5
   by_cases c6 : t116 < (t117.length : Int)
   ·rw [if_pos c6] at H
    have c6b0 : decide (t116 < (t117.length : Int)) = true := decide_eq_true c6
    clear c6
    obtain ⟨ji7, hji7⟩ : ∃ j_ : Int, (Int.tmod a1 t116) = j_ := ⟨_, rfl⟩
    replace H : (if 0 ≤ (ji7) then (if (ji7) < (t117.length : Int) then (some (wrap64 ((wrap64 ((wrap64 (Int.tdiv a1 t116)) * (rd t117 t116))) + (rd t117 (ji7))))) else (none)) else (none)) = some r := by first | (rw [hji7] at H; exact H) | (simp only [hji7] at H ⊢; exact H)
    (try rw [hji7] at A3)
    by_cases c8 : 0 ≤ (ji7)
    ·rw [if_pos c8] at H
     have c8b0 : decide (0 ≤ (ji7)) = true := decide_eq_true c8
     clear c8
     by_cases c9 : (ji7) < (t117.length : Int)
     ·rw [if_pos c9] at H
      have c9b0 : decide ((ji7) < (t117.length : Int)) = true := decide_eq_true c9
      clear c9
      obtain rfl := Option.some.inj H
      go_enter Try.func65, Try.ntmps65
      go_wp2_with (first | (go_at_call 83; (with_reducible refine (modes_group.calls a0 t116 t117 _ A3.out).mono ?_); rintro e w10 ⟨v118, rfl, ho0, hb⟩; have n0_ := Aside0.mk (Kd.R_lower ho0 (below_size (by repeat (first | (with_reducible first | exact HB.out | apply below_alloc | apply pw_below_drewN | apply below_drew1) | exact HB.out)))); have n1_ := Aside0.mk (below_step (by repeat (first | (with_reducible first | exact HB.out | apply below_alloc | apply pw_below_drewN | apply below_drew1) | exact HB.out)) hb); clear HB; have HO119 := n0_; have HB := n1_; clear n0_ n1_; (try clear hb); (try clear hb2); (try clear hk); (try clear hi); (try clear ho0); obtain ⟨Ao11, co11, eo11⟩ := Kd.R_slice HO119.out; subst eo11; have p120 : 0 ≤ (t116 : Int) := of_decide_eq_true (by first | (with_reducible assumption) | assumption); have q120 : t116 < (t117.length : Int) := of_decide_eq_true (by first | (with_reducible assumption) | assumption); obtain ⟨ad120, e120, hx120_0⟩ := Kd.at_int (Kd.R_reads' HO119.out).2.2 t116 p120 q120; cases e120; replace p120 := eq_true p120; replace q120 := eq_true q120; have p121 : 0 ≤ ((ji7) : Int) := of_decide_eq_true (by first | (with_reducible assumption) | assumption); have q121 : (ji7) < (t117.length : Int) := of_decide_eq_true (by first | (with_reducible assumption) | assumption); obtain ⟨ad121, e121, hx121_0⟩ := Kd.at_int (Kd.R_reads' HO119.out).2.2 (ji7) p121 q121; obtain rfl : ad120 = ad121 := (by injection e121); replace p121 := eq_true p121; replace q121 := eq_true q121))
      repeat (go_quiet (first | (go_at_call 83; (with_reducible refine (modes_group.calls a0 t116 t117 _ A3.out).mono ?_); rintro e w10 ⟨v118, rfl, ho0, hb⟩; have n0_ := Aside0.mk (Kd.R_lower ho0 (below_size (by repeat (first | (with_reducible first | exact HB.out | apply below_alloc | apply pw_below_drewN | apply below_drew1) | exact HB.out)))); have n1_ := Aside0.mk (below_step (by repeat (first | (with_reducible first | exact HB.out | apply below_alloc | apply pw_below_drewN | apply below_drew1) | exact HB.out)) hb); clear HB; have HO119 := n0_; have HB := n1_; clear n0_ n1_; (try clear hb); (try clear hb2); (try clear hk); (try clear hi); (try clear ho0); obtain ⟨Ao11, co11, eo11⟩ := Kd.R_slice HO119.out; subst eo11; have p120 : 0 ≤ (t116 : Int) := of_decide_eq_true (by first | (with_reducible assumption) | assumption); have q120 : t116 < (t117.length : Int) := of_decide_eq_true (by first | (with_reducible assumption) | assumption); obtain ⟨ad120, e120, hx120_0⟩ := Kd.at_int (Kd.R_reads' HO119.out).2.2 t116 p120 q120; cases e120; replace p120 := eq_true p120; replace q120 := eq_true q120; have p121 : 0 ≤ ((ji7) : Int) := of_decide_eq_true (by first | (with_reducible assumption) | assumption); have q121 : (ji7) < (t117.length : Int) := of_decide_eq_true (by first | (with_reducible assumption) | assumption); obtain ⟨ad121, e121, hx121_0⟩ := Kd.at_int (Kd.R_reads' HO119.out).2.2 (ji7) p121 q121; obtain rfl : ad120 = ad121 := (by injection e121); replace p121 := eq_true p121; replace q121 := eq_true q121)); try go_wp2_with (first | (go_at_call 83; (with_reducible refine (modes_group.calls a0 t116 t117 _ A3.out).mono ?_); rintro e w10 ⟨v118, rfl, ho0, hb⟩; have n0_ := Aside0.mk (Kd.R_lower ho0 (below_size (by repeat (first | (with_reducible first | exact HB.out | apply below_alloc | apply pw_below_drewN | apply below_drew1) | exact HB.out)))); have n1_ := Aside0.mk (below_step (by repeat (first | (with_reducible first | exact HB.out | apply below_alloc | apply pw_below_drewN | apply below_drew1) | exact HB.out)) hb); clear HB; have HO119 := n0_; have HB := n1_; clear n0_ n1_; (try clear hb); (try clear hb2); (try clear hk); (try clear hi); (try clear ho0); obtain ⟨Ao11, co11, eo11⟩ := Kd.R_slice HO119.out; subst eo11; have p120 : 0 ≤ (t116 : Int) := of_decide_eq_true (by first | (with_reducible assumption) | assumption); have q120 : t116 < (t117.length : Int) := of_decide_eq_true (by first | (with_reducible assumption) | assumption); obtain ⟨ad120, e120, hx120_0⟩ := Kd.at_int (Kd.R_reads' HO119.out).2.2 t116 p120 q120; cases e120; replace p120 := eq_true p120; replace q120 := eq_true q120; have p121 : 0 ≤ ((ji7) : Int) := of_decide_eq_true (by first | (with_reducible assumption) | assumption); have q121 : (ji7) < (t117.length : Int) := of_decide_eq_true (by first | (with_reducible assumption) | assumption); obtain ⟨ad121, e121, hx121_0⟩ := Kd.at_int (Kd.R_reads' HO119.out).2.2 (ji7) p121 q121; obtain rfl : ad120 = ad121 := (by injection e121); replace p121 := eq_true p121; replace q121 := eq_true q121)))
      go_ret
      exact ⟨by first | rfl | (simp [errW_none, errW_some] <;> rfl) | (simp only [← hji7]; first | rfl | (simp [errW_none, errW_some] <;> rfl)) | (simp [*, errW_none, errW_some] <;> rfl), by repeat (first | (with_reducible first | exact HB.out | apply below_alloc | apply pw_below_drewN | apply below_drew1) | exact HB.out)⟩
     ·rw [if_neg c9] at H
      exact absurd H (by simp)
    ·rw [if_neg c8] at H
     exact absurd H (by simp)
   ·rw [if_neg c6] at H
    exact absurd H (by simp)
  ·rw [if_neg c5] at H
   exact absurd H (by simp)

end Go.Proofs.Ytclbjddcenkidaa.PS
namespace Go.Proofs.Ytclbjddcenkidaa.PS
open Go.RowKit Go.Proofs.YtclbjddcenkidaaW.PrintWords Go.Proofs.YtclbjddcenkidaaW.PrintLast Go.Proofs.YtclbjddcenkidaaW.PrintMore
attribute [local go_sem] max2_int min2_int max_two min_two max_three min_three max_four min_four   -- for this text's walks alone

def modes_plan_better.f (a0_0 : Int) (a0_1 : Int) (a0_2 : Int) (a0_3 : Int) (a1_0 : Int) (a1_1 : Int) (a1_2 : Int) (a1_3 : Int) : Option (Bool) := if a0_0 = a1_0 then (if a0_1 = a1_1 then (if a0_2 = a1_2 then (some (decide (a0_3 < a1_3))) else (some (decide (a0_2 > a1_2)))) else (some (decide (a0_1 < a1_1)))) else (some (decide (a0_0 < a1_0)))
set_option maxHeartbeats 8000000 in
set_option maxRecDepth 100000 in
theorem modes_plan_better.calls (a0_0 : Int) (a0_1 : Int) (a0_2 : Int) (a0_3 : Int) (a1_0 : Int) (a1_1 : Int) (a1_2 : Int) (a1_3 : Int) (r : Bool) (w : World) (h : modes_plan_better.f a0_0 a0_1 a0_2 a0_3 a1_0 a1_1 a1_2 a1_3 = some r) :
  Calls Try.prog 66 #[.agg #[.int .i64 a0_0, .int .i64 a0_1, .int .i64 a0_2, .int .i64 a0_3], .agg #[.int .i64 a1_0, .int .i64 a1_1, .int .i64 a1_2, .int .i64 a1_3]] w fun e w' => e = .returned (.bool r) ∧ Below w.heap.size w w' := by
 have hu106 := Try.underlying106
 have HB := Aside0.mk (Below.refl w.heap.size w)
 have H : (if a0_0 = a1_0 then (if a0_1 = a1_1 then (if a0_2 = a1_2 then (some (decide (a0_3 < a1_3))) else (some (decide (a0_2 > a1_2)))) else (some (decide (a0_1 < a1_1)))) else (some (decide (a0_0 < a1_0)))) = some r := h
 clear h
 by_cases c3 : a0_0 = a1_0
 ·rw [if_pos c3] at H
  have c3b0 : (a0_0 == a1_0) = true := beq_iff_eq.mpr c3
  have c3b1 : (a0_0 != a1_0) = false := bne_eq_false_iff_eq.mpr c3
  clear c3
  by_cases c4 : a0_1 = a1_1
  ·rw [if_pos c4] at H
   have c4b0 : (a0_1 == a1_1) = true := beq_iff_eq.mpr c4
   have c4b1 : (a0_1 != a1_1) = false := bne_eq_false_iff_eq.mpr c4
   clear c4
   by_cases c5 : a0_2 = a1_2
   ·rw [if_pos c5] at H
    have c5b0 : (a0_2 == a1_2) = true := beq_iff_eq.mpr c5
    have c5b1 : (a0_2 != a1_2) = false := bne_eq_false_iff_eq.mpr c5
    clear c5
    obtain rfl := Option.some.inj H
    go_enter Try.func66, Try.ntmps66
    go_wp2_with (first | ((with_reducible refine gate_dst (N := 2) rfl ?_); refine box_event ?hg (N := 2) ?hd (cs := #[.int .i64 a0_0, .int .i64 a0_1, .int .i64 a0_2, .int .i64 a0_3]) (t := 106) ?hr ?_; (case hd => rfl); (case hg => rfl); (case hr => first | (go_simp; done) | (go_simp; rfl)); intro gb122 hg w6 hbox hb; have n0_ := Aside0.mk (below_step (by repeat (first | (with_reducible first | exact HB.out | apply below_alloc | apply pw_below_drewN | apply below_drew1) | exact HB.out)) hb); have n1_ := Aside0.mk (hbox); have n2_ := Aside0.mk ((by rw [hg]; exact (below_size (by repeat (first | (with_reducible first | exact HB.out | apply below_alloc | apply pw_below_drewN | apply below_drew1) | exact HB.out))) : w.heap.size ≤ gb122)); have n3_ := Aside0.mk ((by rw [hg]; exact (below_size (by repeat (first | (with_reducible first | exact HB.out | apply below_alloc | apply pw_below_drewN | apply below_drew1) | exact HB.out))) : w.heap.size ≤ gb122)); clear HB; have HB := n0_; have BK122 := n1_; have GW122 := n2_; have GE122 := n3_; clear n0_ n1_ n2_ n3_; clear hb hbox hg) | ((with_reducible refine gate_dst (N := 3) rfl ?_); refine box_event ?hg (N := 3) ?hd (cs := #[.int .i64 a1_0, .int .i64 a1_1, .int .i64 a1_2, .int .i64 a1_3]) (t := 106) ?hr ?_; (case hd => rfl); (case hg => rfl); (case hr => first | (go_simp; done) | (go_simp; rfl)); intro gb123 hg w7 hbox hb; have n0_ := Aside0.mk (blk_below (g := gb122) (o := .cells #[.int .i64 a0_0, .int .i64 a0_1, .int .i64 a0_2, .int .i64 a0_3] 106 (0, 0)) (by (with_reducible repeat (first | refine blk_drewN ?_ _ | refine blk_drew ?_ | refine blk_alloc ?_ _)); exact BK122.out) hb); have n1_ := Aside0.mk (below_step (by repeat (first | (with_reducible first | exact HB.out | apply below_alloc | apply pw_below_drewN | apply below_drew1 | refine below_set ?_ GE122.out) | exact HB.out)) hb); have n2_ := Aside0.mk (hbox); have n3_ := Aside0.mk ((by rw [hg]; exact (below_size (by repeat (first | (with_reducible first | exact HB.out | apply below_alloc | apply pw_below_drewN | apply below_drew1 | refine below_set ?_ GE122.out) | exact HB.out))) : w.heap.size ≤ gb123)); have n4_ := Aside0.mk ((by rw [hg]; exact (below_size (by repeat (first | (with_reducible first | exact HB.out | apply below_alloc | apply pw_below_drewN | apply below_drew1 | refine below_set ?_ GE122.out) | exact HB.out))) : w.heap.size ≤ gb123)); have n5_ := Aside0.mk ((by rw [hg]; exact Nat.ne_of_lt (blk_lt (g := gb122) (o := .cells #[.int .i64 a0_0, .int .i64 a0_1, .int .i64 a0_2, .int .i64 a0_3] 106 (0, 0)) (by (with_reducible repeat (first | refine blk_drewN ?_ _ | refine blk_drew ?_ | refine blk_alloc ?_ _)); exact BK122.out)) : gb122 ≠ gb123)); have n6_ := Aside0.mk ((by rw [hg]; exact Nat.ne_of_gt (blk_lt (g := gb122) (o := .cells #[.int .i64 a0_0, .int .i64 a0_1, .int .i64 a0_2, .int .i64 a0_3] 106 (0, 0)) (by (with_reducible repeat (first | refine blk_drewN ?_ _ | refine blk_drew ?_ | refine blk_alloc ?_ _)); exact BK122.out)) : gb123 ≠ gb122)); clear BK122; clear HB; have BK122 := n0_; have HB := n1_; have BK123 := n2_; have GW123 := n3_; have GE123 := n4_; have NB122_123 := n5_; have NB123_122 := n6_; clear n0_ n1_ n2_ n3_ n4_ n5_ n6_; clear hb hbox hg; have hnb8 := NB122_123.out; have hnc8 := NB123_122.out; have hcz9_0 : w7.cell? ⟨gb122, 0, none⟩ = some (.int .i64 a0_0) := (blk_cell BK122.out 0).trans rfl; have hcz9_1 : w7.cell? ⟨gb122, 1, none⟩ = some (.int .i64 a0_1) := (blk_cell BK122.out 1).trans rfl; have hcz9_2 : w7.cell? ⟨gb122, 2, none⟩ = some (.int .i64 a0_2) := (blk_cell BK122.out 2).trans rfl; have hcz9_3 : w7.cell? ⟨gb122, 3, none⟩ = some (.int .i64 a0_3) := (blk_cell BK122.out 3).trans rfl; have hfz9_0 := blk_frozen BK122.out 0; have hfz9_1 := blk_frozen BK122.out 1; have hfz9_2 := blk_frozen BK122.out 2; have hfz9_3 := blk_frozen BK122.out 3; have hcz10_0 : w7.cell? ⟨gb123, 0, none⟩ = some (.int .i64 a1_0) := (blk_cell BK123.out 0).trans rfl; have hcz10_1 : w7.cell? ⟨gb123, 1, none⟩ = some (.int .i64 a1_1) := (blk_cell BK123.out 1).trans rfl; have hcz10_2 : w7.cell? ⟨gb123, 2, none⟩ = some (.int .i64 a1_2) := (blk_cell BK123.out 2).trans rfl; have hcz10_3 : w7.cell? ⟨gb123, 3, none⟩ = some (.int .i64 a1_3) := (blk_cell BK123.out 3).trans rfl; have hfz10_0 := blk_frozen BK123.out 0; have hfz10_1 := blk_frozen BK123.out 1; have hfz10_2 := blk_frozen BK123.out 2; have hfz10_3 := blk_frozen BK123.out 3))
    go_ret
    exact ⟨by first | rfl | (simp [errW_none, errW_some] <;> rfl) | (simp [*, errW_none, errW_some] <;> rfl), by repeat (first | (with_reducible first | exact HB.out | apply below_alloc | apply pw_below_drewN | apply below_drew1 | refine below_set ?_ GE122.out | refine below_set ?_ GE123.out) | exact HB.out)⟩
   ·rw [if_neg c5] at H
    have c5b0 : (a0_2 == a1_2) = false := beq_eq_false_iff_ne.mpr c5
    have c5b1 : (a0_2 != a1_2) = true := bne_iff_ne.mpr c5
    obtain rfl := Option.some.inj H
    go_enter Try.func66, Try.ntmps66
    go_wp2_with (first | ((with_reducible refine gate_dst (N := 2) rfl ?_); refine box_event ?hg (N := 2) ?hd (cs := #[.int .i64 a0_0, .int .i64 a0_1, .int .i64 a0_2, .int .i64 a0_3]) (t := 106) ?hr ?_; (case hd => rfl); (case hg => rfl); (case hr => first | (go_simp; done) | (go_simp; rfl)); intro gb122 hg w11 hbox hb; have n0_ := Aside0.mk (below_step (by repeat (first | (with_reducible first | exact HB.out | apply below_alloc | apply pw_below_drewN | apply below_drew1) | exact HB.out)) hb); have n1_ := Aside0.mk (hbox); have n2_ := Aside0.mk ((by rw [hg]; exact (below_size (by repeat (first | (with_reducible first | exact HB.out | apply below_alloc | apply pw_below_drewN | apply below_drew1) | exact HB.out))) : w.heap.size ≤ gb122)); have n3_ := Aside0.mk ((by rw [hg]; exact (below_size (by repeat (first | (with_reducible first | exact HB.out | apply below_alloc | apply pw_below_drewN | apply below_drew1) | exact HB.out))) : w.heap.size ≤ gb122)); clear HB; have HB := n0_; have BK122 := n1_; have GW122 := n2_; have GE122 := n3_; clear n0_ n1_ n2_ n3_; clear hb hbox hg) | ((with_reducible refine gate_dst (N := 3) rfl ?_); refine box_event ?hg (N := 3) ?hd (cs := #[.int .i64 a1_0, .int .i64 a1_1, .int .i64 a1_2, .int .i64 a1_3]) (t := 106) ?hr ?_; (case hd => rfl); (case hg => rfl); (case hr => first | (go_simp; done) | (go_simp; rfl)); intro gb123 hg w12 hbox hb; have n0_ := Aside0.mk (blk_below (g := gb122) (o := .cells #[.int .i64 a0_0, .int .i64 a0_1, .int .i64 a0_2, .int .i64 a0_3] 106 (0, 0)) (by (with_reducible repeat (first | refine blk_drewN ?_ _ | refine blk_drew ?_ | refine blk_alloc ?_ _)); exact BK122.out) hb); have n1_ := Aside0.mk (below_step (by repeat (first | (with_reducible first | exact HB.out | apply below_alloc | apply pw_below_drewN | apply below_drew1 | refine below_set ?_ GE122.out) | exact HB.out)) hb); have n2_ := Aside0.mk (hbox); have n3_ := Aside0.mk ((by rw [hg]; exact (below_size (by repeat (first | (with_reducible first | exact HB.out | apply below_alloc | apply pw_below_drewN | apply below_drew1 | refine below_set ?_ GE122.out) | exact HB.out))) : w.heap.size ≤ gb123)); have n4_ := Aside0.mk ((by rw [hg]; exact (below_size (by repeat (first | (with_reducible first | exact HB.out | apply below_alloc | apply pw_below_drewN | apply below_drew1 | refine below_set ?_ GE122.out) | exact HB.out))) : w.heap.size ≤ gb123)); have n5_ := Aside0.mk ((by rw [hg]; exact Nat.ne_of_lt (blk_lt (g := gb122) (o := .cells #[.int .i64 a0_0, .int .i64 a0_1, .int .i64 a0_2, .int .i64 a0_3] 106 (0, 0)) (by (with_reducible repeat (first | refine blk_drewN ?_ _ | refine blk_drew ?_ | refine blk_alloc ?_ _)); exact BK122.out)) : gb122 ≠ gb123)); have n6_ := Aside0.mk ((by rw [hg]; exact Nat.ne_of_gt (blk_lt (g := gb122) (o := .cells #[.int .i64 a0_0, .int .i64 a0_1, .int .i64 a0_2, .int .i64 a0_3] 106 (0, 0)) (by (with_reducible repeat (first | refine blk_drewN ?_ _ | refine blk_drew ?_ | refine blk_alloc ?_ _)); exact BK122.out)) : gb123 ≠ gb122)); clear BK122; clear HB; have BK122 := n0_; have HB := n1_; have BK123 := n2_; have GW123 := n3_; have GE123 := n4_; have NB122_123 := n5_; have NB123_122 := n6_; clear n0_ n1_ n2_ n3_ n4_ n5_ n6_; clear hb hbox hg; have hnb13 := NB122_123.out; have hnc13 := NB123_122.out; have hcz14_0 : w12.cell? ⟨gb122, 0, none⟩ = some (.int .i64 a0_0) := (blk_cell BK122.out 0).trans rfl; have hcz14_1 : w12.cell? ⟨gb122, 1, none⟩ = some (.int .i64 a0_1) := (blk_cell BK122.out 1).trans rfl; have hcz14_2 : w12.cell? ⟨gb122, 2, none⟩ = some (.int .i64 a0_2) := (blk_cell BK122.out 2).trans rfl; have hcz14_3 : w12.cell? ⟨gb122, 3, none⟩ = some (.int .i64 a0_3) := (blk_cell BK122.out 3).trans rfl; have hfz14_0 := blk_frozen BK122.out 0; have hfz14_1 := blk_frozen BK122.out 1; have hfz14_2 := blk_frozen BK122.out 2; have hfz14_3 := blk_frozen BK122.out 3; have hcz15_0 : w12.cell? ⟨gb123, 0, none⟩ = some (.int .i64 a1_0) := (blk_cell BK123.out 0).trans rfl; have hcz15_1 : w12.cell? ⟨gb123, 1, none⟩ = some (.int .i64 a1_1) := (blk_cell BK123.out 1).trans rfl; have hcz15_2 : w12.cell? ⟨gb123, 2, none⟩ = some (.int .i64 a1_2) := (blk_cell BK123.out 2).trans rfl; have hcz15_3 : w12.cell? ⟨gb123, 3, none⟩ = some (.int .i64 a1_3) := (blk_cell BK123.out 3).trans rfl; have hfz15_0 := blk_frozen BK123.out 0; have hfz15_1 := blk_frozen BK123.out 1; have hfz15_2 := blk_frozen BK123.out 2; have hfz15_3 := blk_frozen BK123.out 3))
    go_ret
    exact ⟨by first | rfl | (simp [errW_none, errW_some] <;> rfl) | (simp [*, errW_none, errW_some] <;> rfl), by repeat (first | (with_reducible first | exact HB.out | apply below_alloc | apply pw_below_drewN | apply below_drew1 | refine below_set ?_ GE122.out | refine below_set ?_ GE123.out) | exact HB.out)⟩
  ·rw [if_neg c4] at H
   have c4b0 : (a0_1 == a1_1) = false := beq_eq_false_iff_ne.mpr c4
   have c4b1 : (a0_1 != a1_1) = true := bne_iff_ne.mpr c4
   obtain rfl := Option.some.inj H
   go_enter Try.func66, Try.ntmps66
   go_wp2_with (first | ((with_reducible refine gate_dst (N := 2) rfl ?_); refine box_event ?hg (N := 2) ?hd (cs := #[.int .i64 a0_0, .int .i64 a0_1, .int .i64 a0_2, .int .i64 a0_3]) (t := 106) ?hr ?_; (case hd => rfl); (case hg => rfl); (case hr => first | (go_simp; done) | (go_simp; rfl)); intro gb122 hg w16 hbox hb; have n0_ := Aside0.mk (below_step (by repeat (first | (with_reducible first | exact HB.out | apply below_alloc | apply pw_below_drewN | apply below_drew1) | exact HB.out)) hb); have n1_ := Aside0.mk (hbox); have n2_ := Aside0.mk ((by rw [hg]; exact (below_size (by repeat (first | (with_reducible first | exact HB.out | apply below_alloc | apply pw_below_drewN | apply below_drew1) | exact HB.out))) : w.heap.size ≤ gb122)); have n3_ := Aside0.mk ((by rw [hg]; exact (below_size (by repeat (first | (with_reducible first | exact HB.out | apply below_alloc | apply pw_below_drewN | apply below_drew1) | exact HB.out))) : w.heap.size ≤ gb122)); clear HB; have HB := n0_; have BK122 := n1_; have GW122 := n2_; have GE122 := n3_; clear n0_ n1_ n2_ n3_; clear hb hbox hg) | ((with_reducible refine gate_dst (N := 3) rfl ?_); refine box_event ?hg (N := 3) ?hd (cs := #[.int .i64 a1_0, .int .i64 a1_1, .int .i64 a1_2, .int .i64 a1_3]) (t := 106) ?hr ?_; (case hd => rfl); (case hg => rfl); (case hr => first | (go_simp; done) | (go_simp; rfl)); intro gb123 hg w17 hbox hb; have n0_ := Aside0.mk (blk_below (g := gb122) (o := .cells #[.int .i64 a0_0, .int .i64 a0_1, .int .i64 a0_2, .int .i64 a0_3] 106 (0, 0)) (by (with_reducible repeat (first | refine blk_drewN ?_ _ | refine blk_drew ?_ | refine blk_alloc ?_ _)); exact BK122.out) hb); have n1_ := Aside0.mk (below_step (by repeat (first | (with_reducible first | exact HB.out | apply below_alloc | apply pw_below_drewN | apply below_drew1 | refine below_set ?_ GE122.out) | exact HB.out)) hb); have n2_ := Aside0.mk (hbox); have n3_ := Aside0.mk ((by rw [hg]; exact (below_size (by repeat (first | (with_reducible first | exact HB.out | apply below_alloc | apply pw_below_drewN | apply below_drew1 | refine below_set ?_ GE122.out) | exact HB.out))) : w.heap.size ≤ gb123)); have n4_ := Aside0.mk ((by rw [hg]; exact (below_size (by repeat (first | (with_reducible first | exact HB.out | apply below_alloc | apply pw_below_drewN | apply below_drew1 | refine below_set ?_ GE122.out) | exact HB.out))) : w.heap.size ≤ gb123)); have n5_ := Aside0.mk ((by rw [hg]; exact Nat.ne_of_lt (blk_lt (g := gb122) (o := .cells #[.int .i64 a0_0, .int .i64 a0_1, .int .i64 a0_2, .int .i64 a0_3] 106 (0, 0)) (by (with_reducible repeat (first | refine blk_drewN ?_ _ | refine blk_drew ?_ | refine blk_alloc ?_ _)); exact BK122.out)) : gb122 ≠ gb123)); have n6_ := Aside0.mk ((by rw [hg]; exact Nat.ne_of_gt (blk_lt (g := gb122) (o := .cells #[.int .i64 a0_0, .int .i64 a0_1, .int .i64 a0_2, .int .i64 a0_3] 106 (0, 0)) (by (with_reducible repeat (first | refine blk_drewN ?_ _ | refine blk_drew ?_ | refine blk_alloc ?_ _)); exact BK122.out)) : gb123 ≠ gb122)); clear BK122; clear HB; have BK122 := n0_; have HB := n1_; have BK123 := n2_; have GW123 := n3_; have GE123 := n4_; have NB122_123 := n5_; have NB123_122 := n6_; clear n0_ n1_ n2_ n3_ n4_ n5_ n6_; clear hb hbox hg; have hnb18 := NB122_123.out; have hnc18 := NB123_122.out; have hcz19_0 : w17.cell? ⟨gb122, 0, none⟩ = some (.int .i64 a0_0) := (blk_cell BK122.out 0).trans rfl; have hcz19_1 : w17.cell? ⟨gb122, 1, none⟩ = some (.int .i64 a0_1) := (blk_cell BK122.out 1).trans rfl; have hcz19_2 : w17.cell? ⟨gb122, 2, none⟩ = some (.int .i64 a0_2) := (blk_cell BK122.out 2).trans rfl; have hcz19_3 : w17.cell? ⟨gb122, 3, none⟩ = some (.int .i64 a0_3) := (blk_cell BK122.out 3).trans rfl; have hfz19_0 := blk_frozen BK122.out 0; have hfz19_1 := blk_frozen BK122.out 1; have hfz19_2 := blk_frozen BK122.out 2; have hfz19_3 := blk_frozen BK122.out 3; have hcz20_0 : w17.cell? ⟨gb123, 0, none⟩ = some (.int .i64 a1_0) := (blk_cell BK123.out 0).trans rfl; have hcz20_1 : w17.cell? ⟨gb123, 1, none⟩ = some (.int .i64 a1_1) := (blk_cell BK123.out 1).trans rfl; have hcz20_2 : w17.cell? ⟨gb123, 2, none⟩ = some (.int .i64 a1_2) := (blk_cell BK123.out 2).trans rfl; have hcz20_3 : w17.cell? ⟨gb123, 3, none⟩ = some (.int .i64 a1_3) := (blk_cell BK123.out 3).trans rfl; have hfz20_0 := blk_frozen BK123.out 0; have hfz20_1 := blk_frozen BK123.out 1; have hfz20_2 := blk_frozen BK123.out 2; have hfz20_3 := blk_frozen BK123.out 3))
   go_ret
   exact ⟨by first | rfl | (simp [errW_none, errW_some] <;> rfl) | (simp [*, errW_none, errW_some] <;> rfl), by repeat (first | (with_reducible first | exact HB.out | apply below_alloc | apply pw_below_drewN | apply below_drew1 | refine below_set ?_ GE122.out | refine below_set ?_ GE123.out) | exact HB.out)⟩
 ·rw [if_neg c3] at H
  have c3b0 : (a0_0 == a1_0) = false := beq_eq_false_iff_ne.mpr c3
  have c3b1 : (a0_0 != a1_0) = true := bne_iff_ne.mpr c3
  obtain rfl := Option.some.inj H
  go_enter Try.func66, Try.ntmps66
  go_wp2_with (first | ((with_reducible refine gate_dst (N := 2) rfl ?_); refine box_event ?hg (N := 2) ?hd (cs := #[.int .i64 a0_0, .int .i64 a0_1, .int .i64 a0_2, .int .i64 a0_3]) (t := 106) ?hr ?_; (case hd => rfl); (case hg => rfl); (case hr => first | (go_simp; done) | (go_simp; rfl)); intro gb122 hg w21 hbox hb; have n0_ := Aside0.mk (below_step (by repeat (first | (with_reducible first | exact HB.out | apply below_alloc | apply pw_below_drewN | apply below_drew1) | exact HB.out)) hb); have n1_ := Aside0.mk (hbox); have n2_ := Aside0.mk ((by rw [hg]; exact (below_size (by repeat (first | (with_reducible first | exact HB.out | apply below_alloc | apply pw_below_drewN | apply below_drew1) | exact HB.out))) : w.heap.size ≤ gb122)); have n3_ := Aside0.mk ((by rw [hg]; exact (below_size (by repeat (first | (with_reducible first | exact HB.out | apply below_alloc | apply pw_below_drewN | apply below_drew1) | exact HB.out))) : w.heap.size ≤ gb122)); clear HB; have HB := n0_; have BK122 := n1_; have GW122 := n2_; have GE122 := n3_; clear n0_ n1_ n2_ n3_; clear hb hbox hg) | ((with_reducible refine gate_dst (N := 3) rfl ?_); refine box_event ?hg (N := 3) ?hd (cs := #[.int .i64 a1_0, .int .i64 a1_1, .int .i64 a1_2, .int .i64 a1_3]) (t := 106) ?hr ?_; (case hd => rfl); (case hg => rfl); (case hr => first | (go_simp; done) | (go_simp; rfl)); intro gb123 hg w22 hbox hb; have n0_ := Aside0.mk (blk_below (g := gb122) (o := .cells #[.int .i64 a0_0, .int .i64 a0_1, .int .i64 a0_2, .int .i64 a0_3] 106 (0, 0)) (by (with_reducible repeat (first | refine blk_drewN ?_ _ | refine blk_drew ?_ | refine blk_alloc ?_ _)); exact BK122.out) hb); have n1_ := Aside0.mk (below_step (by repeat (first | (with_reducible first | exact HB.out | apply below_alloc | apply pw_below_drewN | apply below_drew1 | refine below_set ?_ GE122.out) | exact HB.out)) hb); have n2_ := Aside0.mk (hbox); have n3_ := Aside0.mk ((by rw [hg]; exact (below_size (by repeat (first | (with_reducible first | exact HB.out | apply below_alloc | apply pw_below_drewN | apply below_drew1 | refine below_set ?_ GE122.out) | exact HB.out))) : w.heap.size ≤ gb123)); have n4_ := Aside0.mk ((by rw [hg]; exact (below_size (by repeat (first | (with_reducible first | exact HB.out | apply below_alloc | apply pw_below_drewN | apply below_drew1 | refine below_set ?_ GE122.out) | exact HB.out))) : w.heap.size ≤ gb123)); have n5_ := Aside0.mk ((by rw [hg]; exact Nat.ne_of_lt (blk_lt (g := gb122) (o := .cells #[.int .i64 a0_0, .int .i64 a0_1, .int .i64 a0_2, .int .i64 a0_3] 106 (0, 0)) (by (with_reducible repeat (first | refine blk_drewN ?_ _ | refine blk_drew ?_ | refine blk_alloc ?_ _)); exact BK122.out)) : gb122 ≠ gb123)); have n6_ := Aside0.mk ((by rw [hg]; exact Nat.ne_of_gt (blk_lt (g := gb122) (o := .cells #[.int .i64 a0_0, .int .i64 a0_1, .int .i64 a0_2, .int .i64 a0_3] 106 (0, 0)) (by (with_reducible repeat (first | refine blk_drewN ?_ _ | refine blk_drew ?_ | refine blk_alloc ?_ _)); exact BK122.out)) : gb123 ≠ gb122)); clear BK122; clear HB; have BK122 := n0_; have HB := n1_; have BK123 := n2_; have GW123 := n3_; have GE123 := n4_; have NB122_123 := n5_; have NB123_122 := n6_; clear n0_ n1_ n2_ n3_ n4_ n5_ n6_; clear hb hbox hg; have hnb23 := NB122_123.out; have hnc23 := NB123_122.out; have hcz24_0 : w22.cell? ⟨gb122, 0, none⟩ = some (.int .i64 a0_0) := (blk_cell BK122.out 0).trans rfl; have hcz24_1 : w22.cell? ⟨gb122, 1, none⟩ = some (.int .i64 a0_1) := (blk_cell BK122.out 1).trans rfl; have hcz24_2 : w22.cell? ⟨gb122, 2, none⟩ = some (.int .i64 a0_2) := (blk_cell BK122.out 2).trans rfl; have hcz24_3 : w22.cell? ⟨gb122, 3, none⟩ = some (.int .i64 a0_3) := (blk_cell BK122.out 3).trans rfl; have hfz24_0 := blk_frozen BK122.out 0; have hfz24_1 := blk_frozen BK122.out 1; have hfz24_2 := blk_frozen BK122.out 2; have hfz24_3 := blk_frozen BK122.out 3; have hcz25_0 : w22.cell? ⟨gb123, 0, none⟩ = some (.int .i64 a1_0) := (blk_cell BK123.out 0).trans rfl; have hcz25_1 : w22.cell? ⟨gb123, 1, none⟩ = some (.int .i64 a1_1) := (blk_cell BK123.out 1).trans rfl; have hcz25_2 : w22.cell? ⟨gb123, 2, none⟩ = some (.int .i64 a1_2) := (blk_cell BK123.out 2).trans rfl; have hcz25_3 : w22.cell? ⟨gb123, 3, none⟩ = some (.int .i64 a1_3) := (blk_cell BK123.out 3).trans rfl; have hfz25_0 := blk_frozen BK123.out 0; have hfz25_1 := blk_frozen BK123.out 1; have hfz25_2 := blk_frozen BK123.out 2; have hfz25_3 := blk_frozen BK123.out 3))
  go_ret
  exact ⟨by first | rfl | (simp [errW_none, errW_some] <;> rfl) | (simp [*, errW_none, errW_some] <;> rfl), by repeat (first | (with_reducible first | exact HB.out | apply below_alloc | apply pw_below_drewN | apply below_drew1 | refine below_set ?_ GE122.out | refine below_set ?_ GE123.out) | exact HB.out)⟩

end Go.Proofs.Ytclbjddcenkidaa.PS
namespace Go.Proofs.Ytclbjddcenkidaa.PS
open Go.RowKit Go.Proofs.YtclbjddcenkidaaW.PrintWords Go.Proofs.YtclbjddcenkidaaW.PrintLast Go.Proofs.YtclbjddcenkidaaW.PrintMore
attribute [local go_sem] max2_int min2_int max_two min_two max_three min_three max_four min_four   -- for this text's walks alone

def slices_Clone_byte_byte.f (l0 : List Int) : Option (List Int) := if l0.length ≤ 140737488355328 then some l0 else none
set_option maxHeartbeats 1000000 in
theorem slices_Clone_byte_byte.calls (A0 : Option Addr) (c0 : Nat) (l0 : List Int) (r : List Int) (w : World) (hr0 : Kd.C (Kd.int .u8) w A0 l0.length l0) (hc0 : l0.length ≤ c0) (h : slices_Clone_byte_byte.f l0 = some r) :
  Calls Try.prog 67 #[.slice A0 l0.length c0] w fun e w' => ∃ v0_ : Value, e = .returned v0_ ∧ Kd.R (Kd.int .u8) 5 w' w.heap.size (fun _ => True) v0_ r ∧ Below w.heap.size w w' := by
 unfold slices_Clone_byte_byte.f at h
 split at h
 ·rename_i hl
  obtain rfl := Option.some.inj h
  have HR0 := Aside0.mk hr0
  have HL0 := Aside0.mk hl
  clear hr0 hl h
  have hnil := fun (w : World) (a : Option Addr) (n c : Nat) => Lib.run_eql_slice_nil (P := Try.prog) w 22 5 a n c 0 0 Try.underlying22
  cases A0 with
  | none =>
   have h0 : l0 = [] := by
    cases l0 with
    | nil => rfl
    | cons x xs =>
     obtain ⟨ad, e, _⟩ := HR0.out.2.2 (by simp)
     cases e
   subst h0
   go_enter Try.func67, Try.ntmps67
   go_wp2
   go_ret
   exact ⟨_, rfl, Kd.R_nil _ _ _ _ _, Below.refl _ _⟩
  | some ad =>
   go_enter Try.func67, Try.ntmps67
   have hb0 : Below w.heap.size w (w.alloc (.cells #[] 5)) := (Below.refl _ _).alloc (Nat.le_refl _) _
   have HO : Kd.R (Kd.int .u8) 5 (w.alloc (.cells #[] 5)) w.heap.size (fun _ => True) (.slice (some ⟨w.heap.size, 0, none⟩) 0 0) [] :=
    Kd.R_of_own (enc := Value.int .u8) ⟨rfl, .inr ⟨w.heap.size, 0, #[], rfl, Nat.le_refl _, heap_alloc_new w _, Nat.le_refl _, by unfold maxLen; omega, rfl, rfl⟩⟩ (fun _ _ => trivial)
   have HB0 := Aside0.mk hb0
   have HO0 := Aside0.mk HO
   clear hb0 HO
   go_wp2_with ((with_reducible refine gate_builtin (b := .append) (xs := #[.tmp 5, .tmp 6]) rfl ?_); at_builtin; refine Kd.R_append_rows (Kd.int .u8) (w0 := w) w.heap.size rfl (.tmp 5) (.tmp 6) 22 5 (.int .u8 0) 1 rfl Try.underlying22 info5 rfl (by decide) (by omega) _ [] l0 _ _ _ (fun _ => True) (fun _ => False) rfl rfl HO0.out ?aR (fun _ _ h => h) (fun _ h => h.elim) ?aF HB0.out ?aS ?aL ?_; (case aR => exact Kd.C_below HR0.out HB0.out); (case aF => exact (fun _ _ => trivial)); (case aS => simp); (case aL => have := HL0.out; simp; omega); intro v1 w1 ho hb hg hat; have n1 := Aside0.mk ho; have n2 := Aside0.mk hb; clear ho hb hg hat)
   go_ret
   exact ⟨_, rfl, n1.out, n2.out⟩
 ·cases h

end Go.Proofs.Ytclbjddcenkidaa.PS
