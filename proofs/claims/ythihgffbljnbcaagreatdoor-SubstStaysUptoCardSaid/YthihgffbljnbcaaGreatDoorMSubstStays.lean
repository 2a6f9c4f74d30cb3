/- The statement SubstStaysUptoCardSaid holds: lyceumlaw03.SubstStays returns true and leaves its arguments as they were; its condition is that what it reads is of bulk at most 1048576. -/
import Derived.Test.YthihgffbljnbcaaGreatDoorM4
set_option linter.all false
section
namespace Go.Ly.Tr
set_option maxRecDepth 20000
theorem sz_few {l : List Sb} (h : fewB l = true) : Sb.sz l ≤ 100 * l.length ∧ l.length ≤ 6 := by
  have h1 : l.length ≤ 6 := by
    simp only [fewB, Bool.and_eq_true, decide_eq_true_eq] at h
    exact h.1
  have h2 : ∀ o ∈ l, o.2.size ≤ 99 := fun o ho => few_size h ho
  refine ⟨?_, h1⟩
  clear h h1
  induction l with
  | nil => exact Nat.le_refl _
  | cons o l ih =>
    have h3 := h2 o (by simp)
    have h4 := ih fun o ho => h2 o (by simp [ho])
    simp only [Sb.sz, List.length_cons]
    omega
theorem puts_small (f : Frm) (l : List Sb) : (putsS f l).1.size ≤ 400 := by
  rcases puts_code f l with h | ⟨_, h⟩
  · obtain ⟨_, _, _, h4, _, he⟩ := puts_zero h
    rw [he]
    exact h4
  · rw [h]
    decide
theorem SubstStays_ok (f : Frm) (l : List Sb) (hf : f.wt ≤ 1900000) (hl : ∀ o ∈ l, o.2.wt ≤ 1900000 ∧ o.1.length ≤ 1900000) : Pure E 5 [.d .old f.d, .d .old (.row 4 (mapO Sb.d l))] (.d .top (.bool true)) := by
  have hsm := Small_ok [f] (by simp only [Frm.wts]; omega)
  have hfw := few_ok l hl
  have hs1 : smallB [f] = true → f.size ≤ 500 := small_one
  have hri := fun h => right_ok f (by have := hs1 h; omega)
  have hnr := fun h => Normal_ok f (by have := hs1 h; omega)
  have hz := same_ok zeroF (by decide) zeroF
  rw [show zeroF.same zeroF = true by kernel_rfl] at hz
  have hz : Pure E 23 [.d .old (.agg [.int .u8 0, .str [], .row 3 [], .row 4 []]), .d .old (.agg [.int .u8 0, .str [], .row 3 [], .row 4 []])] (.d .top (.bool true)) := hz
  have hbad : f.right = false → normS f = (zeroF, 2) := fun h => by unfold normS; rw [h]; rfl
  have hgood : f.right = true → normS f = (nrm f, 0) := normS_right
  have hnsz : f.right = true → (nrm f).size ≤ 400 := fun h => (right_iff.1 (nrm_right h)).1
  have hp1 : f.size ≤ 500 → fewB l = true → Pure E 22 [.d .old f.d, .d .old (.row 4 (mapO Sb.d l))] (.tup [.d .new (putsS f l).1.d, .d .top (.int .i64 (natI (putsS f l).2))]) :=
    fun h1 h2 => puts_ok f l (by omega) (fun o ho => by have := few_size h2 ho; omega) (by have := sz_few h2; omega)
  have hp2 : f.right = true → fewB l = true → Pure E 22 [.d .old (nrm f).d, .d .old (.row 4 (mapO Sb.d l))] (.tup [.d .new (putsS (nrm f) l).1.d, .d .top (.int .i64 (natI (putsS f l).2))]) := fun h1 h2 => by
    have hs := sz_few h2
    have := puts_ok (nrm f) l (by have := hnsz h1; omega) (fun o ho => by have := few_size h2 ho; omega) (by omega)
    rwa [← (puts_alpha h1 (nrm_right h1) (nrm_db (right_iff.1 h1).2.2).symm (by omega)).1] at this
  have ha1 : f.size ≤ 500 → f.right = true → Pure E 27 [.d .old f.d, .d .old (nrm f).d] (.d .top (.bool true)) := fun h1 h2 => by
    have := Alpha_ok f (nrm f) (by omega) (by have := hnsz h2; omega)
    rwa [nrm_alpha h2] at this
  have ha2 : f.right = true → fewB l = true → (putsS f l).2 = 0 → Pure E 27 [.d .old (putsS f l).1.d, .d .old (putsS (nrm f) l).1.d] (.d .top (.bool true)) := fun h1 h2 h3 => by
    have hs := sz_few h2
    have := Alpha_ok (putsS f l).1 (putsS (nrm f) l).1 (by have := puts_small f l; omega) (by have := puts_small (nrm f) l; omega)
    rwa [(puts_alpha h1 (nrm_right h1) (nrm_db (right_iff.1 h1).2.2).symm (by omega)).2 h3] at this
  have hc := puts_code f l
  generalize smallB [f] = b1 at *
  generalize fewB l = b2 at *
  generalize normS f = N at *
  generalize f.right = b3 at *
  generalize nrm f = nf at *
  generalize putsS f l = R1 at *
  generalize putsS nf l = R2 at *
  obtain ⟨o, n, us, fs⟩ := f
  obtain ⟨A, c⟩ := R1
  obtain ⟨B, c2⟩ := R2
  obtain ⟨a1, a2, a3, a4⟩ := A
  obtain ⟨b1', b2', b3', b4'⟩ := B
  obtain ⟨n1, n2, n3, n4⟩ := nf
  simp only [Frm.d] at *
  refine pure_by has5 ?_
  generalize hp : std = p
  have et : p.not true = false := not_t hp
  have ef : p.not false = true := not_f hp
  have e0 : p.eq 0 0 = true := by subst hp; rfl
  have e20 : p.eq 2 0 = false := by subst hp; rfl
  have e22 : p.eq 2 2 = true := by subst hp; rfl
  have ecc : p.eq (natI c) (natI c) = true := by subst hp; simp [std]
  have ec0 : p.eq (natI c) 0 = decide (c = 0) := by subst hp; by_cases h : c = 0 <;> simp [std, natI, h]
  (generalize cq0 : Frm.ds = cy0, cq1 : Sb.d = cy1, cq2 : Tm.ds = cy2, cq3 : mapO = cy3, cq4 : opI = cy4; cbv <;> subst cq0 cq1 cq2 cq3 cq4)
  refine callA.pure awake_ok rfl ?_
  (generalize cq0 : Frm.ds = cy0, cq1 : Sb.d = cy1, cq2 : Tm.ds = cy2, cq3 : mapO = cy3, cq4 : opI = cy4; cbv <;> subst cq0 cq1 cq2 cq3 cq4)
  simp only [et]
  (generalize cq0 : Frm.ds = cy0, cq1 : Sb.d = cy1, cq2 : Tm.ds = cy2, cq3 : mapO = cy3, cq4 : opI = cy4; cbv <;> subst cq0 cq1 cq2 cq3 cq4)
  refine callA.pure hsm rfl ?_
  (generalize cq0 : Frm.ds = cy0, cq1 : Sb.d = cy1, cq2 : Tm.ds = cy2, cq3 : mapO = cy3, cq4 : opI = cy4; cbv <;> subst cq0 cq1 cq2 cq3 cq4)
  cases b1 with
  | false => simp only [ef]; (generalize cq0 : Frm.ds = cy0, cq1 : Sb.d = cy1, cq2 : Tm.ds = cy2, cq3 : mapO = cy3, cq4 : opI = cy4; cbv <;> subst cq0 cq1 cq2 cq3 cq4)
  | true =>
  replace hs1 := hs1 rfl
  replace hri := hri rfl
  replace hnr := hnr rfl
  simp only [et]
  (generalize cq0 : Frm.ds = cy0, cq1 : Sb.d = cy1, cq2 : Tm.ds = cy2, cq3 : mapO = cy3, cq4 : opI = cy4; cbv <;> subst cq0 cq1 cq2 cq3 cq4)
  refine callA.pure hfw rfl ?_
  (generalize cq0 : Frm.ds = cy0, cq1 : Sb.d = cy1, cq2 : Tm.ds = cy2, cq3 : mapO = cy3, cq4 : opI = cy4; cbv <;> subst cq0 cq1 cq2 cq3 cq4)
  cases b2 with
  | false => simp only [ef]; (generalize cq0 : Frm.ds = cy0, cq1 : Sb.d = cy1, cq2 : Tm.ds = cy2, cq3 : mapO = cy3, cq4 : opI = cy4; cbv <;> subst cq0 cq1 cq2 cq3 cq4)
  | true =>
  simp only [et]
  (generalize cq0 : Frm.ds = cy0, cq1 : Sb.d = cy1, cq2 : Tm.ds = cy2, cq3 : mapO = cy3, cq4 : opI = cy4; cbv <;> subst cq0 cq1 cq2 cq3 cq4)
  cases b3 with
  | false =>
    rw [hbad rfl] at hnr
    have hnr : Pure E 26 [.d .old (.agg [.int .u8 (opI o), .str n, .row 3 (Tm.ds us), .row 4 (Frm.ds fs)])] (.tup [.d .new (.agg [.int .u8 0, .str [], .row 3 [], .row 4 []]), .d .top (.int .i64 2)]) := hnr
    refine callA.pure hnr rfl ?_
    (generalize cq0 : Frm.ds = cy0, cq1 : Sb.d = cy1, cq2 : Tm.ds = cy2, cq3 : mapO = cy3, cq4 : opI = cy4; cbv <;> subst cq0 cq1 cq2 cq3 cq4)
    simp only [e20, ef]
    (generalize cq0 : Frm.ds = cy0, cq1 : Sb.d = cy1, cq2 : Tm.ds = cy2, cq3 : mapO = cy3, cq4 : opI = cy4; cbv <;> subst cq0 cq1 cq2 cq3 cq4)
    simp only [e22]
    (generalize cq0 : Frm.ds = cy0, cq1 : Sb.d = cy1, cq2 : Tm.ds = cy2, cq3 : mapO = cy3, cq4 : opI = cy4; cbv <;> subst cq0 cq1 cq2 cq3 cq4)
    refine callA.pure hz rfl ?_
    (generalize cq0 : Frm.ds = cy0, cq1 : Sb.d = cy1, cq2 : Tm.ds = cy2, cq3 : mapO = cy3, cq4 : opI = cy4; cbv <;> subst cq0 cq1 cq2 cq3 cq4)
    refine callA.pure hri rfl ?_
    (generalize cq0 : Frm.ds = cy0, cq1 : Sb.d = cy1, cq2 : Tm.ds = cy2, cq3 : mapO = cy3, cq4 : opI = cy4; cbv <;> subst cq0 cq1 cq2 cq3 cq4)
    simp only [ef]
  | true =>
    rw [hgood rfl] at hnr
    have hnr : Pure E 26 [.d .old (.agg [.int .u8 (opI o), .str n, .row 3 (Tm.ds us), .row 4 (Frm.ds fs)])] (.tup [.d .new (.agg [.int .u8 (opI n1), .str n2, .row 3 (Tm.ds n3), .row 4 (Frm.ds n4)]), .d .top (.int .i64 0)]) := hnr
    refine callA.pure hnr rfl ?_
    (generalize cq0 : Frm.ds = cy0, cq1 : Sb.d = cy1, cq2 : Tm.ds = cy2, cq3 : mapO = cy3, cq4 : opI = cy4; cbv <;> subst cq0 cq1 cq2 cq3 cq4)
    simp only [e0, et]
    (generalize cq0 : Frm.ds = cy0, cq1 : Sb.d = cy1, cq2 : Tm.ds = cy2, cq3 : mapO = cy3, cq4 : opI = cy4; cbv <;> subst cq0 cq1 cq2 cq3 cq4)
    refine callA.pure (hp1 hs1 rfl) rfl ?_
    (generalize cq0 : Frm.ds = cy0, cq1 : Sb.d = cy1, cq2 : Tm.ds = cy2, cq3 : mapO = cy3, cq4 : natI = cy4, cq5 : opI = cy5; cbv <;> subst cq0 cq1 cq2 cq3 cq4 cq5)
    refine callA.pure (hp2 rfl rfl) rfl ?_
    (generalize cq0 : Frm.ds = cy0, cq1 : Sb.d = cy1, cq2 : Tm.ds = cy2, cq3 : mapO = cy3, cq4 : natI = cy4, cq5 : opI = cy5; cbv <;> subst cq0 cq1 cq2 cq3 cq4 cq5)
    refine callA.pure (ha1 hs1 rfl) rfl ?_
    (generalize cq0 : Frm.ds = cy0, cq1 : Sb.d = cy1, cq2 : Tm.ds = cy2, cq3 : mapO = cy3, cq4 : natI = cy4, cq5 : opI = cy5; cbv <;> subst cq0 cq1 cq2 cq3 cq4 cq5)
    simp only [ecc]
    (generalize cq0 : Frm.ds = cy0, cq1 : Sb.d = cy1, cq2 : Tm.ds = cy2, cq3 : mapO = cy3, cq4 : natI = cy4, cq5 : opI = cy5; cbv <;> subst cq0 cq1 cq2 cq3 cq4 cq5)
    simp only [ec0]
    by_cases h0 : c = 0
    · rw [show decide (c = 0) = true by simpa using h0]
      simp only [et]
      (generalize cq0 : Frm.ds = cy0, cq1 : Sb.d = cy1, cq2 : Tm.ds = cy2, cq3 : mapO = cy3, cq4 : natI = cy4, cq5 : opI = cy5; cbv <;> subst cq0 cq1 cq2 cq3 cq4 cq5)
      refine callA.pure (ha2 rfl rfl h0) rfl ?_
      (generalize cq0 : Frm.ds = cy0, cq1 : Sb.d = cy1, cq2 : Tm.ds = cy2, cq3 : mapO = cy3, cq4 : natI = cy4, cq5 : opI = cy5; cbv <;> subst cq0 cq1 cq2 cq3 cq4 cq5)
    · rw [show decide (c = 0) = false by simpa using h0]
      simp only [ef]
      (generalize cq0 : Frm.ds = cy0, cq1 : Sb.d = cy1, cq2 : Tm.ds = cy2, cq3 : mapO = cy3, cq4 : natI = cy4, cq5 : opI = cy5; cbv <;> subst cq0 cq1 cq2 cq3 cq4 cq5)
end Go.Ly.Tr
end
section
namespace Go.Proofs.YthihgffbljnbcaaGreatDoor.substStays
open Go Go.Ly Go.Ly.Tr Go.ChangeShapes Go.WideShapes Go.ChangeAt Go.RowKit
set_option maxRecDepth 100000
theorem law (xs : List D) (h : ArgsFit E.P [25, 34] xs) (hb : bulkDs xs ≤ 1048576) : Ly.Pure E 5 (xs.map oldD1) (.d .top (.bool true)) := by
  obtain ⟨f1, r, rfl, w1, k1⟩ := args_frm h
  obtain ⟨l2, r, rfl, w2, k2⟩ := args_sbs k1
  obtain rfl := args_nil k2
  simp only [bulkDs] at hb
  exact SubstStays_ok f1 l2 (by omega) (fun x hx => by have := w2 x hx; omega)
theorem contract (H : Type) (enc : TypeId × Value → H) (W : World) (base : Nat) (args : Array Value) (ds gs : List (DataW H)) (before : List MemPlace)
    (hval : ∀ (j : Nat) t v, Tryz.f5.params[j]? = some t → args[j]? = some v → Value.okWide Tryz.prog W .any base t v)
    (hW : DataW.Whole enc Tryz.prog Tryz.f5.params.toList Rows.substStaysSpec.vars false W args.toList ds gs before) (hk : Rows.uptoSmall H (ds ++ gs) = true) (hL : laidMetH Tryz.prog Rows.substStaysUptoRow.laid W) :
    Calls Tryz.prog 5 args W fun e W' => ∃ v, e = .returned v ∧ Rows.substStaysSpec.post enc Tryz.prog Tryz.f5 false true false false W args v W' := by
  have hg := glob (W := W) hL
  refine law_callsb (E := E) (k := 5) (Ts := Ts) (tb := 4) okTs_all (by rw [Tryz.params5]; decide) rfl (by kernel_rfl) u4 ?_ ?_ hval hW (bulk_of hk) hg.1 hg.2
  · intro ds h
    rw [Tryz.params5] at h
    match ds, h with
    | [a, b], _ => rfl
  · rw [Tryz.params5]
    exact law
theorem reads (os : Os) {H : Type} (enc : TypeId × Value → H) : ∃ places, DataW.whole enc Tryz.prog ((laidWorld os).forCall (fun _ _ => 0) ⟨#[], #[.agg #[.int .u8 0, .string ⟨#[]⟩, .slice none 0 0, .slice none 0 0], .slice none 0 0], []⟩).memory Tryz.f5.params.toList Rows.substStaysSpec.vars false (#[.agg #[.int .u8 0, .string ⟨#[]⟩, .slice none 0 0, .slice none 0 0], .slice none 0 0] : Array Value).toList 8 = some ([.agg [.lit (.int .u8 0), .lit (.string []), .nil, .nil], .nil], [], places) :=
  ⟨[], by kernel_rfl⟩
theorem lifted (os : Os) (started : os.Started) (H : Type) (enc : TypeId × Value → H) (F : Stop.Interp) :
    ReturnsInHanded {} Tryz.checked os 5 .any ((Rows.OpenSpec.upto Rows.substStaysSpec).preRow enc Tryz.prog Tryz.f5 Rows.substStaysUptoRow.domain false Rows.substStaysUptoRow.laid) (((Rows.OpenSpec.upto Rows.substStaysSpec).at F).post enc Tryz.prog Tryz.f5 false true false false) := by
  obtain ⟨places, hx⟩ := reads os enc
  refine returnsInHanded_of_row (C := Tryz.checked) (s := Rows.OpenSpec.upto Rows.substStaysSpec) own started (by kernel_rfl) Tryz.func5
    (witness_row_at (enc := enc) (C := Tryz.checked) false (laidWorld os) #[.agg #[.int .u8 0, .string ⟨#[]⟩, .slice none 0 0, .slice none 0 0], .slice none 0 0] rfl (by kernel_rfl) (by kernel_rfl) (by kernel_rfl)
      (OpenSpec.preRow_of_cond 8 hx (by kernel_rfl) (fun k hk => by cases hk; kernel_rfl) (by kernel_rfl) (laid_met os _))) ?_
  intro W base args ds gs before hval hW _ hk _ hL _ _
  exact contract H enc W base args ds gs before hval hW (hk _ rfl) hL
theorem said : Rows.SubstStaysUptoSaid :=
  OpenClaim.holds_of_cond 5 Tryz.f5 rfl rfl rfl rfl rfl rfl rfl ⟨rfl, rfl, rfl, rfl, rfl⟩ rfl rfl rfl rfl rfl (by kernel_rfl) Tryz.func5 (by kernel_rfl)
    (of_decide_eq_true (by kernel_rfl)) (by unfold Func.isWrapper; first | (rw [if_pos (by decide +kernel)]; kernel_rfl) | (rw [if_neg (by decide +kernel)]; exact ⟨rfl, rfl⟩))
    (fun os started H enc _ F => by rw [OpenClaim.pre_eq_preRow]; exact lifted os started H enc F)
theorem stands (t : TypeId) (ht : t ∈ [25, 34]) : Tryz.prog.wantsStandIn t = false := by
  have h := List.all_eq_true.1 (show ([25, 34].all fun t => !Tryz.prog.wantsStandIn t) = true by kernel_rfl) t ht
  simpa using h
theorem plain (f : FuncId) (fn : Func) (hf : Tryz.pinned.checked.prog.funcNamed "lyceum/lyceumlaw03.SubstStays" = some f) (hfn : Tryz.pinned.checked.prog.funcs[f]? = some fn) :
    false = Tryz.pinned.checked.prog.looks [] ∧ ∀ (j : Nat) t, fn.params[j]? = some t → Tryz.pinned.checked.prog.wantsStandIn t = false := by
  obtain rfl : f = 5 := Option.some.inj ((show Tryz.prog.funcNamed "lyceum/lyceumlaw03.SubstStays" = some 5 by kernel_rfl).symm.trans hf) |>.symm
  obtain rfl : fn = Tryz.f5 := (Option.some.inj (Tryz.func5.symm.trans hfn)).symm
  refine ⟨by kernel_rfl, fun j t ht => ?_⟩
  rw [Tryz.params5] at ht
  have hm : t ∈ [25, 34] := by simpa using Array.mem_of_getElem? ht
  exact stands t hm
theorem card : Rows.SubstStaysUptoCardSaid :=
  Claim7.holds_tied_plain_at .later [] _ _ _ _ said (fun _ h => by cases h) (by kernel_rfl) (fun _ h => by cases h) substStaysUpto_row_tie rfl ⟨rfl, rfl⟩ (by kernel_rfl) rfl plain (by kernel_rfl)
end Go.Proofs.YthihgffbljnbcaaGreatDoor.substStays
end
