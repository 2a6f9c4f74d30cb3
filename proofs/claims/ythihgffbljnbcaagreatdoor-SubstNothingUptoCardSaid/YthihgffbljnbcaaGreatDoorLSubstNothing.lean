/- The statement SubstNothingUptoCardSaid holds: lyceumlaw03.SubstNothing returns true and leaves its arguments as they were; its condition is that what it reads is of bulk at most 1048576. -/
import Derived.Test.YthihgffbljnbcaaGreatDoorL4
set_option linter.all false
section
namespace Go.Ly.Tr
set_option maxRecDepth 20000
theorem SubstNothing_ok (f : Frm) (x : Nm) (t : Tm) (hf : f.wt ≤ 1900000) (hx : x.length ≤ 1900000) (ht : t.wt ≤ 1900000) : Pure E 4 [.d .old f.d, .d .old (.str x), .d .old t.d] (.d .top (.bool true)) := by
  have hsm := Small_ok [f] (by simp only [Frm.wts]; omega)
  have hfw := few_ok [(x, t)] (by simpa using ⟨ht, hx⟩)
  have hs1 : smallB [f] = true → f.size ≤ 500 := small_one
  have hs2 : fewB [(x, t)] = true → t.size ≤ 99 := fun h => few_size h (List.mem_singleton.2 rfl)
  have hri := fun h => right_ok f (by have := hs1 h; omega)
  have hva := variable_ok x
  have hte := fun h => Term_ok t (by have := hs2 h; omega)
  have hput1 : f.size ≤ 500 → f.right = true → varB x = true → Pure E 20 [.d .old f.d, .d .old (.str x), .d .old (Vr x).d] (.tup [.d .new f.d, .d .top (.int .i64 0)]) := fun h1 h2 h3 => by
    have h := Put_ok f x (Vr x) (by omega) (by simp [Tm.size, Tm.size.sizes])
    rw [puts_id h2 (args_one h3 (by simp [Tm.ok, h3])) (by simp)] at h
    exact h
  have hput2 : f.size ≤ 500 → f.right = true → Pure E 22 [.d .old f.d, .d .old (.row 4 [])] (.tup [.d .new f.d, .d .top (.int .i64 0)]) := fun h1 h2 => by
    have h := puts_ok f [] (by omega) (by simp) (by simp)
    rw [puts_id h2 rfl (by simp)] at h
    exact h
  have hsame : f.size ≤ 500 → Pure E 23 [.d .old f.d, .d .old f.d] (.d .top (.bool true)) := fun h1 => by
    have h := same_ok f (by omega) f
    rw [same_refl] at h
    exact h
  have hfree : f.size ≤ 500 → Pure E 25 [.d .old f.d] (.fresh 1 (Nms (setN f.frees)) .new) := fun h1 => Free_ok f (by omega)
  have hhas : f.size ≤ 500 → Pure E 24 [.d .old (.row 1 (Nms (setN f.frees))), .d .old (.str x)] (.d .top (.bool (hasB f.frees x))) := fun h1 => by
    have h2 := frees_len f
    have h3 := set_len f.frees
    have h := has_ok (setN f.frees) x (by omega)
    rwa [set_has] at h
  have hput3 : f.size ≤ 500 → t.size ≤ 99 → f.right = true → varB x = true → t.ok = true → hasB f.frees x = false → Pure E 20 [.d .old f.d, .d .old (.str x), .d .old t.d] (.tup [.d .new f.d, .d .top (.int .i64 0)]) := fun h1 h2 h3 h4 h5 h6 => by
    have h := Put_ok f x t (by omega) (by omega)
    rw [puts_id h3 (args_one h4 h5) (by simp only [List.mem_singleton, forall_eq]; intro h; exact absurd h (hasB_not.1 h6))] at h
    exact h
  generalize smallB [f] = b1 at *
  generalize fewB [(x, t)] = b2 at *
  generalize f.right = b3 at *
  generalize varB x = b4 at *
  generalize t.ok = b5 at *
  generalize hasB f.frees x = b6 at *
  generalize setN f.frees = fr at *
  obtain ⟨o, n, us, fs⟩ := f
  obtain ⟨v, nm, ts⟩ := t
  simp only [Frm.d, Tm.d, Tm.ds] at *
  refine pure_by has4 ?_
  generalize hp : std = p
  have et : p.not true = false := not_t hp
  have ef : p.not false = true := not_f hp
  have e0 : p.eq 0 0 = true := by subst hp; rfl
  (generalize cq0 : Frm.ds = cy0, cq1 : Tm.ds = cy1, cq2 : opI = cy2; cbv <;> subst cq0 cq1 cq2)
  refine callA.pure awake_ok rfl ?_
  (generalize cq0 : Frm.ds = cy0, cq1 : Tm.ds = cy1, cq2 : opI = cy2; cbv <;> subst cq0 cq1 cq2)
  simp only [et]
  (generalize cq0 : Frm.ds = cy0, cq1 : Tm.ds = cy1, cq2 : opI = cy2; cbv <;> subst cq0 cq1 cq2)
  refine callA.pure hsm rfl ?_
  (generalize cq0 : Frm.ds = cy0, cq1 : Tm.ds = cy1, cq2 : opI = cy2; cbv <;> subst cq0 cq1 cq2)
  cases b1 with
  | false => simp only [ef]; (generalize cq0 : Frm.ds = cy0, cq1 : Tm.ds = cy1, cq2 : opI = cy2; cbv <;> subst cq0 cq1 cq2)
  | true =>
  replace hs1 := hs1 rfl
  replace hri := hri rfl
  simp only [et]
  (generalize cq0 : Frm.ds = cy0, cq1 : Tm.ds = cy1, cq2 : opI = cy2; cbv <;> subst cq0 cq1 cq2)
  refine callA.pure hfw rfl ?_
  (generalize cq0 : Frm.ds = cy0, cq1 : Tm.ds = cy1, cq2 : opI = cy2; cbv <;> subst cq0 cq1 cq2)
  cases b2 with
  | false => simp only [ef]; (generalize cq0 : Frm.ds = cy0, cq1 : Tm.ds = cy1, cq2 : opI = cy2; cbv <;> subst cq0 cq1 cq2)
  | true =>
  replace hs2 := hs2 rfl
  replace hte := hte rfl
  simp only [et]
  (generalize cq0 : Frm.ds = cy0, cq1 : Tm.ds = cy1, cq2 : opI = cy2; cbv <;> subst cq0 cq1 cq2)
  refine callA.pure hri rfl ?_
  (generalize cq0 : Frm.ds = cy0, cq1 : Tm.ds = cy1, cq2 : opI = cy2; cbv <;> subst cq0 cq1 cq2)
  cases b3 with
  | false => simp only [ef]; (generalize cq0 : Frm.ds = cy0, cq1 : Tm.ds = cy1, cq2 : opI = cy2; cbv <;> subst cq0 cq1 cq2)
  | true =>
  simp only [et]
  (generalize cq0 : Frm.ds = cy0, cq1 : Tm.ds = cy1, cq2 : opI = cy2; cbv <;> subst cq0 cq1 cq2)
  refine callA.pure hva rfl ?_
  (generalize cq0 : Frm.ds = cy0, cq1 : Tm.ds = cy1, cq2 : opI = cy2; cbv <;> subst cq0 cq1 cq2)
  cases b4 with
  | false => simp only [ef]; (generalize cq0 : Frm.ds = cy0, cq1 : Tm.ds = cy1, cq2 : opI = cy2; cbv <;> subst cq0 cq1 cq2)
  | true =>
  simp only [et]
  (generalize cq0 : Frm.ds = cy0, cq1 : Tm.ds = cy1, cq2 : opI = cy2; cbv <;> subst cq0 cq1 cq2)
  refine callA.pure hte rfl ?_
  (generalize cq0 : Frm.ds = cy0, cq1 : Tm.ds = cy1, cq2 : opI = cy2; cbv <;> subst cq0 cq1 cq2)
  cases b5 with
  | false => simp only [ef]; (generalize cq0 : Frm.ds = cy0, cq1 : Tm.ds = cy1, cq2 : opI = cy2; cbv <;> subst cq0 cq1 cq2)
  | true =>
  replace hput1 := hput1 hs1 rfl rfl
  replace hput2 := hput2 hs1 rfl
  replace hsame := hsame hs1
  replace hfree := hfree hs1
  replace hhas := hhas hs1
  replace hput3 := hput3 hs1 hs2 rfl rfl rfl
  simp only [et]
  (generalize cq0 : Frm.ds = cy0, cq1 : Tm.ds = cy1, cq2 : opI = cy2; cbv <;> subst cq0 cq1 cq2)
  refine drawA.mk _ ⟨_, _, _, rfl, v_okx x, rfl, rfl⟩ ?_
  (generalize cq0 : Frm.ds = cy0, cq1 : Tm.ds = cy1, cq2 : opI = cy2; cbv <;> subst cq0 cq1 cq2)
  refine drawA.mk _ ⟨_, _, _, rfl, hput1, rfl, rfl⟩ ?_
  (generalize cq0 : Frm.ds = cy0, cq1 : Tm.ds = cy1, cq2 : opI = cy2; cbv <;> subst cq0 cq1 cq2)
  refine callA.pure hput2 rfl ?_
  (generalize cq0 : Frm.ds = cy0, cq1 : Tm.ds = cy1, cq2 : opI = cy2; cbv <;> subst cq0 cq1 cq2)
  simp only [e0, et]
  (generalize cq0 : Frm.ds = cy0, cq1 : Tm.ds = cy1, cq2 : opI = cy2; cbv <;> subst cq0 cq1 cq2)
  simp only [e0, et]
  (generalize cq0 : Frm.ds = cy0, cq1 : Tm.ds = cy1, cq2 : opI = cy2; cbv <;> subst cq0 cq1 cq2)
  refine callA.pure hsame rfl ?_
  (generalize cq0 : Frm.ds = cy0, cq1 : Tm.ds = cy1, cq2 : opI = cy2; cbv <;> subst cq0 cq1 cq2)
  simp only [et]
  (generalize cq0 : Frm.ds = cy0, cq1 : Tm.ds = cy1, cq2 : opI = cy2; cbv <;> subst cq0 cq1 cq2)
  refine callA.pure hsame rfl ?_
  (generalize cq0 : Frm.ds = cy0, cq1 : Tm.ds = cy1, cq2 : opI = cy2; cbv <;> subst cq0 cq1 cq2)
  simp only [et]
  (generalize cq0 : Frm.ds = cy0, cq1 : Tm.ds = cy1, cq2 : opI = cy2; cbv <;> subst cq0 cq1 cq2)
  refine callA.pure hfree rfl ?_
  (generalize cq0 : Frm.ds = cy0, cq1 : Nms = cy1, cq2 : Tm.ds = cy2, cq3 : opI = cy3; cbv <;> subst cq0 cq1 cq2 cq3)
  refine callA.pure hhas rfl ?_
  (generalize cq0 : Frm.ds = cy0, cq1 : Nms = cy1, cq2 : Tm.ds = cy2, cq3 : opI = cy3; cbv <;> subst cq0 cq1 cq2 cq3)
  cases b6 with
  | true => (generalize cq0 : Frm.ds = cy0, cq1 : Nms = cy1, cq2 : Tm.ds = cy2, cq3 : opI = cy3; cbv <;> subst cq0 cq1 cq2 cq3)
  | false =>
  (generalize cq0 : Frm.ds = cy0, cq1 : Nms = cy1, cq2 : Tm.ds = cy2, cq3 : opI = cy3; cbv <;> subst cq0 cq1 cq2 cq3)
  refine callA.pure (hput3 rfl) rfl ?_
  (generalize cq0 : Frm.ds = cy0, cq1 : Nms = cy1, cq2 : Tm.ds = cy2, cq3 : opI = cy3; cbv <;> subst cq0 cq1 cq2 cq3)
  simp only [e0]
  (generalize cq0 : Frm.ds = cy0, cq1 : Nms = cy1, cq2 : Tm.ds = cy2, cq3 : opI = cy3; cbv <;> subst cq0 cq1 cq2 cq3)
  refine callA.pure hsame rfl ?_
  (generalize cq0 : Frm.ds = cy0, cq1 : Nms = cy1, cq2 : Tm.ds = cy2, cq3 : opI = cy3; cbv <;> subst cq0 cq1 cq2 cq3)
end Go.Ly.Tr
end
section
namespace Go.Proofs.YthihgffbljnbcaaGreatDoor.substNothing
open Go Go.Ly Go.Ly.Tr Go.ChangeShapes Go.WideShapes Go.ChangeAt Go.RowKit
set_option maxRecDepth 100000
theorem law (xs : List D) (h : ArgsFit E.P [25, 9, 30] xs) (hb : bulkDs xs ≤ 1048576) : Ly.Pure E 4 (xs.map oldD1) (.d .top (.bool true)) := by
  obtain ⟨f1, r, rfl, w1, k1⟩ := args_frm h
  obtain ⟨s2, r, rfl, w2, k2⟩ := args_str k1
  obtain ⟨t3, r, rfl, w3, k3⟩ := args_tm k2
  obtain rfl := args_nil k3
  simp only [bulkDs] at hb
  exact SubstNothing_ok f1 s2 t3 (by omega) (by omega) (by omega)
theorem contract (H : Type) (enc : TypeId × Value → H) (W : World) (base : Nat) (args : Array Value) (ds gs : List (DataW H)) (before : List MemPlace)
    (hval : ∀ (j : Nat) t v, Tryz.f4.params[j]? = some t → args[j]? = some v → Value.okWide Tryz.prog W .any base t v)
    (hW : DataW.Whole enc Tryz.prog Tryz.f4.params.toList Rows.substNothingSpec.vars false W args.toList ds gs before) (hk : Rows.uptoSmall H (ds ++ gs) = true) (hL : laidMetH Tryz.prog Rows.substNothingUptoRow.laid W) :
    Calls Tryz.prog 4 args W fun e W' => ∃ v, e = .returned v ∧ Rows.substNothingSpec.post enc Tryz.prog Tryz.f4 false true false false W args v W' := by
  have hg := glob (W := W) hL
  refine law_callsb (E := E) (k := 4) (Ts := Ts) (tb := 4) okTs_all (by rw [Tryz.params4]; decide) rfl (by kernel_rfl) u4 ?_ ?_ hval hW (bulk_of hk) hg.1 hg.2
  · intro ds h
    rw [Tryz.params4] at h
    match ds, h with
    | [a, b, c], _ => rfl
  · rw [Tryz.params4]
    exact law
theorem reads (os : Os) {H : Type} (enc : TypeId × Value → H) : ∃ places, DataW.whole enc Tryz.prog ((laidWorld os).forCall (fun _ _ => 0) ⟨#[], #[.agg #[.int .u8 0, .string ⟨#[]⟩, .slice none 0 0, .slice none 0 0], .string ⟨#[]⟩, .agg #[.bool false, .string ⟨#[]⟩, .slice none 0 0]], []⟩).memory Tryz.f4.params.toList Rows.substNothingSpec.vars false (#[.agg #[.int .u8 0, .string ⟨#[]⟩, .slice none 0 0, .slice none 0 0], .string ⟨#[]⟩, .agg #[.bool false, .string ⟨#[]⟩, .slice none 0 0]] : Array Value).toList 8 = some ([.agg [.lit (.int .u8 0), .lit (.string []), .nil, .nil], .lit (.string []), .agg [.lit (.bool false), .lit (.string []), .nil]], [], places) :=
  ⟨[], by kernel_rfl⟩
theorem lifted (os : Os) (started : os.Started) (H : Type) (enc : TypeId × Value → H) (F : Stop.Interp) :
    ReturnsInHanded {} Tryz.checked os 4 .any ((Rows.OpenSpec.upto Rows.substNothingSpec).preRow enc Tryz.prog Tryz.f4 Rows.substNothingUptoRow.domain false Rows.substNothingUptoRow.laid) (((Rows.OpenSpec.upto Rows.substNothingSpec).at F).post enc Tryz.prog Tryz.f4 false true false false) := by
  obtain ⟨places, hx⟩ := reads os enc
  refine returnsInHanded_of_row (C := Tryz.checked) (s := Rows.OpenSpec.upto Rows.substNothingSpec) own started (by kernel_rfl) Tryz.func4
    (witness_row_at (enc := enc) (C := Tryz.checked) false (laidWorld os) #[.agg #[.int .u8 0, .string ⟨#[]⟩, .slice none 0 0, .slice none 0 0], .string ⟨#[]⟩, .agg #[.bool false, .string ⟨#[]⟩, .slice none 0 0]] rfl (by kernel_rfl) (by kernel_rfl) (by kernel_rfl)
      (OpenSpec.preRow_of_cond 8 hx (by kernel_rfl) (fun k hk => by cases hk; kernel_rfl) (by kernel_rfl) (laid_met os _))) ?_
  intro W base args ds gs before hval hW _ hk _ hL _ _
  exact contract H enc W base args ds gs before hval hW (hk _ rfl) hL
theorem said : Rows.SubstNothingUptoSaid :=
  OpenClaim.holds_of_cond 4 Tryz.f4 rfl rfl rfl rfl rfl rfl rfl ⟨rfl, rfl, rfl, rfl, rfl⟩ rfl rfl rfl rfl rfl (by kernel_rfl) Tryz.func4 (by kernel_rfl)
    (of_decide_eq_true (by kernel_rfl)) (by unfold Func.isWrapper; first | (rw [if_pos (by decide +kernel)]; kernel_rfl) | (rw [if_neg (by decide +kernel)]; exact ⟨rfl, rfl⟩))
    (fun os started H enc _ F => by rw [OpenClaim.pre_eq_preRow]; exact lifted os started H enc F)
theorem stands (t : TypeId) (ht : t ∈ [25, 9, 30]) : Tryz.prog.wantsStandIn t = false := by
  have h := List.all_eq_true.1 (show ([25, 9, 30].all fun t => !Tryz.prog.wantsStandIn t) = true by kernel_rfl) t ht
  simpa using h
theorem plain (f : FuncId) (fn : Func) (hf : Tryz.pinned.checked.prog.funcNamed "lyceum/lyceumlaw03.SubstNothing" = some f) (hfn : Tryz.pinned.checked.prog.funcs[f]? = some fn) :
    false = Tryz.pinned.checked.prog.looks [] ∧ ∀ (j : Nat) t, fn.params[j]? = some t → Tryz.pinned.checked.prog.wantsStandIn t = false := by
  obtain rfl : f = 4 := Option.some.inj ((show Tryz.prog.funcNamed "lyceum/lyceumlaw03.SubstNothing" = some 4 by kernel_rfl).symm.trans hf) |>.symm
  obtain rfl : fn = Tryz.f4 := (Option.some.inj (Tryz.func4.symm.trans hfn)).symm
  refine ⟨by kernel_rfl, fun j t ht => ?_⟩
  rw [Tryz.params4] at ht
  have hm : t ∈ [25, 9, 30] := by simpa using Array.mem_of_getElem? ht
  exact stands t hm
theorem card : Rows.SubstNothingUptoCardSaid :=
  Claim7.holds_tied_plain_at .later [] _ _ _ _ said (fun _ h => by cases h) (by kernel_rfl) (fun _ h => by cases h) substNothingUpto_row_tie rfl ⟨rfl, rfl⟩ (by kernel_rfl) rfl plain (by kernel_rfl)
end Go.Proofs.YthihgffbljnbcaaGreatDoor.substNothing
end
