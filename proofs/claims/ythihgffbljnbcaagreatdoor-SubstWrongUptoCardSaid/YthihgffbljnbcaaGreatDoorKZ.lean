/- The statement SubstWrongUptoCardSaid holds: lyceumlaw03.SubstWrong returns true and leaves its arguments as they were; its condition is that what it reads is of bulk at most 1048576. -/
import Derived.Test.YthihgffbljnbcaaGreatDoorK4
import Derived.Test.YthihgffbljnbcaaGreatDoorCards
import Derived.Test.YthihgffbljnbcaaGreatDoorTie
import Derived.WalkKit
import Derived.ProofKit
import Derived.OpenShut
import Derived.JoinedCond
import Derived.Deep.DeepHandedRow
import Derived.Lib.LaidTab
import Derived.Stop.LaidErr
set_option linter.all false
section
namespace Go.Ly.Tr
set_option maxRecDepth 20000
theorem put_bad {f : Frm} {l : List Sb} (h : f.right = false ∨ argsOK [] l = false) : putsS f l = (zeroF, 2) := by
  unfold putsS
  rcases h with h | h
  · rw [h]; rfl
  · rw [h]
    cases f.right <;> rfl
theorem norm_bad {f : Frm} (h : f.right = false) : normS f = (zeroF, 2) := by
  unfold normS
  rw [h]
  rfl
theorem alpha_bad {f : Frm} (h : f.right = false) : alphaB f f = false := by
  unfold alphaB
  rw [h]
  rfl
theorem not_bad (f : Frm) : (Frm.mk 3 [120] [] [f]).right = false := by
  unfold Frm.right
  rw [Bool.and_eq_false_iff]
  have : (Frm.mk 3 [120] [] [f]).ok = false := by kernel_rfl
  exact .inr this
theorem wrong1 (t : Tm) : argsOK [] [([120], t), ([97], t)] = false := by
  have : varB [97] = false := by decide
  simp [argsOK, this]
theorem wrong2 (t : Tm) : argsOK [] [([120], t), ([120], t)] = false := by
  simp [argsOK]
theorem wrong3 (t : Tm) : argsOK [] [([120], .mk true [97] []), ([121], t)] = false := by
  have : (Tm.mk true [97] []).ok = false := by kernel_rfl
  simp [argsOK, this]
theorem wrong4 (t : Tm) : argsOK [] [([63, 116], t), ([121], t)] = false := by
  have : varB [63, 116] = false := by decide
  simp [argsOK, this]
theorem wrong5 (t : Tm) : argsOK [] [([120], t), ([121], .mk false [102] [t, t, t, t, t])] = false := by
  have : (Tm.mk false [102] [t, t, t, t, t]).ok = false := by simp [Tm.ok]
  simp [argsOK, this]
mutual
theorem Tm.size_wt : ∀ t : Tm, t.size ≤ t.wt
  | .mk v n us => by
    have := Tm.sizes_wts us
    rw [Tm.size, Tm.wt]
    omega
theorem Tm.sizes_wts : ∀ l : List Tm, Tm.size.sizes l ≤ Tm.wts l
  | [] => Nat.le_refl _
  | t :: l => by
    have h1 := Tm.size_wt t
    have h2 := Tm.sizes_wts l
    rw [Tm.size.sizes, Tm.wts]
    omega
end
mutual
theorem Frm.size_wt : ∀ t : Frm, t.size ≤ t.wt
  | .mk o n us fs => by
    have h1 := Tm.sizes_wts us
    have h2 := Frm.sizes_wts fs
    rw [Frm.size, Frm.wt]
    omega
theorem Frm.sizes_wts : ∀ l : List Frm, Frm.size.sizes l ≤ Frm.wts l
  | [] => Nat.le_refl _
  | t :: l => by
    have h1 := Frm.size_wt t
    have h2 := Frm.sizes_wts l
    rw [Frm.size.sizes, Frm.wts]
    omega
end
theorem small_wts {l : List Frm} (h : smallB l = true) : Frm.wts l ≤ 500 := by
  have h1 : Frm.szs l 500 0 ≤ 500 := by simpa [smallB] using h
  have h2 := szs_eq l 500 0 h1
  omega
theorem few_wt {l : List Sb} (h : fewB l = true) {o : Sb} (ho : o ∈ l) : o.2.wt ≤ 99 ∧ o.1.length ≤ 100 ∧ l.length ≤ 6 := by
  simp only [fewB, Bool.and_eq_true, decide_eq_true_eq, List.all_eq_true] at h
  have h1 := h.2 o ho
  simp only [few1, Bool.and_eq_true, decide_eq_true_eq] at h1
  have h2 := szf_eq _ 100 h1.2
  have h3 : (Frm.mk 0 [] [o.2] []).wt = 1 + o.2.wt := by simp only [Frm.wt, Tm.wts, Frm.wts, List.length_nil]; omega
  omega
theorem SubstWrong_ok (f : Frm) (t : Tm) (k : UInt8) (hf : f.wt ≤ 1900000) (ht : t.wt ≤ 1900000) : Pure E 8 [.d .old f.d, .d .old t.d, .d .old (.int .u8 (opI k))] (.d .top (.bool true)) := by
  have hsm := Small_ok [f] (by simp only [Frm.wts]; omega)
  have hfw := few_ok [([], t)] (by simpa using ht)
  have hs1 : smallB [f] = true → f.size ≤ 500 := fun h => by have := small_wts h; have := Frm.size_wt f; simp only [Frm.wts] at *; omega
  have hs2 : fewB [([], t)] = true → t.size ≤ 99 := fun h => by have := few_wt h (List.mem_singleton.2 rfl); have := Tm.size_wt t; simp only at *; omega
  have hri := fun h => right_ok f (by have := hs1 h; omega)
  have hte := fun h => Term_ok t (by have := hs2 h; omega)
  have hz := same_ok zeroF (by decide) zeroF
  rw [show zeroF.same zeroF = true by kernel_rfl] at hz
  have hz : Pure E 23 [.d .old (.agg [.int .u8 0, .str [], .row 3 [], .row 4 []]), .d .old (.agg [.int .u8 0, .str [], .row 3 [], .row 4 []])] (.d .top (.bool true)) := hz
  have hq0 : ∀ (g : Frm) (l : List Sb), g.size ≤ 501 → (∀ o ∈ l, o.2.size ≤ 501) → l.length = 2 → (g.right = false ∨ argsOK [] l = false) →
      Pure E 22 [.d .old g.d, .d .old (.row 4 (mapO Sb.d l))] (.tup [.d .new (.agg [.int .u8 0, .str [], .row 3 [], .row 4 []]), .d .top (.int .i64 2)]) := fun g l h1 h2 h3 h4 => by
    have := puts_ok g l (by omega) (fun o ho => by have := h2 o ho; omega) (by omega)
    rw [put_bad h4] at this
    exact this
  generalize smallB [f] = b1 at *
  generalize fewB [([], t)] = b2 at *
  generalize f.right = b3 at *
  generalize t.ok = b4 at *
  obtain ⟨o, n, us, fs⟩ := f
  obtain ⟨v, nm, ts⟩ := t
  simp only [Frm.d, Tm.d] at *
  have hm : k.toNat % 6 < 6 := Nat.mod_lt _ (by decide)
  refine pure_by hasu8 ?_
  generalize hp : std = p
  have er : p.rem (opI k) 6 = natI (k.toNat % 6) := by subst hp; simp [std, natI, opI]
  have et : p.not true = false := not_t hp
  have ef : p.not false = true := not_f hp
  (generalize cq0 : Frm.ds = cy0; generalize cq1 : Tm.ds = cy1; generalize cq2 : opI = cy2; cbv <;> subst cq0 cq1 cq2)
  refine callA.pure awake_ok rfl ?_
  (generalize cq0 : Frm.ds = cy0; generalize cq1 : Tm.ds = cy1; generalize cq2 : opI = cy2; cbv <;> subst cq0 cq1 cq2)
  simp only [et]
  (generalize cq0 : Frm.ds = cy0; generalize cq1 : Tm.ds = cy1; generalize cq2 : opI = cy2; cbv <;> subst cq0 cq1 cq2)
  refine callA.pure hsm rfl ?_
  (generalize cq0 : Frm.ds = cy0; generalize cq1 : Tm.ds = cy1; generalize cq2 : opI = cy2; cbv <;> subst cq0 cq1 cq2)
  cases b1 with
  | false => simp only [ef]; (generalize cq0 : Frm.ds = cy0; generalize cq1 : Tm.ds = cy1; generalize cq2 : opI = cy2; cbv <;> subst cq0 cq1 cq2)
  | true =>
  replace hs1 := hs1 rfl
  replace hri := hri rfl
  simp only [et]
  (generalize cq0 : Frm.ds = cy0; generalize cq1 : Tm.ds = cy1; generalize cq2 : opI = cy2; cbv <;> subst cq0 cq1 cq2)
  refine callA.pure hfw rfl ?_
  (generalize cq0 : Frm.ds = cy0; generalize cq1 : Tm.ds = cy1; generalize cq2 : opI = cy2; cbv <;> subst cq0 cq1 cq2)
  cases b2 with
  | false => simp only [ef]; (generalize cq0 : Frm.ds = cy0; generalize cq1 : Tm.ds = cy1; generalize cq2 : opI = cy2; cbv <;> subst cq0 cq1 cq2)
  | true =>
  replace hs2 := hs2 rfl
  replace hte := hte rfl
  simp only [et]
  (generalize cq0 : Frm.ds = cy0; generalize cq1 : Tm.ds = cy1; generalize cq2 : opI = cy2; cbv <;> subst cq0 cq1 cq2)
  refine callA.pure hri rfl ?_
  (generalize cq0 : Frm.ds = cy0; generalize cq1 : Tm.ds = cy1; generalize cq2 : opI = cy2; cbv <;> subst cq0 cq1 cq2)
  cases b3 with
  | false => simp only [ef]; (generalize cq0 : Frm.ds = cy0; generalize cq1 : Tm.ds = cy1; generalize cq2 : opI = cy2; cbv <;> subst cq0 cq1 cq2)
  | true =>
  simp only [et]
  (generalize cq0 : Frm.ds = cy0; generalize cq1 : Tm.ds = cy1; generalize cq2 : opI = cy2; cbv <;> subst cq0 cq1 cq2)
  refine callA.pure hte rfl ?_
  (generalize cq0 : Frm.ds = cy0; generalize cq1 : Tm.ds = cy1; generalize cq2 : opI = cy2; cbv <;> subst cq0 cq1 cq2)
  cases b4 with
  | false => simp only [ef]; (generalize cq0 : Frm.ds = cy0; generalize cq1 : Tm.ds = cy1; generalize cq2 : opI = cy2; cbv <;> subst cq0 cq1 cq2)
  | true =>
  simp only [et]
  (generalize cq0 : Frm.ds = cy0; generalize cq1 : Tm.ds = cy1; generalize cq2 : opI = cy2; cbv <;> subst cq0 cq1 cq2)
  have hdv : p.div (opI k) 6 := by subst hp; have := k.toNat_lt; simp [std, opI]; omega
  have e22 : p.eq 2 2 = true := by subst hp; rfl
  have es0 : ∀ a b x, p.dset [a, b] 0 x = [x, b] := by subst hp; intros; rfl
  have es1 : ∀ a b x, p.dset [a, b] 1 x = [a, x] := by subst hp; intros; rfl
  refine ⟨hdv, ?_⟩
  simp only [er]
  have hcs : k.toNat % 6 = 0 ∨ k.toNat % 6 = 1 ∨ k.toNat % 6 = 2 ∨ k.toNat % 6 = 3 ∨ k.toNat % 6 = 4 ∨ k.toNat % 6 = 5 := by omega
  rcases hcs with hc | hc | hc | hc | hc | hc
  · rw [hc] at er ⊢
    have f0 : p.eq (natI 0) 0 = true := by subst hp; rfl
    have hput := hq0 (.mk 3 [120] [] [.mk o n us fs]) [([120], .mk v nm ts), ([121], .mk v nm ts)] (by simp only [Frm.size, Tm.size.sizes, Frm.size.sizes] at *; omega) (by simp; omega) rfl (.inl (not_bad _))
    have hnrm := Normal_ok (.mk 3 [120] [] [.mk o n us fs]) (by simp only [Frm.size, Tm.size.sizes, Frm.size.sizes] at *; omega)
    rw [norm_bad (not_bad _)] at hnrm
    have halp := Alpha_ok (.mk 3 [120] [] [.mk o n us fs]) (.mk 3 [120] [] [.mk o n us fs]) (by simp only [Frm.size, Tm.size.sizes, Frm.size.sizes] at *; omega) (by simp only [Frm.size, Tm.size.sizes, Frm.size.sizes] at *; omega)
    rw [alpha_bad (not_bad _)] at halp
    have hnrm2 : Pure E 26 [.d .old (Frm.mk 3 [120] [] [.mk o n us fs]).d] (.tup [.d .new (.agg [.int .u8 0, .str [], .row 3 [], .row 4 []]), .d .top (.int .i64 2)]) := hnrm
    simp only [f0]
    (generalize cq0 : Frm.ds = cy0; generalize cq1 : Tm.ds = cy1; generalize cq2 : natI = cy2; generalize cq3 : opI = cy3; cbv <;> subst cq0 cq1 cq2 cq3)
    refine callA.pure (of_okx 3 [120] [.mk o n us fs]) rfl ?_
    (generalize cq0 : Frm.ds = cy0; generalize cq1 : Tm.ds = cy1; generalize cq2 : natI = cy2; generalize cq3 : opI = cy3; cbv <;> subst cq0 cq1 cq2 cq3)
    refine callA.pure hput rfl ?_
    (generalize cq0 : Frm.ds = cy0; generalize cq1 : Tm.ds = cy1; generalize cq2 : natI = cy2; generalize cq3 : opI = cy3; cbv <;> subst cq0 cq1 cq2 cq3)
    refine ⟨hdv, ?_⟩
    simp only [er, f0]
    (generalize cq0 : Frm.ds = cy0; generalize cq1 : Tm.ds = cy1; generalize cq2 : natI = cy2; generalize cq3 : opI = cy3; cbv <;> subst cq0 cq1 cq2 cq3)
    refine callA.pure hnrm2 rfl ?_
    (generalize cq0 : Frm.ds = cy0; generalize cq1 : Tm.ds = cy1; generalize cq2 : natI = cy2; generalize cq3 : opI = cy3; cbv <;> subst cq0 cq1 cq2 cq3)
    simp only [e22, et]
    (generalize cq0 : Frm.ds = cy0; generalize cq1 : Tm.ds = cy1; generalize cq2 : natI = cy2; generalize cq3 : opI = cy3; cbv <;> subst cq0 cq1 cq2 cq3)
    refine callA.pure hz rfl ?_
    (generalize cq0 : Frm.ds = cy0; generalize cq1 : Tm.ds = cy1; generalize cq2 : natI = cy2; generalize cq3 : opI = cy3; cbv <;> subst cq0 cq1 cq2 cq3)
    simp only [et]
    (generalize cq0 : Frm.ds = cy0; generalize cq1 : Tm.ds = cy1; generalize cq2 : natI = cy2; generalize cq3 : opI = cy3; cbv <;> subst cq0 cq1 cq2 cq3)
    refine callA.pure halp rfl ?_
    (generalize cq0 : Frm.ds = cy0; generalize cq1 : Tm.ds = cy1; generalize cq2 : natI = cy2; generalize cq3 : opI = cy3; cbv <;> subst cq0 cq1 cq2 cq3)
    simp only [e22]
    (generalize cq0 : Frm.ds = cy0; generalize cq1 : Tm.ds = cy1; generalize cq2 : natI = cy2; generalize cq3 : opI = cy3; cbv <;> subst cq0 cq1 cq2 cq3)
    refine callA.pure hz rfl ?_
    (generalize cq0 : Frm.ds = cy0; generalize cq1 : Tm.ds = cy1; generalize cq2 : natI = cy2; generalize cq3 : opI = cy3; cbv <;> subst cq0 cq1 cq2 cq3)
  · rw [hc] at er ⊢
    have f0 : p.eq (natI 1) 0 = false := by subst hp; rfl
    have f1 : p.eq (natI 1) 1 = true := by subst hp; rfl
    have hput := hq0 (.mk o n us fs) [([120], .mk v nm ts), ([97], .mk v nm ts)] (by omega) (by simp only [List.mem_cons, List.not_mem_nil, or_false, forall_eq_or_imp, forall_eq, Tm.size, Tm.size.sizes] at *; omega) rfl (.inr (wrong1 _))
    simp only [f0]
    (generalize cq0 : Frm.ds = cy0; generalize cq1 : Tm.ds = cy1; generalize cq2 : natI = cy2; generalize cq3 : opI = cy3; cbv <;> subst cq0 cq1 cq2 cq3)
    simp only [f1]
    (generalize cq0 : Frm.ds = cy0; generalize cq1 : Tm.ds = cy1; generalize cq2 : natI = cy2; generalize cq3 : opI = cy3; cbv <;> subst cq0 cq1 cq2 cq3)
    refine ⟨_, by subst hp; rfl, ?_⟩
    (generalize cq0 : Frm.ds = cy0; generalize cq1 : Tm.ds = cy1; generalize cq2 : natI = cy2; generalize cq3 : opI = cy3; cbv <;> subst cq0 cq1 cq2 cq3)
    simp only [es0, es1]
    refine callA.pure hput rfl ?_
    (generalize cq0 : Frm.ds = cy0; generalize cq1 : Tm.ds = cy1; generalize cq2 : natI = cy2; generalize cq3 : opI = cy3; cbv <;> subst cq0 cq1 cq2 cq3)
    refine ⟨hdv, ?_⟩
    simp only [er, f0]
    (generalize cq0 : Frm.ds = cy0; generalize cq1 : Tm.ds = cy1; generalize cq2 : natI = cy2; generalize cq3 : opI = cy3; cbv <;> subst cq0 cq1 cq2 cq3)
    simp only [e22]
    (generalize cq0 : Frm.ds = cy0; generalize cq1 : Tm.ds = cy1; generalize cq2 : natI = cy2; generalize cq3 : opI = cy3; cbv <;> subst cq0 cq1 cq2 cq3)
    refine callA.pure hz rfl ?_
    (generalize cq0 : Frm.ds = cy0; generalize cq1 : Tm.ds = cy1; generalize cq2 : natI = cy2; generalize cq3 : opI = cy3; cbv <;> subst cq0 cq1 cq2 cq3)
  · rw [hc] at er ⊢
    have f0 : p.eq (natI 2) 0 = false := by subst hp; rfl
    have f1 : p.eq (natI 2) 1 = false := by subst hp; rfl
    have f2 : p.eq (natI 2) 2 = true := by subst hp; rfl
    have hput := hq0 (.mk o n us fs) [([120], .mk v nm ts), ([120], .mk v nm ts)] (by omega) (by simp only [List.mem_cons, List.not_mem_nil, or_false, forall_eq_or_imp, forall_eq, Tm.size, Tm.size.sizes] at *; omega) rfl (.inr (wrong2 _))
    simp only [f0]
    (generalize cq0 : Frm.ds = cy0; generalize cq1 : Tm.ds = cy1; generalize cq2 : natI = cy2; generalize cq3 : opI = cy3; cbv <;> subst cq0 cq1 cq2 cq3)
    simp only [f1]
    (generalize cq0 : Frm.ds = cy0; generalize cq1 : Tm.ds = cy1; generalize cq2 : natI = cy2; generalize cq3 : opI = cy3; cbv <;> subst cq0 cq1 cq2 cq3)
    simp only [f2]
    (generalize cq0 : Frm.ds = cy0; generalize cq1 : Tm.ds = cy1; generalize cq2 : natI = cy2; generalize cq3 : opI = cy3; cbv <;> subst cq0 cq1 cq2 cq3)
    refine ⟨_, by subst hp; rfl, ?_⟩
    (generalize cq0 : Frm.ds = cy0; generalize cq1 : Tm.ds = cy1; generalize cq2 : natI = cy2; generalize cq3 : opI = cy3; cbv <;> subst cq0 cq1 cq2 cq3)
    simp only [es0, es1]
    refine callA.pure hput rfl ?_
    (generalize cq0 : Frm.ds = cy0; generalize cq1 : Tm.ds = cy1; generalize cq2 : natI = cy2; generalize cq3 : opI = cy3; cbv <;> subst cq0 cq1 cq2 cq3)
    refine ⟨hdv, ?_⟩
    simp only [er, f0]
    (generalize cq0 : Frm.ds = cy0; generalize cq1 : Tm.ds = cy1; generalize cq2 : natI = cy2; generalize cq3 : opI = cy3; cbv <;> subst cq0 cq1 cq2 cq3)
    simp only [e22]
    (generalize cq0 : Frm.ds = cy0; generalize cq1 : Tm.ds = cy1; generalize cq2 : natI = cy2; generalize cq3 : opI = cy3; cbv <;> subst cq0 cq1 cq2 cq3)
    refine callA.pure hz rfl ?_
    (generalize cq0 : Frm.ds = cy0; generalize cq1 : Tm.ds = cy1; generalize cq2 : natI = cy2; generalize cq3 : opI = cy3; cbv <;> subst cq0 cq1 cq2 cq3)
  · rw [hc] at er ⊢
    have f0 : p.eq (natI 3) 0 = false := by subst hp; rfl
    have f1 : p.eq (natI 3) 1 = false := by subst hp; rfl
    have f2 : p.eq (natI 3) 2 = false := by subst hp; rfl
    have f3 : p.eq (natI 3) 3 = true := by subst hp; rfl
    have hput := hq0 (.mk o n us fs) [([120], .mk true [97] []), ([121], .mk v nm ts)] (by omega) (by simp only [List.mem_cons, List.not_mem_nil, or_false, forall_eq_or_imp, forall_eq, Tm.size, Tm.size.sizes] at *; omega) rfl (.inr (wrong3 _))
    simp only [f0]
    (generalize cq0 : Frm.ds = cy0; generalize cq1 : Tm.ds = cy1; generalize cq2 : natI = cy2; generalize cq3 : opI = cy3; cbv <;> subst cq0 cq1 cq2 cq3)
    simp only [f1]
    (generalize cq0 : Frm.ds = cy0; generalize cq1 : Tm.ds = cy1; generalize cq2 : natI = cy2; generalize cq3 : opI = cy3; cbv <;> subst cq0 cq1 cq2 cq3)
    simp only [f2]
    (generalize cq0 : Frm.ds = cy0; generalize cq1 : Tm.ds = cy1; generalize cq2 : natI = cy2; generalize cq3 : opI = cy3; cbv <;> subst cq0 cq1 cq2 cq3)
    simp only [f3]
    (generalize cq0 : Frm.ds = cy0; generalize cq1 : Tm.ds = cy1; generalize cq2 : natI = cy2; generalize cq3 : opI = cy3; cbv <;> subst cq0 cq1 cq2 cq3)
    refine callA.pure (v_okx [97]) rfl ?_
    (generalize cq0 : Frm.ds = cy0; generalize cq1 : Tm.ds = cy1; generalize cq2 : natI = cy2; generalize cq3 : opI = cy3; cbv <;> subst cq0 cq1 cq2 cq3)
    refine ⟨_, by subst hp; rfl, ?_⟩
    (generalize cq0 : Frm.ds = cy0; generalize cq1 : Tm.ds = cy1; generalize cq2 : natI = cy2; generalize cq3 : opI = cy3; cbv <;> subst cq0 cq1 cq2 cq3)
    simp only [es0, es1]
    refine callA.pure hput rfl ?_
    (generalize cq0 : Frm.ds = cy0; generalize cq1 : Tm.ds = cy1; generalize cq2 : natI = cy2; generalize cq3 : opI = cy3; cbv <;> subst cq0 cq1 cq2 cq3)
    refine ⟨hdv, ?_⟩
    simp only [er, f0]
    (generalize cq0 : Frm.ds = cy0; generalize cq1 : Tm.ds = cy1; generalize cq2 : natI = cy2; generalize cq3 : opI = cy3; cbv <;> subst cq0 cq1 cq2 cq3)
    simp only [e22]
    (generalize cq0 : Frm.ds = cy0; generalize cq1 : Tm.ds = cy1; generalize cq2 : natI = cy2; generalize cq3 : opI = cy3; cbv <;> subst cq0 cq1 cq2 cq3)
    refine callA.pure hz rfl ?_
    (generalize cq0 : Frm.ds = cy0; generalize cq1 : Tm.ds = cy1; generalize cq2 : natI = cy2; generalize cq3 : opI = cy3; cbv <;> subst cq0 cq1 cq2 cq3)
  · rw [hc] at er ⊢
    have f0 : p.eq (natI 4) 0 = false := by subst hp; rfl
    have f1 : p.eq (natI 4) 1 = false := by subst hp; rfl
    have f2 : p.eq (natI 4) 2 = false := by subst hp; rfl
    have f3 : p.eq (natI 4) 3 = false := by subst hp; rfl
    have f4 : p.eq (natI 4) 4 = true := by subst hp; rfl
    have hput := hq0 (.mk o n us fs) [([63, 116], .mk v nm ts), ([121], .mk v nm ts)] (by omega) (by simp only [List.mem_cons, List.not_mem_nil, or_false, forall_eq_or_imp, forall_eq, Tm.size, Tm.size.sizes] at *; omega) rfl (.inr (wrong4 _))
    simp only [f0]
    (generalize cq0 : Frm.ds = cy0; generalize cq1 : Tm.ds = cy1; generalize cq2 : natI = cy2; generalize cq3 : opI = cy3; cbv <;> subst cq0 cq1 cq2 cq3)
    simp only [f1]
    (generalize cq0 : Frm.ds = cy0; generalize cq1 : Tm.ds = cy1; generalize cq2 : natI = cy2; generalize cq3 : opI = cy3; cbv <;> subst cq0 cq1 cq2 cq3)
    simp only [f2]
    (generalize cq0 : Frm.ds = cy0; generalize cq1 : Tm.ds = cy1; generalize cq2 : natI = cy2; generalize cq3 : opI = cy3; cbv <;> subst cq0 cq1 cq2 cq3)
    simp only [f3]
    (generalize cq0 : Frm.ds = cy0; generalize cq1 : Tm.ds = cy1; generalize cq2 : natI = cy2; generalize cq3 : opI = cy3; cbv <;> subst cq0 cq1 cq2 cq3)
    simp only [f4]
    (generalize cq0 : Frm.ds = cy0; generalize cq1 : Tm.ds = cy1; generalize cq2 : natI = cy2; generalize cq3 : opI = cy3; cbv <;> subst cq0 cq1 cq2 cq3)
    refine ⟨_, by subst hp; rfl, ?_⟩
    (generalize cq0 : Frm.ds = cy0; generalize cq1 : Tm.ds = cy1; generalize cq2 : natI = cy2; generalize cq3 : opI = cy3; cbv <;> subst cq0 cq1 cq2 cq3)
    simp only [es0, es1]
    refine callA.pure hput rfl ?_
    (generalize cq0 : Frm.ds = cy0; generalize cq1 : Tm.ds = cy1; generalize cq2 : natI = cy2; generalize cq3 : opI = cy3; cbv <;> subst cq0 cq1 cq2 cq3)
    refine ⟨hdv, ?_⟩
    simp only [er, f0]
    (generalize cq0 : Frm.ds = cy0; generalize cq1 : Tm.ds = cy1; generalize cq2 : natI = cy2; generalize cq3 : opI = cy3; cbv <;> subst cq0 cq1 cq2 cq3)
    simp only [e22]
    (generalize cq0 : Frm.ds = cy0; generalize cq1 : Tm.ds = cy1; generalize cq2 : natI = cy2; generalize cq3 : opI = cy3; cbv <;> subst cq0 cq1 cq2 cq3)
    refine callA.pure hz rfl ?_
    (generalize cq0 : Frm.ds = cy0; generalize cq1 : Tm.ds = cy1; generalize cq2 : natI = cy2; generalize cq3 : opI = cy3; cbv <;> subst cq0 cq1 cq2 cq3)
  · rw [hc] at er ⊢
    have f0 : p.eq (natI 5) 0 = false := by subst hp; rfl
    have f1 : p.eq (natI 5) 1 = false := by subst hp; rfl
    have f2 : p.eq (natI 5) 2 = false := by subst hp; rfl
    have f3 : p.eq (natI 5) 3 = false := by subst hp; rfl
    have f4 : p.eq (natI 5) 4 = false := by subst hp; rfl
    have hput := hq0 (.mk o n us fs) [([120], .mk v nm ts), ([121], .mk false [102] [.mk v nm ts, .mk v nm ts, .mk v nm ts, .mk v nm ts, .mk v nm ts])] (by omega) (by simp only [List.mem_cons, List.not_mem_nil, or_false, forall_eq_or_imp, forall_eq, Tm.size, Tm.size.sizes] at *; omega) rfl (.inr (wrong5 _))
    simp only [f0]
    (generalize cq0 : Frm.ds = cy0; generalize cq1 : Tm.ds = cy1; generalize cq2 : natI = cy2; generalize cq3 : opI = cy3; cbv <;> subst cq0 cq1 cq2 cq3)
    simp only [f1]
    (generalize cq0 : Frm.ds = cy0; generalize cq1 : Tm.ds = cy1; generalize cq2 : natI = cy2; generalize cq3 : opI = cy3; cbv <;> subst cq0 cq1 cq2 cq3)
    simp only [f2]
    (generalize cq0 : Frm.ds = cy0; generalize cq1 : Tm.ds = cy1; generalize cq2 : natI = cy2; generalize cq3 : opI = cy3; cbv <;> subst cq0 cq1 cq2 cq3)
    simp only [f3]
    (generalize cq0 : Frm.ds = cy0; generalize cq1 : Tm.ds = cy1; generalize cq2 : natI = cy2; generalize cq3 : opI = cy3; cbv <;> subst cq0 cq1 cq2 cq3)
    simp only [f4]
    (generalize cq0 : Frm.ds = cy0; generalize cq1 : Tm.ds = cy1; generalize cq2 : natI = cy2; generalize cq3 : opI = cy3; cbv <;> subst cq0 cq1 cq2 cq3)
    refine callA.pure (c_okx [102] [.mk v nm ts, .mk v nm ts, .mk v nm ts, .mk v nm ts, .mk v nm ts]) rfl ?_
    (generalize cq0 : Frm.ds = cy0; generalize cq1 : Tm.ds = cy1; generalize cq2 : natI = cy2; generalize cq3 : opI = cy3; cbv <;> subst cq0 cq1 cq2 cq3)
    refine ⟨_, by subst hp; rfl, ?_⟩
    (generalize cq0 : Frm.ds = cy0; generalize cq1 : Tm.ds = cy1; generalize cq2 : natI = cy2; generalize cq3 : opI = cy3; cbv <;> subst cq0 cq1 cq2 cq3)
    simp only [es0, es1]
    refine callA.pure hput rfl ?_
    (generalize cq0 : Frm.ds = cy0; generalize cq1 : Tm.ds = cy1; generalize cq2 : natI = cy2; generalize cq3 : opI = cy3; cbv <;> subst cq0 cq1 cq2 cq3)
    refine ⟨hdv, ?_⟩
    simp only [er, f0]
    (generalize cq0 : Frm.ds = cy0; generalize cq1 : Tm.ds = cy1; generalize cq2 : natI = cy2; generalize cq3 : opI = cy3; cbv <;> subst cq0 cq1 cq2 cq3)
    simp only [e22]
    (generalize cq0 : Frm.ds = cy0; generalize cq1 : Tm.ds = cy1; generalize cq2 : natI = cy2; generalize cq3 : opI = cy3; cbv <;> subst cq0 cq1 cq2 cq3)
    refine callA.pure hz rfl ?_
    (generalize cq0 : Frm.ds = cy0; generalize cq1 : Tm.ds = cy1; generalize cq2 : natI = cy2; generalize cq3 : opI = cy3; cbv <;> subst cq0 cq1 cq2 cq3)
end Go.Ly.Tr
end
section
namespace Go.Proofs.YthihgffbljnbcaaGreatDoor
open Go.Ly Go.Ly.Tr
mutual
theorem bulk_eq {H : Type} : ∀ d : DataW H, Rows.uptoBulk d = bulkW d
  | .lit (.string _) => rfl
  | .lit (.bool _) => rfl
  | .lit (.int _ _) => rfl
  | .lit (.float .f32 _) => rfl
  | .lit (.float .f64 _) => rfl
  | .lit .nil => rfl
  | .nil => rfl
  | .ptr d => by rw [Rows.uptoBulk, bulkW, bulk_eq d]
  | .slice a b => by rw [Rows.uptoBulk, bulkW, bulks_eq a, bulks_eq b]
  | .agg a => by rw [Rows.uptoBulk, bulkW, bulks_eq a]
  | .iface _ d => by rw [Rows.uptoBulk, bulkW, bulk_eq d]
  | .map e => by rw [Rows.uptoBulk, bulkW, bulke_eq e]
  | .held _ => rfl
theorem bulks_eq {H : Type} : ∀ l : List (DataW H), Rows.uptoBulkAll l = bulkWs l
  | [] => rfl
  | d :: r => by rw [Rows.uptoBulkAll, bulkWs, bulk_eq d, bulks_eq r]
theorem bulke_eq {H : Type} : ∀ l : List (Lit × DataW H), Rows.uptoBulkEntries l = bulkWe l
  | [] => rfl
  | x :: r => by rw [Rows.uptoBulkEntries, bulkWe, bulk1_eq x, bulke_eq r]
theorem bulk1_eq {H : Type} : ∀ x : Lit × DataW H, Rows.uptoBulkEntry x = bulkW1 x
  | (.string _, d) => by rw [Rows.uptoBulkEntry, bulkW1, bulk_eq d]
  | (.bool _, d) => by rw [Rows.uptoBulkEntry, bulkW1, bulk_eq d] <;> simp
  | (.int _ _, d) => by rw [Rows.uptoBulkEntry, bulkW1, bulk_eq d] <;> simp
  | (.float .f32 _, d) => by rw [Rows.uptoBulkEntry, bulkW1, bulk_eq d] <;> simp
  | (.float .f64 _, d) => by rw [Rows.uptoBulkEntry, bulkW1, bulk_eq d] <;> simp
  | (.nil, d) => by rw [Rows.uptoBulkEntry, bulkW1, bulk_eq d] <;> simp
end
theorem own : ownKnob Tryz.prog.godebug = none := by kernel_rfl
theorem gTab : Tryz.prog.globalNamed "internal/strconv.uint64pow10" = some 0 := by kernel_rfl
theorem gTabType : (Tryz.prog.globals[0]?).map (·.type) = some 177 := by kernel_rfl
theorem cells177 : Tryz.prog.cellsOf 177 = 20 := by kernel_rfl
theorem cells161 : Tryz.prog.cellsOf 161 = 1 := by kernel_rfl
theorem u177 : Tryz.prog.underlying 177 = some (.array 20 161) := by kernel_rfl
theorem u161 : Tryz.prog.underlying 161 = some (.int .u64) := by kernel_rfl
def laids {H : Type} : List (String × DataW H) := [("math/bits.deBruijn32tab", Rows.laid_math_bits_deBruijn32tab), ("math/bits.deBruijn64tab", Rows.laid_math_bits_deBruijn64tab), ("internal/strconv.uint64pow10", Rows.laid_internal_strconv_uint64pow10)]
theorem table {W : World} (h : laidMetH Tryz.prog laids W) : Lib.TabIs Tryz.prog W "internal/strconv.uint64pow10" .u64 Lib.pow10Tab := by
  have h' : laidMet Tryz.prog laids W := h
  exact Lib.tabIs_of_head (rest := []) gTab gTabType u177 u161 cells161 cells177 (laidMet.tail (laidMet.tail h'))
theorem glob {W : World} (h : laidMetH Tryz.prog laids W) : 0 < W.heap.size ∧ ∀ p ∈ E.gl, ∃ T f, W.heap[p.1]? = some (.cells p.2.toArray T f) := by
  have ht := table h
  unfold Lib.TabIs World.var? at ht
  rw [gTab, Option.bind_some] at ht
  split at ht
  · rename_i cs T f hh
    cases ht
    refine ⟨(Array.getElem?_eq_some_iff.1 hh).1, fun p hp => ?_⟩
    have : p = (0, Lib.pow10Tab.map fun z => Value.int .u64 z) := by simpa [E] using hp
    subst this
    exact ⟨T, f, hh⟩
  · cases ht
def Ts : List TypeId := [25, 30, 34, 33, 23, 22, 44, 9, 5, 4]
theorem okTs_all : okTs E.P Ts = true := by kernel_rfl
def lay (h : Array Obj) (b : Nat) (cs : List Value) : Array Obj :=
  h.modify b fun
    | .cells _ t frozen => .cells cs.toArray t frozen
    | o => o
def tab32 : List Int := [0, 1, 28, 2, 29, 14, 24, 3, 30, 22, 20, 15, 25, 17, 4, 8, 31, 27, 13, 23, 21, 19, 16, 7, 26, 12, 18, 6, 11, 5, 10, 9]
def tab64 : List Int := [0, 1, 56, 2, 57, 49, 28, 3, 61, 58, 42, 50, 38, 29, 17, 4, 62, 47, 59, 36, 45, 43, 51, 22, 53, 39, 33, 30, 24, 18, 12, 5, 63, 55, 48, 27, 60, 41, 37, 16, 46, 35, 44, 21, 52, 32, 23, 11, 54, 26, 40, 15, 34, 20, 31, 10, 25, 14, 19, 9, 13, 8, 7, 6]
noncomputable def laidWorld (os : Os) : World :=
  { World.holding Tryz.prog os ⟨#[], #[], []⟩ with heap := lay (lay (lay (World.holding Tryz.prog os ⟨#[], #[], []⟩).heap 0 (Lib.pow10Tab.map fun z => .int .u64 z)) 1 (tab32.map fun z => .int .u8 z)) 2 (tab64.map fun z => .int .u8 z) }
theorem laid_met (os : Os) (args : Array Value) : laidMet Tryz.prog laids ((laidWorld os).forCall (fun _ _ => 0) ⟨#[], args, []⟩).memory :=
  laidMet_of_run' 8 (by kernel_rfl) (by kernel_rfl)
theorem bulk_of {H : Type} {ds gs : List (DataW H)} (hk : Rows.uptoSmall H (ds ++ gs) = true) : bulkWs ds ≤ 1048576 := by
  have h1 : Rows.uptoBulkAll (ds ++ gs) ≤ 1048576 := by simpa [Rows.uptoSmall] using hk
  rw [bulks_eq] at h1
  have h2 : ∀ a b : List (DataW H), bulkWs (a ++ b) = bulkWs a + bulkWs b := by
    intro a b
    induction a with
    | nil => simp [bulkWs]
    | cons x a ih => simp only [List.cons_append, bulkWs, ih]; omega
  rw [h2] at h1
  omega
end Go.Proofs.YthihgffbljnbcaaGreatDoor
end
section
namespace Go.Proofs.YthihgffbljnbcaaGreatDoor.substWrong
open Go Go.Ly Go.Ly.Tr Go.ChangeShapes Go.WideShapes Go.ChangeAt Go.RowKit
set_option maxRecDepth 100000
theorem law (xs : List D) (h : ArgsFit E.P [25, 30, 5] xs) (hb : bulkDs xs ≤ 1048576) : Ly.Pure E 8 (xs.map oldD1) (.d .top (.bool true)) := by
  obtain ⟨f1, r, rfl, w1, k1⟩ := args_frm h
  obtain ⟨t2, r, rfl, w2, k2⟩ := args_tm k1
  obtain ⟨o3, r, rfl, k3⟩ := args_op k2
  obtain rfl := args_nil k3
  simp only [bulkDs] at hb
  exact SubstWrong_ok f1 t2 o3 (by omega) (by omega)
theorem contract (H : Type) (enc : TypeId × Value → H) (W : World) (base : Nat) (args : Array Value) (ds gs : List (DataW H)) (before : List MemPlace)
    (hval : ∀ (j : Nat) t v, Tryz.f8.params[j]? = some t → args[j]? = some v → Value.okWide Tryz.prog W .any base t v)
    (hW : DataW.Whole enc Tryz.prog Tryz.f8.params.toList Rows.substWrongSpec.vars false W args.toList ds gs before) (hk : Rows.uptoSmall H (ds ++ gs) = true) (hL : laidMetH Tryz.prog Rows.substWrongUptoRow.laid W) :
    Calls Tryz.prog 8 args W fun e W' => ∃ v, e = .returned v ∧ Rows.substWrongSpec.post enc Tryz.prog Tryz.f8 false true false false W args v W' := by
  have hg := glob (W := W) hL
  refine law_callsb (E := E) (k := 8) (Ts := Ts) (tb := 4) okTs_all (by rw [Tryz.params8]; decide) rfl (by kernel_rfl) u4 ?_ ?_ hval hW (bulk_of hk) hg.1 hg.2
  · intro ds h
    rw [Tryz.params8] at h
    match ds, h with
    | [a, b, c], _ => rfl
  · rw [Tryz.params8]
    exact law
theorem reads (os : Os) {H : Type} (enc : TypeId × Value → H) : ∃ places, DataW.whole enc Tryz.prog ((laidWorld os).forCall (fun _ _ => 0) ⟨#[], #[.agg #[.int .u8 0, .string ⟨#[]⟩, .slice none 0 0, .slice none 0 0], .agg #[.bool false, .string ⟨#[]⟩, .slice none 0 0], .int .u8 0], []⟩).memory Tryz.f8.params.toList Rows.substWrongSpec.vars false (#[.agg #[.int .u8 0, .string ⟨#[]⟩, .slice none 0 0, .slice none 0 0], .agg #[.bool false, .string ⟨#[]⟩, .slice none 0 0], .int .u8 0] : Array Value).toList 8 = some ([.agg [.lit (.int .u8 0), .lit (.string []), .nil, .nil], .agg [.lit (.bool false), .lit (.string []), .nil], .lit (.int .u8 0)], [], places) :=
  ⟨[], by kernel_rfl⟩
theorem lifted (os : Os) (started : os.Started) (H : Type) (enc : TypeId × Value → H) (F : Stop.Interp) :
    ReturnsInHanded {} Tryz.checked os 8 .any ((Rows.OpenSpec.upto Rows.substWrongSpec).preRow enc Tryz.prog Tryz.f8 Rows.substWrongUptoRow.domain false Rows.substWrongUptoRow.laid) (((Rows.OpenSpec.upto Rows.substWrongSpec).at F).post enc Tryz.prog Tryz.f8 false true false false) := by
  obtain ⟨places, hx⟩ := reads os enc
  refine returnsInHanded_of_row (C := Tryz.checked) (s := Rows.OpenSpec.upto Rows.substWrongSpec) own started (by kernel_rfl) Tryz.func8
    (witness_row_at (enc := enc) (C := Tryz.checked) false (laidWorld os) #[.agg #[.int .u8 0, .string ⟨#[]⟩, .slice none 0 0, .slice none 0 0], .agg #[.bool false, .string ⟨#[]⟩, .slice none 0 0], .int .u8 0] rfl (by kernel_rfl) (by kernel_rfl) (by kernel_rfl)
      (OpenSpec.preRow_of_cond 8 hx (by kernel_rfl) (fun k hk => by cases hk; kernel_rfl) (by kernel_rfl) (laid_met os _))) ?_
  intro W base args ds gs before hval hW _ hk _ hL _ _
  exact contract H enc W base args ds gs before hval hW (hk _ rfl) hL
theorem said : Rows.SubstWrongUptoSaid :=
  OpenClaim.holds_of_cond 8 Tryz.f8 rfl rfl rfl rfl rfl rfl rfl ⟨rfl, rfl, rfl, rfl, rfl⟩ rfl rfl rfl rfl rfl (by kernel_rfl) Tryz.func8 (by kernel_rfl)
    (of_decide_eq_true (by kernel_rfl)) (by unfold Func.isWrapper; first | (rw [if_pos (by decide +kernel)]; kernel_rfl) | (rw [if_neg (by decide +kernel)]; exact ⟨rfl, rfl⟩))
    (fun os started H enc _ F => by rw [OpenClaim.pre_eq_preRow]; exact lifted os started H enc F)
theorem stands (t : TypeId) (ht : t ∈ [25, 30, 5]) : Tryz.prog.wantsStandIn t = false := by
  have h := List.all_eq_true.1 (show ([25, 30, 5].all fun t => !Tryz.prog.wantsStandIn t) = true by kernel_rfl) t ht
  simpa using h
theorem plain (f : FuncId) (fn : Func) (hf : Tryz.pinned.checked.prog.funcNamed "lyceum/lyceumlaw03.SubstWrong" = some f) (hfn : Tryz.pinned.checked.prog.funcs[f]? = some fn) :
    false = Tryz.pinned.checked.prog.looks [] ∧ ∀ (j : Nat) t, fn.params[j]? = some t → Tryz.pinned.checked.prog.wantsStandIn t = false := by
  obtain rfl : f = 8 := Option.some.inj ((show Tryz.prog.funcNamed "lyceum/lyceumlaw03.SubstWrong" = some 8 by kernel_rfl).symm.trans hf) |>.symm
  obtain rfl : fn = Tryz.f8 := (Option.some.inj (Tryz.func8.symm.trans hfn)).symm
  refine ⟨by kernel_rfl, fun j t ht => ?_⟩
  rw [Tryz.params8] at ht
  have hm : t ∈ [25, 30, 5] := by simpa using Array.mem_of_getElem? ht
  exact stands t hm
theorem card : Rows.SubstWrongUptoCardSaid :=
  Claim7.holds_tied_plain_at .later [] _ _ _ _ said (fun _ h => by cases h) (by kernel_rfl) (fun _ h => by cases h) substWrongUpto_row_tie rfl ⟨rfl, rfl⟩ (by kernel_rfl) rfl plain (by kernel_rfl)
end Go.Proofs.YthihgffbljnbcaaGreatDoor.substWrong
end
