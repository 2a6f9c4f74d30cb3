/- The statement SubstNormalsUptoCardSaid holds: lyceumlaw03.SubstNormals returns true and leaves its arguments as they were; its condition is that what it reads is of bulk at most 1048576. -/
import Derived.Test.YthihgffbljnbcaaGreatDoorN4
set_option linter.all false
section
namespace Go.Ly.Tr
set_option maxRecDepth 20000
theorem aparts_app (T : List Nm) : ∀ a b : List Frm, apartB.aparts (a ++ b) T = (apartB.aparts a T && apartB.aparts b T)
  | [], b => by rw [List.nil_append, apartB.aparts, Bool.true_and]
  | f :: a, b => by rw [List.cons_append, apartB.aparts, apartB.aparts, aparts_app T a b, Bool.and_assoc]
theorem apart_ok (f : Frm) : ∀ T : List Nm, f.size ≤ 100000 → T.length + f.size ≤ 500000 → Pure E 29 [.d .old f.d, .d .old (.row 1 (Nms T))] (.d .top (.bool (apartB f T))) := by
  induction f using Frm.ind with
  | h o n us fs ih =>
  intro T hs hT
  have hs' : Tm.size.sizes us + Frm.size.sizes fs + 1 ≤ 100000 := hs
  have hT' : T.length + (Tm.size.sizes us + Frm.size.sizes fs + 1) ≤ 500000 := hT
  have hll := Frm.len_size fs
  have h1 := has_ok T n (by omega)
  have hall : ∀ T2 : List Nm, T2.length ≤ T.length + 1 → ∀ x ∈ fs, Pure E 29 [.d .old x.d, .d .old (.row 1 (Nms T2))] (.d .top (.bool (apartB x T2))) := fun T2 h2 x hx => ih x hx T2 (by have := Frm.size_mem hx; omega) (by have := Frm.size_mem hx; omega)
  obtain ⟨q, hq⟩ : ∃ q, isQ o = q := ⟨_, rfl⟩
  have hq' := isQ_eq o
  rw [hq] at hq'
  have hsp : apartB (.mk o n us fs) T = if q then !hasB T n && apartB.aparts fs (T ++ [n]) else apartB.aparts fs T := by rw [apartB, hq]
  obtain ⟨z, hz⟩ : ∃ z, apartB (.mk o n us fs) T = z := ⟨_, rfl⟩
  rw [hz] at hsp ⊢
  clear ih
  generalize hasB T n = b at *
  simp only [Frm.d]
  cases q with
  | false =>
    refine pure_by has29 ?_
    generalize hp : std = p
    have e8 : p.eq (opI o) 8 = false := by subst hp; simp only [Bool.or_eq_false_iff] at hq'; exact hq'.1
    have e9 : p.eq (opI o) 9 = false := by subst hp; simp only [Bool.or_eq_false_iff] at hq'; exact hq'.2
    (generalize cq0 : Frm.ds = cy0, cq1 : Nms = cy1, cq2 : Tm.ds = cy2, cq3 : opI = cy3; cbv <;> subst cq0 cq1 cq2 cq3)
    simp only [e8]
    (generalize cq0 : Frm.ds = cy0, cq1 : Nms = cy1, cq2 : Tm.ds = cy2, cq3 : opI = cy3; cbv <;> subst cq0 cq1 cq2 cq3)
    simp only [e9]
    (generalize cq0 : Frm.ds = cy0, cq1 : Nms = cy1, cq2 : Tm.ds = cy2, cq3 : opI = cy3; cbv <;> subst cq0 cq1 cq2 cq3)
    subst hp
    refine loopA_inv (ι := List Frm × List Frm) (fun j => fs = j.1 ++ j.2 ∧ apartB.aparts j.1 T = true) (fun j => j.2.length)
      (fun j => mkF 40 [(1, .d .old (.row 1 (Nms T))), (2, .ptr 0 0), (4, .d .top (.bool false)), (5, .d .top (.int .i64 (std.dlen (Frm.ds j.1))))])
      (fun j => [.bx [.d .old (.int .u8 (opI o)), .d .old (.str n), .d .old (.row 3 (Tm.ds us)), .d .old (.row 4 (Frm.ds fs))]]) (fun j => ()) ([], fs) ⟨rfl, by rw [apartB.aparts]⟩ ?_ rfl (fun _ => rfl) ?_
    · generalize hp : std = p
      (generalize cq0 : Frm.ds = cy0, cq1 : Nms = cy1, cq2 : Tm.ds = cy2, cq3 : opI = cy3; cbv <;> subst cq0 cq1 cq2 cq3)
      subst hp
      simp [std, Frm.ds]
    rintro ⟨d, r⟩ ⟨hes, hd⟩
    simp only at hes hd ⊢
    cases r with
    | nil =>
      rw [List.append_nil] at hes
      subst hes
      rw [hd] at hsp
      generalize hp : std = p
      (generalize cq0 : Frm.ds = cy0, cq1 : Nms = cy1, cq2 : Tm.ds = cy2, cq3 : opI = cy3; cbv <;> subst cq0 cq1 cq2 cq3)
      simp only [end_ltF hp]
      (generalize cq0 : Frm.ds = cy0, cq1 : Nms = cy1, cq2 : Tm.ds = cy2, cq3 : opI = cy3; cbv <;> subst cq0 cq1 cq2 cq3)
      rw [hsp]
      rfl
    | cons e r =>
      have hm : e ∈ fs := by rw [hes]; simp
      have hih := hall T (by omega) e hm
      have hes2 : fs = (d ++ [e]) ++ r := by rw [hes]; simp
      have hap : apartB.aparts fs T = (apartB e T && apartB.aparts r T) := by rw [hes, aparts_app, hd, Bool.true_and, apartB.aparts]
      have hap2 : apartB.aparts (d ++ [e]) T = apartB e T := by rw [aparts_app, hd, Bool.true_and, apartB.aparts, apartB.aparts, Bool.and_true]
      rw [hap] at hsp
      generalize apartB.aparts r T = zr at *
      generalize apartB e T = ze at *
      have hdl : d.length + (r.length + 1) = fs.length := by rw [hes]; simp
      obtain ⟨o2, nm2, us2, fs2⟩ := e
      simp only [Frm.d] at hih
      generalize hp : std = p
      have et : p.not true = false := not_t hp
      have ef : p.not false = true := not_f hp
      (generalize cq0 : Frm.ds = cy0, cq1 : Nms = cy1, cq2 : Tm.ds = cy2, cq3 : opI = cy3; cbv <;> subst cq0 cq1 cq2 cq3)
      simp only [at_ltF hp hes]
      (generalize cq0 : Frm.ds = cy0, cq1 : Nms = cy1, cq2 : Tm.ds = cy2, cq3 : opI = cy3; cbv <;> subst cq0 cq1 cq2 cq3)
      refine ⟨_, at_getF hp hes, ?_⟩
      (generalize cq0 : Frm.ds = cy0, cq1 : Nms = cy1, cq2 : Tm.ds = cy2, cq3 : opI = cy3; cbv <;> subst cq0 cq1 cq2 cq3)
      refine callA.pure hih rfl ?_
      (generalize cq0 : Frm.ds = cy0, cq1 : Nms = cy1, cq2 : Tm.ds = cy2, cq3 : opI = cy3; cbv <;> subst cq0 cq1 cq2 cq3)
      cases ze with
      | false =>
        simp only [ef]
        (generalize cq0 : Frm.ds = cy0, cq1 : Nms = cy1, cq2 : Tm.ds = cy2, cq3 : opI = cy3; cbv <;> subst cq0 cq1 cq2 cq3)
        rw [hsp]
        rfl
      | true =>
        simp only [et]
        (generalize cq0 : Frm.ds = cy0, cq1 : Nms = cy1, cq2 : Tm.ds = cy2, cq3 : opI = cy3; cbv <;> subst cq0 cq1 cq2 cq3)
        refine ⟨by subst hp; simp [std, Frm.ds_len]; omega, (d ++ [.mk o2 nm2 us2 fs2], r), ⟨hes2, hap2⟩, by simp, ?_, rfl⟩
        generalize hd' : d ++ [Frm.mk o2 nm2 us2 fs2] = d'
        (generalize cq0 : Frm.ds = cy0, cq1 : Nms = cy1, cq2 : Tm.ds = cy2, cq3 : opI = cy3; cbv <;> subst cq0 cq1 cq2 cq3)
        subst hp hd'
        simp [std, Frm.ds_len]
  | true =>
    obtain ⟨T2, hT2⟩ : ∃ T2, T ++ [n] = T2 := ⟨_, rfl⟩
    rw [hT2] at hsp
    refine pure_by has29 ?_
    generalize hp : std = p
    have ev : p.eq (opI o) 8 = true ∨ p.eq (opI o) 8 = false ∧ p.eq (opI o) 9 = true := by
      subst hp
      cases h8 : std.eq (opI o) 8 with
      | true => exact .inl rfl
      | false => rw [h8, Bool.false_or] at hq'; exact .inr ⟨rfl, hq'⟩
    have d1 : p.dcat [] (Nms T) = Nms T := by subst hp; rfl
    have d2 : p.dcat (Nms T) [.str n] = Nms T2 := by subst hp hT2; simp [std, Nms]
    have r1 : p.room [] (Nms T) := by subst hp; simp [std, Nms_len]; omega
    have r2 : p.room (Nms T) [.str n] := by subst hp; simp [std, Nms_len]; omega
    (generalize cq0 : Frm.ds = cy0, cq1 : Nms = cy1, cq2 : Tm.ds = cy2, cq3 : opI = cy3; cbv <;> subst cq0 cq1 cq2 cq3)
    rcases ev with e8 | ⟨e8, e9⟩
    · simp only [e8]
      (generalize cq0 : Frm.ds = cy0, cq1 : Nms = cy1, cq2 : Tm.ds = cy2, cq3 : opI = cy3; cbv <;> subst cq0 cq1 cq2 cq3)
      refine callA.pure h1 rfl ?_
      (generalize cq0 : Frm.ds = cy0, cq1 : Nms = cy1, cq2 : Tm.ds = cy2, cq3 : opI = cy3; cbv <;> subst cq0 cq1 cq2 cq3)
      cases b with
      | true => (generalize cq0 : Frm.ds = cy0, cq1 : Nms = cy1, cq2 : Tm.ds = cy2, cq3 : opI = cy3; cbv <;> subst cq0 cq1 cq2 cq3); rw [hsp]; rfl
      | false =>
      (generalize cq0 : Frm.ds = cy0, cq1 : Nms = cy1, cq2 : Tm.ds = cy2, cq3 : opI = cy3; cbv <;> subst cq0 cq1 cq2 cq3)
      simp only [d1, d2]
      refine ⟨r1, r2, ?_⟩
      (generalize cq0 : Frm.ds = cy0, cq1 : Nms = cy1, cq2 : Tm.ds = cy2, cq3 : opI = cy3; cbv <;> subst cq0 cq1 cq2 cq3)
      subst hp
      refine loopA_inv (ι := List Frm × List Frm) (fun j => fs = j.1 ++ j.2 ∧ apartB.aparts j.1 T2 = true) (fun j => j.2.length)
        (fun j => mkF 40 [(1, .own 1899 1 (Nms T2) .unk), (2, .ptr 0 0), (4, .d .top (.bool false)), (5, .d .top (.int .i64 (std.dlen (Frm.ds j.1))))])
        (fun j => [.bx [.d .old (.int .u8 (opI o)), .d .old (.str n), .d .old (.row 3 (Tm.ds us)), .d .old (.row 4 (Frm.ds fs))]]) (fun j => ()) ([], fs) ⟨rfl, by rw [apartB.aparts]⟩ ?_ rfl (fun _ => rfl) ?_
      · generalize hp : std = p
        (generalize cq0 : Frm.ds = cy0, cq1 : Nms = cy1, cq2 : Tm.ds = cy2, cq3 : opI = cy3; cbv <;> subst cq0 cq1 cq2 cq3)
        subst hp
        simp [std, Frm.ds]
      rintro ⟨d, r⟩ ⟨hes, hd⟩
      simp only at hes hd ⊢
      cases r with
      | nil =>
        rw [List.append_nil] at hes
        subst hes
        rw [hd] at hsp
        generalize hp : std = p
        (generalize cq0 : Frm.ds = cy0, cq1 : Nms = cy1, cq2 : Tm.ds = cy2, cq3 : opI = cy3; cbv <;> subst cq0 cq1 cq2 cq3)
        simp only [end_ltF hp]
        (generalize cq0 : Frm.ds = cy0, cq1 : Nms = cy1, cq2 : Tm.ds = cy2, cq3 : opI = cy3; cbv <;> subst cq0 cq1 cq2 cq3)
        rw [hsp]
        rfl
      | cons e r =>
        have hm : e ∈ fs := by rw [hes]; simp
        have hih := hall T2 (by rw [← hT2]; simp) e hm
        have hes2 : fs = (d ++ [e]) ++ r := by rw [hes]; simp
        have hap : apartB.aparts fs T2 = (apartB e T2 && apartB.aparts r T2) := by rw [hes, aparts_app, hd, Bool.true_and, apartB.aparts]
        have hap2 : apartB.aparts (d ++ [e]) T2 = apartB e T2 := by rw [aparts_app, hd, Bool.true_and, apartB.aparts, apartB.aparts, Bool.and_true]
        rw [hap] at hsp
        generalize apartB.aparts r T2 = zr at *
        generalize apartB e T2 = ze at *
        have hdl : d.length + (r.length + 1) = fs.length := by rw [hes]; simp
        obtain ⟨o2, nm2, us2, fs2⟩ := e
        simp only [Frm.d] at hih
        generalize hp : std = p
        have et : p.not true = false := not_t hp
        have ef : p.not false = true := not_f hp
        (generalize cq0 : Frm.ds = cy0, cq1 : Nms = cy1, cq2 : Tm.ds = cy2, cq3 : opI = cy3; cbv <;> subst cq0 cq1 cq2 cq3)
        simp only [at_ltF hp hes]
        (generalize cq0 : Frm.ds = cy0, cq1 : Nms = cy1, cq2 : Tm.ds = cy2, cq3 : opI = cy3; cbv <;> subst cq0 cq1 cq2 cq3)
        refine ⟨_, at_getF hp hes, ?_⟩
        (generalize cq0 : Frm.ds = cy0, cq1 : Nms = cy1, cq2 : Tm.ds = cy2, cq3 : opI = cy3; cbv <;> subst cq0 cq1 cq2 cq3)
        refine callA.pure hih rfl ?_
        (generalize cq0 : Frm.ds = cy0, cq1 : Nms = cy1, cq2 : Tm.ds = cy2, cq3 : opI = cy3; cbv <;> subst cq0 cq1 cq2 cq3)
        cases ze with
        | false =>
          simp only [ef]
          (generalize cq0 : Frm.ds = cy0, cq1 : Nms = cy1, cq2 : Tm.ds = cy2, cq3 : opI = cy3; cbv <;> subst cq0 cq1 cq2 cq3)
          rw [hsp]
          rfl
        | true =>
          simp only [et]
          (generalize cq0 : Frm.ds = cy0, cq1 : Nms = cy1, cq2 : Tm.ds = cy2, cq3 : opI = cy3; cbv <;> subst cq0 cq1 cq2 cq3)
          refine ⟨by subst hp; simp [std, Frm.ds_len]; omega, (d ++ [.mk o2 nm2 us2 fs2], r), ⟨hes2, hap2⟩, by simp, ?_, rfl⟩
          generalize hd' : d ++ [Frm.mk o2 nm2 us2 fs2] = d'
          (generalize cq0 : Frm.ds = cy0, cq1 : Nms = cy1, cq2 : Tm.ds = cy2, cq3 : opI = cy3; cbv <;> subst cq0 cq1 cq2 cq3)
          subst hp hd'
          simp [std, Frm.ds_len]
    · simp only [e8]
      (generalize cq0 : Frm.ds = cy0, cq1 : Nms = cy1, cq2 : Tm.ds = cy2, cq3 : opI = cy3; cbv <;> subst cq0 cq1 cq2 cq3)
      simp only [e9]
      (generalize cq0 : Frm.ds = cy0, cq1 : Nms = cy1, cq2 : Tm.ds = cy2, cq3 : opI = cy3; cbv <;> subst cq0 cq1 cq2 cq3)
      refine callA.pure h1 rfl ?_
      (generalize cq0 : Frm.ds = cy0, cq1 : Nms = cy1, cq2 : Tm.ds = cy2, cq3 : opI = cy3; cbv <;> subst cq0 cq1 cq2 cq3)
      cases b with
      | true => (generalize cq0 : Frm.ds = cy0, cq1 : Nms = cy1, cq2 : Tm.ds = cy2, cq3 : opI = cy3; cbv <;> subst cq0 cq1 cq2 cq3); rw [hsp]; rfl
      | false =>
      (generalize cq0 : Frm.ds = cy0, cq1 : Nms = cy1, cq2 : Tm.ds = cy2, cq3 : opI = cy3; cbv <;> subst cq0 cq1 cq2 cq3)
      simp only [d1, d2]
      refine ⟨r1, r2, ?_⟩
      (generalize cq0 : Frm.ds = cy0, cq1 : Nms = cy1, cq2 : Tm.ds = cy2, cq3 : opI = cy3; cbv <;> subst cq0 cq1 cq2 cq3)
      subst hp
      refine loopA_inv (ι := List Frm × List Frm) (fun j => fs = j.1 ++ j.2 ∧ apartB.aparts j.1 T2 = true) (fun j => j.2.length)
        (fun j => mkF 40 [(1, .own 1899 1 (Nms T2) .unk), (2, .ptr 0 0), (4, .d .top (.bool false)), (5, .d .top (.int .i64 (std.dlen (Frm.ds j.1))))])
        (fun j => [.bx [.d .old (.int .u8 (opI o)), .d .old (.str n), .d .old (.row 3 (Tm.ds us)), .d .old (.row 4 (Frm.ds fs))]]) (fun j => ()) ([], fs) ⟨rfl, by rw [apartB.aparts]⟩ ?_ rfl (fun _ => rfl) ?_
      · generalize hp : std = p
        (generalize cq0 : Frm.ds = cy0, cq1 : Nms = cy1, cq2 : Tm.ds = cy2, cq3 : opI = cy3; cbv <;> subst cq0 cq1 cq2 cq3)
        subst hp
        simp [std, Frm.ds]
      rintro ⟨d, r⟩ ⟨hes, hd⟩
      simp only at hes hd ⊢
      cases r with
      | nil =>
        rw [List.append_nil] at hes
        subst hes
        rw [hd] at hsp
        generalize hp : std = p
        (generalize cq0 : Frm.ds = cy0, cq1 : Nms = cy1, cq2 : Tm.ds = cy2, cq3 : opI = cy3; cbv <;> subst cq0 cq1 cq2 cq3)
        simp only [end_ltF hp]
        (generalize cq0 : Frm.ds = cy0, cq1 : Nms = cy1, cq2 : Tm.ds = cy2, cq3 : opI = cy3; cbv <;> subst cq0 cq1 cq2 cq3)
        rw [hsp]
        rfl
      | cons e r =>
        have hm : e ∈ fs := by rw [hes]; simp
        have hih := hall T2 (by rw [← hT2]; simp) e hm
        have hes2 : fs = (d ++ [e]) ++ r := by rw [hes]; simp
        have hap : apartB.aparts fs T2 = (apartB e T2 && apartB.aparts r T2) := by rw [hes, aparts_app, hd, Bool.true_and, apartB.aparts]
        have hap2 : apartB.aparts (d ++ [e]) T2 = apartB e T2 := by rw [aparts_app, hd, Bool.true_and, apartB.aparts, apartB.aparts, Bool.and_true]
        rw [hap] at hsp
        generalize apartB.aparts r T2 = zr at *
        generalize apartB e T2 = ze at *
        have hdl : d.length + (r.length + 1) = fs.length := by rw [hes]; simp
        obtain ⟨o2, nm2, us2, fs2⟩ := e
        simp only [Frm.d] at hih
        generalize hp : std = p
        have et : p.not true = false := not_t hp
        have ef : p.not false = true := not_f hp
        (generalize cq0 : Frm.ds = cy0, cq1 : Nms = cy1, cq2 : Tm.ds = cy2, cq3 : opI = cy3; cbv <;> subst cq0 cq1 cq2 cq3)
        simp only [at_ltF hp hes]
        (generalize cq0 : Frm.ds = cy0, cq1 : Nms = cy1, cq2 : Tm.ds = cy2, cq3 : opI = cy3; cbv <;> subst cq0 cq1 cq2 cq3)
        refine ⟨_, at_getF hp hes, ?_⟩
        (generalize cq0 : Frm.ds = cy0, cq1 : Nms = cy1, cq2 : Tm.ds = cy2, cq3 : opI = cy3; cbv <;> subst cq0 cq1 cq2 cq3)
        refine callA.pure hih rfl ?_
        (generalize cq0 : Frm.ds = cy0, cq1 : Nms = cy1, cq2 : Tm.ds = cy2, cq3 : opI = cy3; cbv <;> subst cq0 cq1 cq2 cq3)
        cases ze with
        | false =>
          simp only [ef]
          (generalize cq0 : Frm.ds = cy0, cq1 : Nms = cy1, cq2 : Tm.ds = cy2, cq3 : opI = cy3; cbv <;> subst cq0 cq1 cq2 cq3)
          rw [hsp]
          rfl
        | true =>
          simp only [et]
          (generalize cq0 : Frm.ds = cy0, cq1 : Nms = cy1, cq2 : Tm.ds = cy2, cq3 : opI = cy3; cbv <;> subst cq0 cq1 cq2 cq3)
          refine ⟨by subst hp; simp [std, Frm.ds_len]; omega, (d ++ [.mk o2 nm2 us2 fs2], r), ⟨hes2, hap2⟩, by simp, ?_, rfl⟩
          generalize hd' : d ++ [Frm.mk o2 nm2 us2 fs2] = d'
          (generalize cq0 : Frm.ds = cy0, cq1 : Nms = cy1, cq2 : Tm.ds = cy2, cq3 : opI = cy3; cbv <;> subst cq0 cq1 cq2 cq3)
          subst hp hd'
          simp [std, Frm.ds_len]
end Go.Ly.Tr
end
section
namespace Go.Ly.Tr
set_option maxRecDepth 20000
theorem SubstNormals_ok (f g : Frm) (hfg : f.wt + g.wt ≤ 1900000) : Pure E 6 [.d .old f.d, .d .old g.d] (.d .top (.bool true)) := by
  have hsm := Small_ok [f, g] (by simp only [Frm.wts]; omega)
  have hs1 : smallB [f, g] = true → f.size ≤ 500 ∧ g.size ≤ 500 := fun h => by
    have := small_wts h
    have h1 := Frm.size_wt f
    have h2 := Frm.size_wt g
    simp only [Frm.wts] at this
    omega
  have hrf : smallB [f, g] = true → Pure E 17 [.d .old f.d] (.d .top (.bool f.right)) := fun h => right_ok f (by have := hs1 h; omega)
  have hrg : smallB [f, g] = true → Pure E 17 [.d .old g.d] (.d .top (.bool g.right)) := fun h => right_ok g (by have := hs1 h; omega)
  obtain ⟨b1, hb1⟩ : ∃ b, smallB [f, g] = b := ⟨_, rfl⟩
  obtain ⟨b3, hb3⟩ : ∃ b, f.right = b := ⟨_, rfl⟩
  obtain ⟨b4, hb4⟩ : ∃ b, g.right = b := ⟨_, rfl⟩
  rw [hb1] at hsm hs1 hrf hrg
  rw [hb3] at hrf
  rw [hb4] at hrg
  by_cases hall : b1 = true ∧ b3 = true ∧ b4 = true
  · obtain ⟨rfl, rfl, rfl⟩ := hall
    have hsz := hs1 rfl
    have hfk := (right_iff.1 hb3).2.2
    have hgk := (right_iff.1 hb4).2.2
    have hnr := nrm_right hb3
    have hmr := nrm_right hb4
    have hnk := (right_iff.1 hnr).2.2
    have hns := (right_iff.1 hnr).1
    have hms := (right_iff.1 hmr).1
    have h1 := Normal_ok f (by omega)
    rw [normS_right hb3] at h1
    have h2 := Normal_ok g (by omega)
    rw [normS_right hb4] at h2
    have h3 := Normal_ok (nrm f) (by omega)
    rw [normS_right hnr, nrm_nrm hfk hnk] at h3
    have h4 := Free_ok f (by omega)
    have h5 := same_ok (nrm f) (by omega) (nrm f)
    rw [same_refl] at h5
    have h6 := Free_ok (nrm f) (by omega)
    rw [nrm_frees hfk] at h6
    have hfl := frees_len f
    have hsl := set_len f.frees
    have h7 := SameNames_ok (setN f.frees) (setN f.frees) (by omega)
    rw [sameN_eq.2 rfl] at h7
    have h8 := apart_ok (nrm f) (setN f.frees) (by omega) (by omega)
    rw [show apartB (nrm f) (setN f.frees) = true from norm_apart f _ _] at h8
    have h9 := right_ok (nrm f) (by omega)
    rw [hnr] at h9
    have h10 := nodes_ok (nrm f) (by omega)
    rw [nrm_size hfk] at h10
    have h11 := nodes_ok f (by omega)
    have h12 := same_ok (nrm f) (by omega) (nrm g)
    have h13 := Alpha_ok f g (by omega) (by omega)
    rw [alpha_nrm hb3 hb4] at h13
    have h14 := Alpha_ok g f (by omega) (by omega)
    rw [alpha_nrm hb4 hb3, same_comm] at h14
    have h15 := Alpha_ok f f (by omega) (by omega)
    rw [alpha_nrm hb3 hb3, same_refl] at h15
    have h16 := Alpha_ok (nrm f) g (by omega) (by omega)
    rw [alpha_nrm hnr hb4, nrm_nrm hfk hnk] at h16
    have hr1 := hrf rfl
    have hr2 := hrg rfl
    clear hrf hrg hs1 hb1 hb3 hb4 hnr hmr hns hms hnk hfk hgk hfl hsl hfg
    generalize (nrm f).same (nrm g) = S at *
    generalize setN f.frees = fr at *
    generalize f.size = fz at *
    generalize nrm f = N at *
    generalize nrm g = M at *
    obtain ⟨o, n, us, fs⟩ := f
    obtain ⟨o', n', us', fs'⟩ := g
    obtain ⟨n1, n2, n3, n4⟩ := N
    obtain ⟨m1, m2, m3, m4⟩ := M
    simp only [Frm.d, show natI 0 = 0 from rfl] at *
    refine pure_by has6 ?_
    generalize hp : std = p
    have et : p.not true = false := not_t hp
    have ef : p.not false = true := not_f hp
    have e0 : p.eq 0 0 = true := by subst hp; rfl
    have ez : p.eq (natI fz) (natI fz) = true := by subst hp; simp [std]
    have eS : p.beq S S = true := by subst hp; simp [std]
    (generalize cq0 : Frm.ds = cy0, cq1 : Tm.ds = cy1, cq2 : opI = cy2; cbv <;> subst cq0 cq1 cq2)
    refine callA.pure awake_ok rfl ?_
    (generalize cq0 : Frm.ds = cy0, cq1 : Tm.ds = cy1, cq2 : opI = cy2; cbv <;> subst cq0 cq1 cq2)
    simp only [et]
    (generalize cq0 : Frm.ds = cy0, cq1 : Tm.ds = cy1, cq2 : opI = cy2; cbv <;> subst cq0 cq1 cq2)
    refine callA.pure hsm rfl ?_
    (generalize cq0 : Frm.ds = cy0, cq1 : Tm.ds = cy1, cq2 : opI = cy2; cbv <;> subst cq0 cq1 cq2)
    simp only [et]
    (generalize cq0 : Frm.ds = cy0, cq1 : Tm.ds = cy1, cq2 : opI = cy2; cbv <;> subst cq0 cq1 cq2)
    refine callA.pure hr1 rfl ?_
    (generalize cq0 : Frm.ds = cy0, cq1 : Tm.ds = cy1, cq2 : opI = cy2; cbv <;> subst cq0 cq1 cq2)
    simp only [et]
    (generalize cq0 : Frm.ds = cy0, cq1 : Tm.ds = cy1, cq2 : opI = cy2; cbv <;> subst cq0 cq1 cq2)
    refine callA.pure hr2 rfl ?_
    (generalize cq0 : Frm.ds = cy0, cq1 : Tm.ds = cy1, cq2 : opI = cy2; cbv <;> subst cq0 cq1 cq2)
    simp only [et]
    (generalize cq0 : Frm.ds = cy0, cq1 : Tm.ds = cy1, cq2 : opI = cy2; cbv <;> subst cq0 cq1 cq2)
    refine callA.pure h1 rfl ?_
    (generalize cq0 : Frm.ds = cy0, cq1 : Tm.ds = cy1, cq2 : opI = cy2; cbv <;> subst cq0 cq1 cq2)
    refine callA.pure h2 rfl ?_
    (generalize cq0 : Frm.ds = cy0, cq1 : Tm.ds = cy1, cq2 : opI = cy2; cbv <;> subst cq0 cq1 cq2)
    refine callA.pure h3 rfl ?_
    (generalize cq0 : Frm.ds = cy0, cq1 : Tm.ds = cy1, cq2 : opI = cy2; cbv <;> subst cq0 cq1 cq2)
    refine callA.pure h4 rfl ?_
    (generalize cq0 : Frm.ds = cy0, cq1 : Nms = cy1, cq2 : Tm.ds = cy2, cq3 : opI = cy3; cbv <;> subst cq0 cq1 cq2 cq3)
    simp only [e0, et]
    (generalize cq0 : Frm.ds = cy0, cq1 : Nms = cy1, cq2 : Tm.ds = cy2, cq3 : opI = cy3; cbv <;> subst cq0 cq1 cq2 cq3)
    simp only [e0, et]
    (generalize cq0 : Frm.ds = cy0, cq1 : Nms = cy1, cq2 : Tm.ds = cy2, cq3 : opI = cy3; cbv <;> subst cq0 cq1 cq2 cq3)
    simp only [e0, et]
    (generalize cq0 : Frm.ds = cy0, cq1 : Nms = cy1, cq2 : Tm.ds = cy2, cq3 : opI = cy3; cbv <;> subst cq0 cq1 cq2 cq3)
    refine drawA.mk _ ⟨_, _, _, rfl, h5, rfl, rfl⟩ ?_
    (generalize cq0 : Frm.ds = cy0, cq1 : Nms = cy1, cq2 : Tm.ds = cy2, cq3 : opI = cy3; cbv <;> subst cq0 cq1 cq2 cq3)
    simp only [et]
    (generalize cq0 : Frm.ds = cy0, cq1 : Nms = cy1, cq2 : Tm.ds = cy2, cq3 : opI = cy3; cbv <;> subst cq0 cq1 cq2 cq3)
    refine drawA.mk _ ⟨_, _, _, rfl, h6, rfl, rfl⟩ ?_
    (generalize cq0 : Frm.ds = cy0, cq1 : Nms = cy1, cq2 : Tm.ds = cy2, cq3 : opI = cy3; cbv <;> subst cq0 cq1 cq2 cq3)
    refine drawA.mk _ ⟨_, _, _, rfl, h7, rfl, rfl⟩ ?_
    (generalize cq0 : Frm.ds = cy0, cq1 : Nms = cy1, cq2 : Tm.ds = cy2, cq3 : opI = cy3; cbv <;> subst cq0 cq1 cq2 cq3)
    simp only [et]
    (generalize cq0 : Frm.ds = cy0, cq1 : Nms = cy1, cq2 : Tm.ds = cy2, cq3 : opI = cy3; cbv <;> subst cq0 cq1 cq2 cq3)
    refine drawA.mk _ ⟨_, _, _, rfl, h8, rfl, rfl⟩ ?_
    (generalize cq0 : Frm.ds = cy0, cq1 : Nms = cy1, cq2 : Tm.ds = cy2, cq3 : opI = cy3; cbv <;> subst cq0 cq1 cq2 cq3)
    simp only [et]
    (generalize cq0 : Frm.ds = cy0, cq1 : Nms = cy1, cq2 : Tm.ds = cy2, cq3 : opI = cy3; cbv <;> subst cq0 cq1 cq2 cq3)
    refine drawA.mk _ ⟨_, _, _, rfl, h9, rfl, rfl⟩ ?_
    (generalize cq0 : Frm.ds = cy0, cq1 : Nms = cy1, cq2 : Tm.ds = cy2, cq3 : opI = cy3; cbv <;> subst cq0 cq1 cq2 cq3)
    simp only [et]
    (generalize cq0 : Frm.ds = cy0, cq1 : Nms = cy1, cq2 : Tm.ds = cy2, cq3 : opI = cy3; cbv <;> subst cq0 cq1 cq2 cq3)
    refine drawA.mk _ ⟨_, _, _, rfl, h10, rfl, rfl⟩ ?_
    (generalize cq0 : Frm.ds = cy0, cq1 : Nms = cy1, cq2 : Tm.ds = cy2, cq3 : natI = cy3, cq4 : opI = cy4; cbv <;> subst cq0 cq1 cq2 cq3 cq4)
    refine drawA.mk _ ⟨_, _, _, rfl, h11, rfl, rfl⟩ ?_
    (generalize cq0 : Frm.ds = cy0, cq1 : Nms = cy1, cq2 : Tm.ds = cy2, cq3 : natI = cy3, cq4 : opI = cy4; cbv <;> subst cq0 cq1 cq2 cq3 cq4)
    simp only [ez, et]
    (generalize cq0 : Frm.ds = cy0, cq1 : Nms = cy1, cq2 : Tm.ds = cy2, cq3 : natI = cy3, cq4 : opI = cy4; cbv <;> subst cq0 cq1 cq2 cq3 cq4)
    refine callA.pure h12 rfl ?_
    (generalize cq0 : Frm.ds = cy0, cq1 : Nms = cy1, cq2 : Tm.ds = cy2, cq3 : natI = cy3, cq4 : opI = cy4; cbv <;> subst cq0 cq1 cq2 cq3 cq4)
    refine callA.pure h13 rfl ?_
    (generalize cq0 : Frm.ds = cy0, cq1 : Nms = cy1, cq2 : Tm.ds = cy2, cq3 : natI = cy3, cq4 : opI = cy4; cbv <;> subst cq0 cq1 cq2 cq3 cq4)
    simp only [eS]
    (generalize cq0 : Frm.ds = cy0, cq1 : Nms = cy1, cq2 : Tm.ds = cy2, cq3 : natI = cy3, cq4 : opI = cy4; cbv <;> subst cq0 cq1 cq2 cq3 cq4)
    refine callA.pure h14 rfl ?_
    (generalize cq0 : Frm.ds = cy0, cq1 : Nms = cy1, cq2 : Tm.ds = cy2, cq3 : natI = cy3, cq4 : opI = cy4; cbv <;> subst cq0 cq1 cq2 cq3 cq4)
    simp only [eS]
    (generalize cq0 : Frm.ds = cy0, cq1 : Nms = cy1, cq2 : Tm.ds = cy2, cq3 : natI = cy3, cq4 : opI = cy4; cbv <;> subst cq0 cq1 cq2 cq3 cq4)
    refine callA.pure h15 rfl ?_
    (generalize cq0 : Frm.ds = cy0, cq1 : Nms = cy1, cq2 : Tm.ds = cy2, cq3 : natI = cy3, cq4 : opI = cy4; cbv <;> subst cq0 cq1 cq2 cq3 cq4)
    refine callA.pure h16 rfl ?_
    (generalize cq0 : Frm.ds = cy0, cq1 : Nms = cy1, cq2 : Tm.ds = cy2, cq3 : natI = cy3, cq4 : opI = cy4; cbv <;> subst cq0 cq1 cq2 cq3 cq4)
    simp only [eS]
  · obtain ⟨o, n, us, fs⟩ := f
    obtain ⟨o', n', us', fs'⟩ := g
    simp only [Frm.d] at *
    refine pure_by has6 ?_
    generalize hp : std = p
    have et : p.not true = false := not_t hp
    have ef : p.not false = true := not_f hp
    (generalize cq0 : Frm.ds = cy0, cq1 : Tm.ds = cy1, cq2 : opI = cy2; cbv <;> subst cq0 cq1 cq2)
    refine callA.pure awake_ok rfl ?_
    (generalize cq0 : Frm.ds = cy0, cq1 : Tm.ds = cy1, cq2 : opI = cy2; cbv <;> subst cq0 cq1 cq2)
    simp only [et]
    (generalize cq0 : Frm.ds = cy0, cq1 : Tm.ds = cy1, cq2 : opI = cy2; cbv <;> subst cq0 cq1 cq2)
    refine callA.pure hsm rfl ?_
    (generalize cq0 : Frm.ds = cy0, cq1 : Tm.ds = cy1, cq2 : opI = cy2; cbv <;> subst cq0 cq1 cq2)
    cases b1 with
    | false => simp only [ef]; (generalize cq0 : Frm.ds = cy0, cq1 : Tm.ds = cy1, cq2 : opI = cy2; cbv <;> subst cq0 cq1 cq2)
    | true =>
    simp only [et]
    (generalize cq0 : Frm.ds = cy0, cq1 : Tm.ds = cy1, cq2 : opI = cy2; cbv <;> subst cq0 cq1 cq2)
    refine callA.pure (hrf rfl) rfl ?_
    (generalize cq0 : Frm.ds = cy0, cq1 : Tm.ds = cy1, cq2 : opI = cy2; cbv <;> subst cq0 cq1 cq2)
    cases b3 with
    | false => simp only [ef]; (generalize cq0 : Frm.ds = cy0, cq1 : Tm.ds = cy1, cq2 : opI = cy2; cbv <;> subst cq0 cq1 cq2)
    | true =>
    simp only [et]
    (generalize cq0 : Frm.ds = cy0, cq1 : Tm.ds = cy1, cq2 : opI = cy2; cbv <;> subst cq0 cq1 cq2)
    refine callA.pure (hrg rfl) rfl ?_
    (generalize cq0 : Frm.ds = cy0, cq1 : Tm.ds = cy1, cq2 : opI = cy2; cbv <;> subst cq0 cq1 cq2)
    cases b4 with
    | false => simp only [ef]; (generalize cq0 : Frm.ds = cy0, cq1 : Tm.ds = cy1, cq2 : opI = cy2; cbv <;> subst cq0 cq1 cq2)
    | true => exact absurd ⟨rfl, rfl, rfl⟩ hall
end Go.Ly.Tr
end
section
namespace Go.Proofs.YthihgffbljnbcaaGreatDoor.substNormals
open Go Go.Ly Go.Ly.Tr Go.ChangeShapes Go.WideShapes Go.ChangeAt Go.RowKit
set_option maxRecDepth 100000
theorem law (xs : List D) (h : ArgsFit E.P [25, 25] xs) (hb : bulkDs xs ≤ 1048576) : Ly.Pure E 6 (xs.map oldD1) (.d .top (.bool true)) := by
  obtain ⟨f1, r, rfl, w1, k1⟩ := args_frm h
  obtain ⟨f2, r, rfl, w2, k2⟩ := args_frm k1
  obtain rfl := args_nil k2
  simp only [bulkDs] at hb
  exact SubstNormals_ok f1 f2 (by omega)
theorem contract (H : Type) (enc : TypeId × Value → H) (W : World) (base : Nat) (args : Array Value) (ds gs : List (DataW H)) (before : List MemPlace)
    (hval : ∀ (j : Nat) t v, Tryz.f6.params[j]? = some t → args[j]? = some v → Value.okWide Tryz.prog W .any base t v)
    (hW : DataW.Whole enc Tryz.prog Tryz.f6.params.toList Rows.substNormalsSpec.vars false W args.toList ds gs before) (hk : Rows.uptoSmall H (ds ++ gs) = true) (hL : laidMetH Tryz.prog Rows.substNormalsUptoRow.laid W) :
    Calls Tryz.prog 6 args W fun e W' => ∃ v, e = .returned v ∧ Rows.substNormalsSpec.post enc Tryz.prog Tryz.f6 false true false false W args v W' := by
  have hg := glob (W := W) hL
  refine law_callsb (E := E) (k := 6) (Ts := Ts) (tb := 4) okTs_all (by rw [Tryz.params6]; decide) rfl (by kernel_rfl) u4 ?_ ?_ hval hW (bulk_of hk) hg.1 hg.2
  · intro ds h
    rw [Tryz.params6] at h
    match ds, h with
    | [a, b], _ => rfl
  · rw [Tryz.params6]
    exact law
theorem reads (os : Os) {H : Type} (enc : TypeId × Value → H) : ∃ places, DataW.whole enc Tryz.prog ((laidWorld os).forCall (fun _ _ => 0) ⟨#[], #[.agg #[.int .u8 0, .string ⟨#[]⟩, .slice none 0 0, .slice none 0 0], .agg #[.int .u8 0, .string ⟨#[]⟩, .slice none 0 0, .slice none 0 0]], []⟩).memory Tryz.f6.params.toList Rows.substNormalsSpec.vars false (#[.agg #[.int .u8 0, .string ⟨#[]⟩, .slice none 0 0, .slice none 0 0], .agg #[.int .u8 0, .string ⟨#[]⟩, .slice none 0 0, .slice none 0 0]] : Array Value).toList 8 = some ([.agg [.lit (.int .u8 0), .lit (.string []), .nil, .nil], .agg [.lit (.int .u8 0), .lit (.string []), .nil, .nil]], [], places) :=
  ⟨[], by kernel_rfl⟩
theorem lifted (os : Os) (started : os.Started) (H : Type) (enc : TypeId × Value → H) (F : Stop.Interp) :
    ReturnsInHanded {} Tryz.checked os 6 .any ((Rows.OpenSpec.upto Rows.substNormalsSpec).preRow enc Tryz.prog Tryz.f6 Rows.substNormalsUptoRow.domain false Rows.substNormalsUptoRow.laid) (((Rows.OpenSpec.upto Rows.substNormalsSpec).at F).post enc Tryz.prog Tryz.f6 false true false false) := by
  obtain ⟨places, hx⟩ := reads os enc
  refine returnsInHanded_of_row (C := Tryz.checked) (s := Rows.OpenSpec.upto Rows.substNormalsSpec) own started (by kernel_rfl) Tryz.func6
    (witness_row_at (enc := enc) (C := Tryz.checked) false (laidWorld os) #[.agg #[.int .u8 0, .string ⟨#[]⟩, .slice none 0 0, .slice none 0 0], .agg #[.int .u8 0, .string ⟨#[]⟩, .slice none 0 0, .slice none 0 0]] rfl (by kernel_rfl) (by kernel_rfl) (by kernel_rfl)
      (OpenSpec.preRow_of_cond 8 hx (by kernel_rfl) (fun k hk => by cases hk; kernel_rfl) (by kernel_rfl) (laid_met os _))) ?_
  intro W base args ds gs before hval hW _ hk _ hL _ _
  exact contract H enc W base args ds gs before hval hW (hk _ rfl) hL
theorem said : Rows.SubstNormalsUptoSaid :=
  OpenClaim.holds_of_cond 6 Tryz.f6 rfl rfl rfl rfl rfl rfl rfl ⟨rfl, rfl, rfl, rfl, rfl⟩ rfl rfl rfl rfl rfl (by kernel_rfl) Tryz.func6 (by kernel_rfl)
    (of_decide_eq_true (by kernel_rfl)) (by unfold Func.isWrapper; first | (rw [if_pos (by decide +kernel)]; kernel_rfl) | (rw [if_neg (by decide +kernel)]; exact ⟨rfl, rfl⟩))
    (fun os started H enc _ F => by rw [OpenClaim.pre_eq_preRow]; exact lifted os started H enc F)
theorem stands (t : TypeId) (ht : t ∈ [25, 25]) : Tryz.prog.wantsStandIn t = false := by
  have h := List.all_eq_true.1 (show ([25, 25].all fun t => !Tryz.prog.wantsStandIn t) = true by kernel_rfl) t ht
  simpa using h
theorem plain (f : FuncId) (fn : Func) (hf : Tryz.pinned.checked.prog.funcNamed "lyceum/lyceumlaw03.SubstNormals" = some f) (hfn : Tryz.pinned.checked.prog.funcs[f]? = some fn) :
    false = Tryz.pinned.checked.prog.looks [] ∧ ∀ (j : Nat) t, fn.params[j]? = some t → Tryz.pinned.checked.prog.wantsStandIn t = false := by
  obtain rfl : f = 6 := Option.some.inj ((show Tryz.prog.funcNamed "lyceum/lyceumlaw03.SubstNormals" = some 6 by kernel_rfl).symm.trans hf) |>.symm
  obtain rfl : fn = Tryz.f6 := (Option.some.inj (Tryz.func6.symm.trans hfn)).symm
  refine ⟨by kernel_rfl, fun j t ht => ?_⟩
  rw [Tryz.params6] at ht
  have hm : t ∈ [25, 25] := by simpa using Array.mem_of_getElem? ht
  exact stands t hm
theorem card : Rows.SubstNormalsUptoCardSaid :=
  Claim7.holds_tied_plain_at .later [] _ _ _ _ said (fun _ h => by cases h) (by kernel_rfl) (fun _ h => by cases h) substNormalsUpto_row_tie rfl ⟨rfl, rfl⟩ (by kernel_rfl) rfl plain (by kernel_rfl)
end Go.Proofs.YthihgffbljnbcaaGreatDoor.substNormals
end
