/- The statement SubstFreesUptoCardSaid holds: lyceumlaw03.SubstFrees returns true and leaves its arguments as they were; its condition is that what it reads is of bulk at most 1048576. -/
import Derived.Test.YthihgffbljnbcaaGreatDoorQ4
set_option linter.all false
section
namespace Go.Ly.Tr
def one (x : Nm) (d : DT) : Nm → Option DT := fun n => if x = n then some d else none
theorem sg_one (x : Nm) (t : Tm) : sg [(x, t)] = one x (t.db []) := by
  funext n
  unfold sg one
  by_cases h : x = n
  · simp [List.find?, h]
  · have : (x == n) = false := by simpa using h
    simp [List.find?, h, this]
mutual
def DT.vok : DT → Bool
  | .bnd _ us => us.isEmpty
  | .fre v _ us => (!v || us.isEmpty) && DT.voks us
def DT.voks : List DT → Bool
  | [] => true
  | t :: l => t.vok && DT.voks l
end
mutual
def DF.vok : DF → Bool
  | .mk _ _ us fs => DT.voks us && DF.voks fs
def DF.voks : List DF → Bool
  | [] => true
  | t :: l => t.vok && DF.voks l
end
theorem tms_vok {e : List Nm} : ∀ us : List Tm, (∀ a ∈ us, (a.db e).vok = true) → DT.voks (Tm.dbs e us) = true
  | [], _ => rfl
  | a :: us, h => by
    rw [Tm.dbs, DT.voks, Bool.and_eq_true]
    exact ⟨h a (by simp), tms_vok us fun b hb => h b (by simp [hb])⟩
theorem tm_vok (e : List Nm) (t : Tm) : t.ok = true → (t.db e).vok = true := by
  induction t using Tm.ind with
  | h v n us ih =>
  intro h
  cases v with
  | true =>
    obtain ⟨rfl, _⟩ := ok_var h
    rw [Vr_db]
    unfold dvar
    cases idxE e n <;> rfl
  | false =>
    have hk := (ok_fun h).2
    simp only [Tm.db, Bool.false_eq_true, if_false, DT.vok, Bool.not_false, Bool.true_or, Bool.true_and]
    exact tms_vok us fun a ha => ih a ha (oks_mem hk ha)
theorem frm_vok (f : Frm) : ∀ e : List Nm, f.ok = true → (f.db e).vok = true := by
  induction f using Frm.ind with
  | h o n us fs ih =>
  intro e h
  have hp := ok_parts h
  have h1 : DT.voks (Tm.dbs e us) = true := tms_vok us fun a ha => tm_vok e a (oks_mem hp.1 ha)
  have h2 : ∀ e : List Nm, DF.voks (Frm.dbs e fs) = true := by
    intro e
    have hk := hp.2
    clear h hp h1
    induction fs with
    | nil => rfl
    | cons a fs ihf =>
      rw [Frm.oks, Bool.and_eq_true] at hk
      rw [Frm.dbs, DF.voks, Bool.and_eq_true]
      exact ⟨ih a (by simp) e hk.1, ihf (fun b hb => ih b (by simp [hb])) hk.2⟩
  rw [Frm.db]
  cases isQ o <;> simp [DF.vok, h1, h2]
end Go.Ly.Tr
end
section
namespace Go.Ly.Tr
set_option maxRecDepth 20000
def cnt (l : List Nm) (s : Nm) : Nat := (l.filter (· == s)).length
theorem cnt_app (a b : List Nm) (s : Nm) : cnt (a ++ b) s = cnt a s + cnt b s := by simp [cnt]
theorem cnt_le (l : List Nm) (s : Nm) : cnt l s ≤ l.length := List.length_filter_le _ _
theorem cnt_zero {l : List Nm} {s : Nm} (h : s ∉ l) : cnt l s = 0 := by
  unfold cnt
  rw [List.length_eq_zero_iff, List.filter_eq_nil_iff]
  intro a ha e
  have : a = s := by simpa using e
  exact h (this ▸ ha)
theorem cnt_pos {l : List Nm} {s : Nm} : 0 < cnt l s ↔ s ∈ l := by
  constructor
  · intro h
    by_cases h' : s ∈ l
    · exact h'
    · rw [cnt_zero h'] at h; omega
  · intro h
    unfold cnt
    refine List.length_pos_of_mem (a := s) (List.mem_filter.2 ⟨h, by simp⟩)
theorem vars_cnt (v : Bool) (n s : Nm) (us : List Tm) : cnt (Tm.mk v n us).vars s = (if v && n == s then 1 else 0) + cnt (Tm.varss us) s := by
  rw [Tm.vars, cnt_app]
  cases v
  · simp [cnt]
  · by_cases h : n = s
    · simp [cnt, h]
    · have : (n == s) = false := by simpa using h
      simp [cnt, this]
theorem counts_ok (l : List Tm) (s : Nm) (hs : Tm.size.sizes l ≤ 1000000) : Pure E 74 [.d .old (.row 3 (Tm.ds l)), .d .old (.str s)] (.d .top (.int .i64 (natI (cnt (Tm.varss l) s)))) := by
  obtain ⟨n, hn⟩ : ∃ n, Tm.size.sizes l < n := ⟨_, Nat.lt_succ_self _⟩
  induction n generalizing l with
  | zero => omega
  | succ n ih =>
  have hlen := Tm.len_size l
  have hvl := varss_len l
  refine pure_by has74 ?_
  generalize hp : std = p
  (generalize cq0 : Tm.ds = cy0, cq1 : Tm.varss = cy1, cq2 : natI = cy2; cbv <;> subst cq0 cq1 cq2)
  subst hp
  refine loopA_inv (ι := List Tm × List Tm) (fun j => l = j.1 ++ j.2) (fun j => j.2.length)
    (fun j => mkF 39 [(0, .d .old (.row 3 (Tm.ds l))), (1, .d .old (.str s)), (4, .d .top (.int .i64 0)), (5, .d .top (.int .i64 (natI (cnt (Tm.varss j.1) s)))), (6, .d .top (.int .i64 (std.dlen (Tm.ds j.1))))])
    (fun j => []) (fun j => ()) ([], l) rfl ?_ rfl (fun _ => rfl) ?_
  · generalize hp : std = p
    (generalize cq0 : Tm.ds = cy0, cq1 : Tm.varss = cy1, cq2 : natI = cy2; cbv <;> subst cq0 cq1 cq2)
    subst hp
    simp [std, Tm.ds, Tm.varss, cnt, natI]
  · rintro ⟨d, r⟩ hes
    simp only at hes ⊢
    cases r with
    | nil =>
      rw [List.append_nil] at hes
      subst hes
      generalize hp : std = p
      (generalize cq0 : Tm.ds = cy0, cq1 : Tm.varss = cy1, cq2 : natI = cy2; cbv <;> subst cq0 cq1 cq2)
      simp only [end_ltT hp]
      (generalize cq0 : Tm.ds = cy0, cq1 : Tm.varss = cy1, cq2 : natI = cy2; cbv <;> subst cq0 cq1 cq2)
    | cons e r =>
      have hm : e ∈ l := by rw [hes]; simp
      have hse := Tm.size_mem hm
      have hdl : d.length + (r.length + 1) = l.length := by rw [hes]; simp
      have happ : ∀ a b : List Tm, Tm.varss (a ++ b) = Tm.varss a ++ Tm.varss b := fun a b => by
        induction a with
        | nil => rfl
        | cons x a iha => rw [List.cons_append, Tm.varss, Tm.varss, iha, List.append_assoc]
      have hcd : cnt (Tm.varss (d ++ [e])) s = cnt (Tm.varss d) s + cnt e.vars s := by
        rw [happ, cnt_app, Tm.varss, Tm.varss, List.append_nil]
      have hcl : cnt (Tm.varss l) s = cnt (Tm.varss d) s + (cnt e.vars s + cnt (Tm.varss r) s) := by
        rw [hes, happ, cnt_app, Tm.varss, cnt_app]
      have hcb := cnt_le (Tm.varss l) s
      obtain ⟨v, nm, us⟩ := e
      have hsz : (Tm.mk v nm us).size = Tm.size.sizes us + 1 := rfl
      have hih := ih us (by omega) (by omega)
      rw [vars_cnt] at hcd hcl
      obtain ⟨q, hq⟩ : ∃ q, (nm == s) = q := ⟨_, rfl⟩
      rw [hq] at hcd hcl
      obtain ⟨k1, hk1⟩ : ∃ k, cnt (Tm.varss (d ++ [.mk v nm us])) s = k := ⟨_, rfl⟩
      rw [hk1] at hcd
      generalize cnt (Tm.varss d) s = k0 at *
      generalize cnt (Tm.varss us) s = k2 at *
      generalize hp : std = p
      have hseq : p.seq nm s = q := by subst hp; exact hq
      (generalize cq0 : Tm.ds = cy0, cq1 : Tm.varss = cy1, cq2 : natI = cy2; cbv <;> subst cq0 cq1 cq2)
      simp only [at_ltT hp hes]
      (generalize cq0 : Tm.ds = cy0, cq1 : Tm.varss = cy1, cq2 : natI = cy2; cbv <;> subst cq0 cq1 cq2)
      have hget : p.dget (Tm.ds l) (p.dlen (Tm.ds d)) = some (.agg [.bool v, .str nm, .row 3 (Tm.ds us)]) := at_getT hp hes
      refine ⟨_, hget, ?_⟩
      (generalize cq0 : Tm.ds = cy0, cq1 : Tm.varss = cy1, cq2 : natI = cy2; cbv <;> subst cq0 cq1 cq2)
      cases v with
      | false =>
        have f1 : p.add (natI k0) (natI k2) = natI k1 := by subst hp; simp [std, natI, hcd]
        (generalize cq0 : Tm.ds = cy0, cq1 : Tm.varss = cy1, cq2 : natI = cy2; cbv <;> subst cq0 cq1 cq2)
        refine ⟨_, hget, ?_⟩
        (generalize cq0 : Tm.ds = cy0, cq1 : Tm.varss = cy1, cq2 : natI = cy2; cbv <;> subst cq0 cq1 cq2)
        refine callA.pure hih rfl ?_
        (generalize cq0 : Tm.ds = cy0, cq1 : Tm.varss = cy1, cq2 : natI = cy2; cbv <;> subst cq0 cq1 cq2)
        simp only [f1]
        refine ⟨nat_ok hp (by simp at hcd; omega), ?_⟩
        (generalize cq0 : Tm.ds = cy0, cq1 : Tm.varss = cy1, cq2 : natI = cy2; cbv <;> subst cq0 cq1 cq2)
        refine ⟨by subst hp; simp [std, Tm.ds_len]; omega, (d ++ [.mk false nm us], r), by rw [hes]; simp, by simp, ?_, rfl⟩
        rw [hk1]
        generalize hd' : d ++ [Tm.mk false nm us] = d'
        (generalize cq0 : Tm.ds = cy0, cq1 : natI = cy1; cbv <;> subst cq0 cq1)
        subst hp hd'
        simp [std, Tm.ds_len]
      | true =>
        (generalize cq0 : Tm.ds = cy0, cq1 : Tm.varss = cy1, cq2 : natI = cy2; cbv <;> subst cq0 cq1 cq2)
        refine ⟨_, hget, ?_⟩
        (generalize cq0 : Tm.ds = cy0, cq1 : Tm.varss = cy1, cq2 : natI = cy2; cbv <;> subst cq0 cq1 cq2)
        simp only [hseq]
        cases q with
        | false =>
          have f1 : p.add (natI k0) (natI k2) = natI k1 := by subst hp; simp [std, natI, hcd]
          (generalize cq0 : Tm.ds = cy0, cq1 : Tm.varss = cy1, cq2 : natI = cy2; cbv <;> subst cq0 cq1 cq2)
          refine ⟨_, hget, ?_⟩
          (generalize cq0 : Tm.ds = cy0, cq1 : Tm.varss = cy1, cq2 : natI = cy2; cbv <;> subst cq0 cq1 cq2)
          refine callA.pure hih rfl ?_
          (generalize cq0 : Tm.ds = cy0, cq1 : Tm.varss = cy1, cq2 : natI = cy2; cbv <;> subst cq0 cq1 cq2)
          simp only [f1]
          refine ⟨nat_ok hp (by simp at hcd; omega), ?_⟩
          (generalize cq0 : Tm.ds = cy0, cq1 : Tm.varss = cy1, cq2 : natI = cy2; cbv <;> subst cq0 cq1 cq2)
          refine ⟨by subst hp; simp [std, Tm.ds_len]; omega, (d ++ [.mk true nm us], r), by rw [hes]; simp, by simp, ?_, rfl⟩
          rw [hk1]
          generalize hd' : d ++ [Tm.mk true nm us] = d'
          (generalize cq0 : Tm.ds = cy0, cq1 : natI = cy1; cbv <;> subst cq0 cq1)
          subst hp hd'
          simp [std, Tm.ds_len]
        | true =>
          obtain ⟨k3, hk3⟩ : ∃ k, k0 + 1 = k := ⟨_, rfl⟩
          have f0 : p.add (natI k0) 1 = natI k3 := by subst hp hk3; simp [std, natI]
          have f1 : p.add (natI k3) (natI k2) = natI k1 := by subst hp hk3; simp [std, natI, hcd]; omega
          (generalize cq0 : Tm.ds = cy0, cq1 : Tm.varss = cy1, cq2 : natI = cy2; cbv <;> subst cq0 cq1 cq2)
          simp only [f0]
          refine ⟨nat_ok hp (by simp at hcd hcl; omega), ?_⟩
          (generalize cq0 : Tm.ds = cy0, cq1 : Tm.varss = cy1, cq2 : natI = cy2; cbv <;> subst cq0 cq1 cq2)
          refine ⟨_, hget, ?_⟩
          (generalize cq0 : Tm.ds = cy0, cq1 : Tm.varss = cy1, cq2 : natI = cy2; cbv <;> subst cq0 cq1 cq2)
          refine callA.pure hih rfl ?_
          (generalize cq0 : Tm.ds = cy0, cq1 : Tm.varss = cy1, cq2 : natI = cy2; cbv <;> subst cq0 cq1 cq2)
          simp only [f1]
          refine ⟨nat_ok hp (by simp at hcd hcl; omega), ?_⟩
          (generalize cq0 : Tm.ds = cy0, cq1 : Tm.varss = cy1, cq2 : natI = cy2; cbv <;> subst cq0 cq1 cq2)
          refine ⟨by subst hp; simp [std, Tm.ds_len]; omega, (d ++ [.mk true nm us], r), by rw [hes]; simp, by simp, ?_, rfl⟩
          rw [hk1]
          generalize hd' : d ++ [Tm.mk true nm us] = d'
          (generalize cq0 : Tm.ds = cy0, cq1 : natI = cy1; cbv <;> subst cq0 cq1)
          subst hp hd'
          simp [std, Tm.ds_len]
end Go.Ly.Tr
end
section
namespace Go.Ly.Tr
set_option maxRecDepth 20000
mutual
def Frm.occ : Frm → Nm → List Nm → Nat
  | .mk o n us fs, s, B => if isQ o then (if hasB (B ++ [n]) s then 0 else cnt (Tm.varss us) s) + Frm.occs fs s (B ++ [n]) else (if hasB B s then 0 else cnt (Tm.varss us) s) + Frm.occs fs s B
def Frm.occs : List Frm → Nm → List Nm → Nat
  | [], _, _ => 0
  | f :: fs, s, B => f.occ s B + Frm.occs fs s B
end
theorem occs_app (s : Nm) (B : List Nm) : ∀ a b : List Frm, Frm.occs (a ++ b) s B = Frm.occs a s B + Frm.occs b s B
  | [], b => by rw [List.nil_append, Frm.occs, Nat.zero_add]
  | f :: a, b => by rw [List.cons_append, Frm.occs, Frm.occs, occs_app s B a b]; omega
mutual
theorem occ_le : ∀ (f : Frm) (s : Nm) (B : List Nm), f.occ s B ≤ f.size
  | .mk o n us fs, s, B => by
    have h1 := occs_le fs s (B ++ [n])
    have h2 := occs_le fs s B
    have h3 := cnt_le (Tm.varss us) s
    have h4 := varss_len us
    have h5 : (Frm.mk o n us fs).size = Tm.size.sizes us + Frm.size.sizes fs + 1 := rfl
    rw [Frm.occ, h5]
    repeat' split
    all_goals omega
theorem occs_le : ∀ (l : List Frm) (s : Nm) (B : List Nm), Frm.occs l s B ≤ Frm.size.sizes l
  | [], _, _ => Nat.le_refl _
  | f :: l, s, B => by
    have h1 := occ_le f s B
    have h2 := occs_le l s B
    rw [Frm.occs, Frm.size.sizes]
    omega
end
theorem occurs_ok (f : Frm) : ∀ (s : Nm) (B : List Nm), f.size ≤ 100000 → B.length + f.size ≤ 500000 → Pure E 42 [.d .old f.d, .d .old (.str s), .d .old (.row 1 (Nms B))] (.d .top (.int .i64 (natI (f.occ s B)))) := by
  induction f using Frm.ind with
  | h o n us fs ih =>
  intro s B hs hT
  have hs' : Tm.size.sizes us + Frm.size.sizes fs + 1 ≤ 100000 := hs
  have hT' : B.length + (Tm.size.sizes us + Frm.size.sizes fs + 1) ≤ 500000 := hT
  have hll := Frm.len_size fs
  have hv := varss_len us
  have hcv := cnt_le (Tm.varss us) s
  have h1 := has_ok B s (by omega)
  have h2 := has_ok (B ++ [n]) s (by simp; omega)
  have hcs := counts_ok us s (by omega)
  have hall : ∀ T2 : List Nm, T2.length ≤ B.length + 1 → ∀ x ∈ fs, Pure E 42 [.d .old x.d, .d .old (.str s), .d .old (.row 1 (Nms T2))] (.d .top (.int .i64 (natI (x.occ s T2)))) := fun T2 h2 x hx => ih x hx s T2 (by have := Frm.size_mem hx; omega) (by have := Frm.size_mem hx; omega)
  obtain ⟨q, hq⟩ : ∃ q, isQ o = q := ⟨_, rfl⟩
  have hq' := isQ_eq o
  rw [hq] at hq'
  obtain ⟨z, hz⟩ : ∃ z, (Frm.mk o n us fs).occ s B = z := ⟨_, rfl⟩
  have hsp : z = if q then (if hasB (B ++ [n]) s then 0 else cnt (Tm.varss us) s) + Frm.occs fs s (B ++ [n]) else (if hasB B s then 0 else cnt (Tm.varss us) s) + Frm.occs fs s B := by rw [← hz, Frm.occ, hq]
  rw [hz]
  clear ih hz
  simp only [Frm.d]
  cases q with
  | false =>
    simp only [Bool.false_eq_true, if_false] at hsp
    generalize hasB B s = b at *
    refine pure_by has42 ?_
    generalize hp : std = p
    have et : p.not true = false := not_t hp
    have ef : p.not false = true := not_f hp
    have e8 : p.eq (opI o) 8 = false := by subst hp; simp only [Bool.or_eq_false_iff] at hq'; exact hq'.1
    have e9 : p.eq (opI o) 9 = false := by subst hp; simp only [Bool.or_eq_false_iff] at hq'; exact hq'.2
    (generalize cq0 : Frm.ds = cy0, cq1 : Nms = cy1, cq2 : Tm.ds = cy2, cq3 : natI = cy3, cq4 : opI = cy4; cbv <;> subst cq0 cq1 cq2 cq3 cq4)
    simp only [e8]
    (generalize cq0 : Frm.ds = cy0, cq1 : Nms = cy1, cq2 : Tm.ds = cy2, cq3 : natI = cy3, cq4 : opI = cy4; cbv <;> subst cq0 cq1 cq2 cq3 cq4)
    simp only [e9]
    (generalize cq0 : Frm.ds = cy0, cq1 : Nms = cy1, cq2 : Tm.ds = cy2, cq3 : natI = cy3, cq4 : opI = cy4; cbv <;> subst cq0 cq1 cq2 cq3 cq4)
    refine callA.pure h1 rfl ?_
    (generalize cq0 : Frm.ds = cy0, cq1 : Nms = cy1, cq2 : Tm.ds = cy2, cq3 : natI = cy3, cq4 : opI = cy4; cbv <;> subst cq0 cq1 cq2 cq3 cq4)
    cases b
    case' true =>
      simp only [et]
      (generalize cq0 : Frm.ds = cy0, cq1 : Nms = cy1, cq2 : Tm.ds = cy2, cq3 : natI = cy3, cq4 : opI = cy4; cbv <;> subst cq0 cq1 cq2 cq3 cq4)
      obtain ⟨k0, hk0⟩ : ∃ k0 : Nat, 0 = k0 := ⟨_, rfl⟩
      have hsp : z = k0 + Frm.occs fs s B := by rw [hsp, if_pos rfl, hk0]
      have hkl : k0 ≤ 1000000 := by omega
    case' false =>
      simp only [ef]
      (generalize cq0 : Frm.ds = cy0, cq1 : Nms = cy1, cq2 : Tm.ds = cy2, cq3 : natI = cy3, cq4 : opI = cy4; cbv <;> subst cq0 cq1 cq2 cq3 cq4)
      refine callA.pure hcs rfl ?_
      (generalize cq0 : Frm.ds = cy0, cq1 : Nms = cy1, cq2 : Tm.ds = cy2, cq3 : Tm.varss = cy3, cq4 : natI = cy4, cq5 : opI = cy5; cbv <;> subst cq0 cq1 cq2 cq3 cq4 cq5)
      obtain ⟨k0, hk0⟩ : ∃ k0 : Nat, cnt (Tm.varss us) s = k0 := ⟨_, rfl⟩
      have hsp : z = k0 + Frm.occs fs s B := by rw [hsp, if_neg (by simp), hk0]
      have hkl : k0 ≤ 1000000 := by omega
      rw [hk0]
    all_goals
      subst hp
      refine loopA_inv (ι := List Frm × List Frm) (fun j => fs = j.1 ++ j.2) (fun j => j.2.length)
        (fun j => mkF 50 [(1, .d .old (.str s)), (2, .d .old (.row 1 (Nms B))), (3, .ptr 0 0), (6, .d .top (.int .i64 0)), (7, .d .top (.int .i64 (natI (k0 + Frm.occs j.1 s B)))), (8, .d .top (.int .i64 (std.dlen (Frm.ds j.1))))])
        (fun j => [.bx [.d .old (.int .u8 (opI o)), .d .old (.str n), .d .old (.row 3 (Tm.ds us)), .d .old (.row 4 (Frm.ds fs))]]) (fun j => ()) ([], fs) rfl ?_ rfl (fun _ => rfl) ?_
      · rw [show Frm.occs [] s B = 0 by rw [Frm.occs], Nat.add_zero]
        generalize hp : std = p
        (generalize cq0 : Frm.ds = cy0, cq1 : Nms = cy1, cq2 : Tm.ds = cy2, cq3 : natI = cy3, cq4 : opI = cy4; cbv <;> subst cq0 cq1 cq2 cq3 cq4)
        subst hp
        simp [std, Frm.ds, natI] <;> omega
      rintro ⟨d, r⟩ hes
      simp only at hes ⊢
      cases r with
      | nil =>
        rw [List.append_nil] at hes
        subst hes
        rw [hsp]
        obtain ⟨kk, hkk⟩ : ∃ kk, k0 + Frm.occs fs s B = kk := ⟨_, rfl⟩
        rw [hkk]
        generalize hp : std = p
        (generalize cq0 : Frm.ds = cy0, cq1 : Nms = cy1, cq2 : Tm.ds = cy2, cq3 : natI = cy3, cq4 : opI = cy4; cbv <;> subst cq0 cq1 cq2 cq3 cq4)
        simp only [end_ltF hp]
        (generalize cq0 : Frm.ds = cy0, cq1 : Nms = cy1, cq2 : Tm.ds = cy2, cq3 : natI = cy3, cq4 : opI = cy4; cbv <;> subst cq0 cq1 cq2 cq3 cq4)
      | cons e r =>
        have hm : e ∈ fs := by rw [hes]; simp
        have hih := hall B (by omega) e hm
        have hdl : d.length + (r.length + 1) = fs.length := by rw [hes]; simp
        have hc1 : Frm.occs (d ++ [e]) s B = Frm.occs d s B + e.occ s B := by rw [occs_app, Frm.occs, Frm.occs, Nat.add_zero]
        have hc2 : Frm.occs fs s B = Frm.occs d s B + (e.occ s B + Frm.occs r s B) := by rw [hes, occs_app, Frm.occs]
        have hc3 := occs_le fs s B
        obtain ⟨k1, hk1⟩ : ∃ k, k0 + Frm.occs d s B = k := ⟨_, rfl⟩
        obtain ⟨k2, hk2⟩ : ∃ k, k0 + Frm.occs (d ++ [e]) s B = k := ⟨_, rfl⟩
        rw [hk1]
        have hkk : k1 + e.occ s B = k2 := by omega
        have hkb : k2 ≤ 2000000 := by omega
        generalize e.occ s B = ke at *
        obtain ⟨o2, nm2, us2, fs2⟩ := e
        simp only [Frm.d] at hih
        generalize hp : std = p
        have f1 : p.add (natI k1) (natI ke) = natI k2 := by subst hp; simp [std, natI, ← hkk]
        (generalize cq0 : Frm.ds = cy0, cq1 : Nms = cy1, cq2 : Tm.ds = cy2, cq3 : natI = cy3, cq4 : opI = cy4; cbv <;> subst cq0 cq1 cq2 cq3 cq4)
        simp only [at_ltF hp hes]
        (generalize cq0 : Frm.ds = cy0, cq1 : Nms = cy1, cq2 : Tm.ds = cy2, cq3 : natI = cy3, cq4 : opI = cy4; cbv <;> subst cq0 cq1 cq2 cq3 cq4)
        refine ⟨_, at_getF hp hes, ?_⟩
        (generalize cq0 : Frm.ds = cy0, cq1 : Nms = cy1, cq2 : Tm.ds = cy2, cq3 : natI = cy3, cq4 : opI = cy4; cbv <;> subst cq0 cq1 cq2 cq3 cq4)
        refine callA.pure hih rfl ?_
        (generalize cq0 : Frm.ds = cy0, cq1 : Nms = cy1, cq2 : Tm.ds = cy2, cq3 : natI = cy3, cq4 : opI = cy4; cbv <;> subst cq0 cq1 cq2 cq3 cq4)
        simp only [f1]
        refine ⟨nat_ok hp (by omega), ?_⟩
        (generalize cq0 : Frm.ds = cy0, cq1 : Nms = cy1, cq2 : Tm.ds = cy2, cq3 : natI = cy3, cq4 : opI = cy4; cbv <;> subst cq0 cq1 cq2 cq3 cq4)
        refine ⟨by subst hp; simp [std, Frm.ds_len]; omega, (d ++ [.mk o2 nm2 us2 fs2], r), by rw [hes]; simp, by simp, ?_, rfl⟩
        rw [hk2]
        generalize hd' : d ++ [Frm.mk o2 nm2 us2 fs2] = d'
        (generalize cq0 : Frm.ds = cy0, cq1 : Nms = cy1, cq2 : Tm.ds = cy2, cq3 : natI = cy3, cq4 : opI = cy4; cbv <;> subst cq0 cq1 cq2 cq3 cq4)
        subst hp hd'
        simp [std, Frm.ds_len]
  | true =>
    simp only [if_true] at hsp
    obtain ⟨B2, hB2⟩ : ∃ B2, B ++ [n] = B2 := ⟨_, rfl⟩
    rw [hB2] at hsp h2
    generalize hasB B2 s = b at *
    refine pure_by has42 ?_
    generalize hp : std = p
    have et : p.not true = false := not_t hp
    have ef : p.not false = true := not_f hp
    have ev : p.eq (opI o) 8 = true ∨ p.eq (opI o) 8 = false ∧ p.eq (opI o) 9 = true := by
      subst hp
      cases h8 : std.eq (opI o) 8 with
      | true => exact .inl rfl
      | false => rw [h8, Bool.false_or] at hq'; exact .inr ⟨rfl, hq'⟩
    have d1 : p.dcat [] (Nms B) = Nms B := by subst hp; rfl
    have d2 : p.dcat (Nms B) [.str n] = Nms B2 := by subst hp hB2; simp [std, Nms]
    have r1 : p.room [] (Nms B) := by subst hp; simp [std, Nms_len]; omega
    have r2 : p.room (Nms B) [.str n] := by subst hp; simp [std, Nms_len]; omega
    (generalize cq0 : Frm.ds = cy0, cq1 : Nms = cy1, cq2 : Tm.ds = cy2, cq3 : natI = cy3, cq4 : opI = cy4; cbv <;> subst cq0 cq1 cq2 cq3 cq4)
    rcases ev with e8 | ⟨e8, e9⟩
    case' inl =>
      simp only [e8]
      (generalize cq0 : Frm.ds = cy0, cq1 : Nms = cy1, cq2 : Tm.ds = cy2, cq3 : natI = cy3, cq4 : opI = cy4; cbv <;> subst cq0 cq1 cq2 cq3 cq4)
    case' inr =>
      simp only [e8]
      (generalize cq0 : Frm.ds = cy0, cq1 : Nms = cy1, cq2 : Tm.ds = cy2, cq3 : natI = cy3, cq4 : opI = cy4; cbv <;> subst cq0 cq1 cq2 cq3 cq4)
      simp only [e9]
      (generalize cq0 : Frm.ds = cy0, cq1 : Nms = cy1, cq2 : Tm.ds = cy2, cq3 : natI = cy3, cq4 : opI = cy4; cbv <;> subst cq0 cq1 cq2 cq3 cq4)
    all_goals
      simp only [d1, d2]
      refine ⟨r1, r2, ?_⟩
      (generalize cq0 : Frm.ds = cy0, cq1 : Nms = cy1, cq2 : Tm.ds = cy2, cq3 : natI = cy3, cq4 : opI = cy4; cbv <;> subst cq0 cq1 cq2 cq3 cq4)
      refine callA.pure h2 rfl ?_
      (generalize cq0 : Frm.ds = cy0, cq1 : Nms = cy1, cq2 : Tm.ds = cy2, cq3 : natI = cy3, cq4 : opI = cy4; cbv <;> subst cq0 cq1 cq2 cq3 cq4)
      cases b
      case' true =>
        simp only [et]
        (generalize cq0 : Frm.ds = cy0, cq1 : Nms = cy1, cq2 : Tm.ds = cy2, cq3 : natI = cy3, cq4 : opI = cy4; cbv <;> subst cq0 cq1 cq2 cq3 cq4)
        obtain ⟨k0, hk0⟩ : ∃ k0 : Nat, 0 = k0 := ⟨_, rfl⟩
        have hsp : z = k0 + Frm.occs fs s B2 := by rw [hsp, if_pos rfl, hk0]
        have hkl : k0 ≤ 1000000 := by omega
      case' false =>
        simp only [ef]
        (generalize cq0 : Frm.ds = cy0, cq1 : Nms = cy1, cq2 : Tm.ds = cy2, cq3 : natI = cy3, cq4 : opI = cy4; cbv <;> subst cq0 cq1 cq2 cq3 cq4)
        refine callA.pure hcs rfl ?_
        (generalize cq0 : Frm.ds = cy0, cq1 : Nms = cy1, cq2 : Tm.ds = cy2, cq3 : Tm.varss = cy3, cq4 : natI = cy4, cq5 : opI = cy5; cbv <;> subst cq0 cq1 cq2 cq3 cq4 cq5)
        obtain ⟨k0, hk0⟩ : ∃ k0 : Nat, cnt (Tm.varss us) s = k0 := ⟨_, rfl⟩
        have hsp : z = k0 + Frm.occs fs s B2 := by rw [hsp, if_neg (by simp), hk0]
        have hkl : k0 ≤ 1000000 := by omega
        rw [hk0]
      all_goals
        subst hp
        refine loopA_inv (ι := List Frm × List Frm) (fun j => fs = j.1 ++ j.2) (fun j => j.2.length)
          (fun j => mkF 50 [(1, .d .old (.str s)), (2, .own 1799 1 (Nms B2) .unk), (3, .ptr 0 0), (6, .d .top (.int .i64 0)), (7, .d .top (.int .i64 (natI (k0 + Frm.occs j.1 s B2)))), (8, .d .top (.int .i64 (std.dlen (Frm.ds j.1))))])
          (fun j => [.bx [.d .old (.int .u8 (opI o)), .d .old (.str n), .d .old (.row 3 (Tm.ds us)), .d .old (.row 4 (Frm.ds fs))]]) (fun j => ()) ([], fs) rfl ?_ rfl (fun _ => rfl) ?_
        · rw [show Frm.occs [] s B2 = 0 by rw [Frm.occs], Nat.add_zero]
          generalize hp : std = p
          (generalize cq0 : Frm.ds = cy0, cq1 : Nms = cy1, cq2 : Tm.ds = cy2, cq3 : natI = cy3, cq4 : opI = cy4; cbv <;> subst cq0 cq1 cq2 cq3 cq4)
          subst hp
          simp [std, Frm.ds, natI] <;> omega
        rintro ⟨d, r⟩ hes
        simp only at hes ⊢
        cases r with
        | nil =>
          rw [List.append_nil] at hes
          subst hes
          rw [hsp]
          obtain ⟨kk, hkk⟩ : ∃ kk, k0 + Frm.occs fs s B2 = kk := ⟨_, rfl⟩
          rw [hkk]
          generalize hp : std = p
          (generalize cq0 : Frm.ds = cy0, cq1 : Nms = cy1, cq2 : Tm.ds = cy2, cq3 : natI = cy3, cq4 : opI = cy4; cbv <;> subst cq0 cq1 cq2 cq3 cq4)
          simp only [end_ltF hp]
          (generalize cq0 : Frm.ds = cy0, cq1 : Nms = cy1, cq2 : Tm.ds = cy2, cq3 : natI = cy3, cq4 : opI = cy4; cbv <;> subst cq0 cq1 cq2 cq3 cq4)
        | cons e r =>
          have hm : e ∈ fs := by rw [hes]; simp
          have hih := hall B2 (by rw [← hB2]; simp) e hm
          have hdl : d.length + (r.length + 1) = fs.length := by rw [hes]; simp
          have hc1 : Frm.occs (d ++ [e]) s B2 = Frm.occs d s B2 + e.occ s B2 := by rw [occs_app, Frm.occs, Frm.occs, Nat.add_zero]
          have hc2 : Frm.occs fs s B2 = Frm.occs d s B2 + (e.occ s B2 + Frm.occs r s B2) := by rw [hes, occs_app, Frm.occs]
          have hc3 := occs_le fs s B2
          obtain ⟨k1, hk1⟩ : ∃ k, k0 + Frm.occs d s B2 = k := ⟨_, rfl⟩
          obtain ⟨k2, hk2⟩ : ∃ k, k0 + Frm.occs (d ++ [e]) s B2 = k := ⟨_, rfl⟩
          rw [hk1]
          have hkk : k1 + e.occ s B2 = k2 := by omega
          have hkb : k2 ≤ 2000000 := by omega
          generalize e.occ s B2 = ke at *
          obtain ⟨o2, nm2, us2, fs2⟩ := e
          simp only [Frm.d] at hih
          generalize hp : std = p
          have f1 : p.add (natI k1) (natI ke) = natI k2 := by subst hp; simp [std, natI, ← hkk]
          (generalize cq0 : Frm.ds = cy0, cq1 : Nms = cy1, cq2 : Tm.ds = cy2, cq3 : natI = cy3, cq4 : opI = cy4; cbv <;> subst cq0 cq1 cq2 cq3 cq4)
          simp only [at_ltF hp hes]
          (generalize cq0 : Frm.ds = cy0, cq1 : Nms = cy1, cq2 : Tm.ds = cy2, cq3 : natI = cy3, cq4 : opI = cy4; cbv <;> subst cq0 cq1 cq2 cq3 cq4)
          refine ⟨_, at_getF hp hes, ?_⟩
          (generalize cq0 : Frm.ds = cy0, cq1 : Nms = cy1, cq2 : Tm.ds = cy2, cq3 : natI = cy3, cq4 : opI = cy4; cbv <;> subst cq0 cq1 cq2 cq3 cq4)
          refine callA.pure hih rfl ?_
          (generalize cq0 : Frm.ds = cy0, cq1 : Nms = cy1, cq2 : Tm.ds = cy2, cq3 : natI = cy3, cq4 : opI = cy4; cbv <;> subst cq0 cq1 cq2 cq3 cq4)
          simp only [f1]
          refine ⟨nat_ok hp (by omega), ?_⟩
          (generalize cq0 : Frm.ds = cy0, cq1 : Nms = cy1, cq2 : Tm.ds = cy2, cq3 : natI = cy3, cq4 : opI = cy4; cbv <;> subst cq0 cq1 cq2 cq3 cq4)
          refine ⟨by subst hp; simp [std, Frm.ds_len]; omega, (d ++ [.mk o2 nm2 us2 fs2], r), by rw [hes]; simp, by simp, ?_, rfl⟩
          rw [hk2]
          generalize hd' : d ++ [Frm.mk o2 nm2 us2 fs2] = d'
          (generalize cq0 : Frm.ds = cy0, cq1 : Nms = cy1, cq2 : Tm.ds = cy2, cq3 : natI = cy3, cq4 : opI = cy4; cbv <;> subst cq0 cq1 cq2 cq3 cq4)
          subst hp hd'
          simp [std, Frm.ds_len]
end Go.Ly.Tr
end
section
namespace Go.Ly.Tr
theorem cnt_unb (o : UInt8) (n s : Nm) (l : List Nm) : cnt (unb o n l) s = if isQ o && s == n then 0 else cnt l s := by
  unfold cnt unb
  rw [List.filter_filter]
  cases hq : isQ o with
  | false => simp
  | true =>
    by_cases h : s = n
    · subst h
      simp only [Bool.true_and, beq_self_eq_true, if_true, List.length_eq_zero_iff, List.filter_eq_nil_iff]
      intro a _ h
      simp only [Bool.and_eq_true, Bool.not_eq_true'] at h
      rw [h.1] at h
      cases h.2
    · have h' : (s == n) = false := by simpa using h
      simp only [Bool.true_and, h', Bool.false_eq_true, if_false]
      congr 1
      refine List.filter_congr fun a _ => ?_
      by_cases ha : a = s
      · subst ha; simp [h']
      · have : (a == s) = false := by simpa using ha
        simp [this]
theorem occ_eq (s : Nm) (f : Frm) : ∀ B : List Nm, f.ok = true → f.occ s B = if hasB B s then 0 else cnt f.frees s := by
  induction f using Frm.ind with
  | h o n us fs ih =>
  intro B hok
  have hp := ok_parts hok
  rw [Frm.occ, Frm.frees, cnt_app, cnt_unb]
  have lists : ∀ (B : List Nm) (gs : List Frm), (∀ a ∈ gs, a.occ s B = if hasB B s then 0 else cnt a.frees s) → Frm.occs gs s B = if hasB B s then 0 else cnt (Frm.freess gs) s := by
    intro B gs
    induction gs with
    | nil => intro _; rw [Frm.occs]; cases hasB B s <;> simp [Frm.freess, cnt]
    | cons a gs ihg =>
      intro h
      rw [Frm.occs, h a (by simp), ihg fun b hb => h b (by simp [hb]), Frm.freess, cnt_app]
      cases hasB B s <;> simp
  cases hq : isQ o with
  | false =>
    rw [lists B fs fun a ha => ih a ha B (foks_mem hp.2 ha)]
    cases hasB B s <;> simp
  | true =>
    obtain ⟨rfl, _, g, rfl, hg⟩ := ok_quant hq hok
    rw [lists (B ++ [n]) [g] fun a ha => ih a ha _ (foks_mem hp.2 ha)]
    have hb : hasB (B ++ [n]) s = (hasB B s || s == n) := by
      rw [hasB_app]
      congr 1
      simp only [hasB, List.any_cons, List.any_nil, Bool.or_false]
      rw [Bool.eq_iff_iff, beq_iff_eq, beq_iff_eq]
      exact eq_comm
    rw [hb]
    simp only [if_true, Tm.varss, Bool.true_and]
    have h0 : cnt [] s = 0 := rfl
    rw [h0]
    cases hasB B s <;> cases (s == n) <;> simp
theorem occ_free {f : Frm} (h : f.ok = true) (s : Nm) : f.occ s [] = cnt f.frees s := by
  rw [occ_eq s f [] h]
  rfl
theorem occ_atom (t : Tm) (s : Nm) : (Frm.mk 1 [80] [t] []).occ s [] = cnt t.vars s := by
  rw [Frm.occ]
  have : isQ 1 = false := rfl
  simp only [this, Bool.false_eq_true, if_false, Frm.occs, Tm.varss, List.append_nil]
  rfl
theorem dt_cnt {x : Nm} {u : DT} (s : Nm) (d : DT) : d.vok = true → cnt (d.sub (one x u)).fr s = cnt d.fr x * cnt u.fr s + if s = x then 0 else cnt d.fr s := by
  have lists : ∀ us : List DT, (∀ a ∈ us, a.vok = true → cnt (a.sub (one x u)).fr s = cnt a.fr x * cnt u.fr s + if s = x then 0 else cnt a.fr s) → DT.voks us = true →
      cnt (DT.frs (DT.subs (one x u) us)) s = cnt (DT.frs us) x * cnt u.fr s + if s = x then 0 else cnt (DT.frs us) s := by
    intro us
    induction us with
    | nil => intro _ _; simp [DT.subs, DT.frs, cnt]
    | cons a us ih =>
      intro h1 h0
      simp only [DT.voks, Bool.and_eq_true] at h0
      simp only [DT.subs, DT.frs, cnt_app]
      rw [h1 a (by simp) h0.1, ih (fun b hb => h1 b (by simp [hb])) h0.2, Nat.add_mul]
      split <;> omega
  induction d using DT.ind with
  | h1 i us ih =>
    intro h0
    have : us = [] := by simpa [DT.vok] using h0
    subst this
    simp [DT.sub, DT.subs, DT.fr, DT.frs, cnt]
  | h2 v n us ih =>
    intro h0
    simp only [DT.vok, Bool.and_eq_true, Bool.or_eq_true, Bool.not_eq_true', List.isEmpty_iff] at h0
    cases v with
    | false =>
      simp only [DT.sub, Bool.false_eq_true, if_false, DT.fr, List.nil_append]
      exact lists us ih h0.2
    | true =>
      have : us = [] := h0.1.resolve_left (by simp)
      subst this
      simp only [DT.sub, if_true, one]
      by_cases hx : x = n
      · subst hx
        simp only [if_true, DT.fr, DT.frs, List.append_nil]
        have h1 : cnt [x] x = 1 := by simp [cnt]
        rw [h1, Nat.one_mul]
        by_cases hs : s = x
        · simp [hs]
        · rw [if_neg hs, show cnt [x] s = 0 from cnt_zero (by simpa using hs), Nat.add_zero]
      · rw [if_neg hx]
        simp only [DT.subs, DT.fr, if_true, DT.frs, List.append_nil]
        have h1 : cnt [n] x = 0 := cnt_zero (by simpa using hx)
        rw [h1, Nat.zero_mul, Nat.zero_add]
        by_cases hs : s = x
        · subst hs; rw [if_pos rfl, h1]
        · rw [if_neg hs]
theorem dts_cnt {x : Nm} {u : DT} (s : Nm) : ∀ us : List DT, DT.voks us = true → cnt (DT.frs (DT.subs (one x u) us)) s = cnt (DT.frs us) x * cnt u.fr s + if s = x then 0 else cnt (DT.frs us) s
  | [], _ => by simp [DT.subs, DT.frs, cnt]
  | a :: us, h0 => by
    simp only [DT.voks, Bool.and_eq_true] at h0
    simp only [DT.subs, DT.frs, cnt_app]
    rw [dt_cnt s a h0.1, dts_cnt s us h0.2, Nat.add_mul]
    split <;> omega
theorem df_cnt {x : Nm} {u : DT} (s : Nm) (d : DF) : d.vok = true → cnt (d.sub (one x u)).fr s = cnt d.fr x * cnt u.fr s + if s = x then 0 else cnt d.fr s := by
  induction d using DF.ind with
  | h o n us fs ih =>
  intro h0
  simp only [DF.vok, Bool.and_eq_true] at h0
  have lists : ∀ us : List DF, (∀ a ∈ us, a.vok = true → cnt (a.sub (one x u)).fr s = cnt a.fr x * cnt u.fr s + if s = x then 0 else cnt a.fr s) → DF.voks us = true →
      cnt (DF.frs (DF.subs (one x u) us)) s = cnt (DF.frs us) x * cnt u.fr s + if s = x then 0 else cnt (DF.frs us) s := by
    intro us
    induction us with
    | nil => intro _ _; simp [DF.subs, DF.frs, cnt]
    | cons a us ih =>
      intro h1 h0
      simp only [DF.voks, Bool.and_eq_true] at h0
      simp only [DF.subs, DF.frs, cnt_app]
      rw [h1 a (by simp) h0.1, ih (fun b hb => h1 b (by simp [hb])) h0.2, Nat.add_mul]
      split <;> omega
  simp only [DF.sub, DF.fr, cnt_app]
  rw [dts_cnt s us h0.1, lists fs ih h0.2, Nat.add_mul]
  split <;> omega
theorem put_cnt {f : Frm} (hf : f.ok = true) (x : Nm) (t : Tm) (s : Nm) : cnt (f.put [(x, t)]).frees s = cnt f.frees x * cnt t.vars s + if s = x then 0 else cnt f.frees s := by
  have h := df_cnt (x := x) (u := t.db []) s (f.db []) (frm_vok f [] hf)
  rw [← sg_one, ← put_db hf, frm_fr0, frm_fr0, tm_fr0] at h
  exact h
theorem set_sorted (l : List Nm) : (setN l).Pairwise (· < ·) := by
  have h1 : (setN l).Pairwise (· ≤ ·) := by
    have := List.pairwise_mergeSort (le := fun x y : Nm => decide (x ≤ y)) (fun a b c h1 h2 => by simp only [decide_eq_true_eq] at *; exact List.le_trans h1 h2) (fun a b => by simp only [Bool.or_eq_true, decide_eq_true_eq]; exact List.le_total a b) (nubs l)
    exact this.imp (by simp)
  have h2 : (setN l).Nodup := (List.mergeSort_perm (nubs l) _).nodup_iff.2 (nubs_nodup l)
  have h3 := h1.and h2
  exact h3.imp fun {a b} h => by
    rcases List.le_iff_lt_or_eq.1 h.1 with h' | h'
    · exact h'
    · exact absurd h' h.2
theorem sorted_next {a d r : List Nm} {e' e : Nm} (h : a.Pairwise (· < ·)) (ha : a = d ++ e' :: e :: r) : e' < e := by
  subst ha
  rw [List.pairwise_append] at h
  have := h.2.1
  rw [List.pairwise_cons] at this
  exact this.1 e (by simp)
end Go.Ly.Tr
end
section
namespace Go.Ly.Tr
set_option maxRecDepth 20000
theorem slt_lt : ∀ x y : Nm, std.slt x y = decide (x < y)
  | [], [] => by simp [std, Op.bytesLess]
  | _ :: _, [] => by simp [std, Op.bytesLess]
  | [], _ :: _ => by simp [std, Op.bytesLess]
  | a :: x, b :: y => by
    have h := slt_lt x y
    simp only [std] at h ⊢
    rw [Op.bytesLess, h]
    simp only [List.cons_lt_cons_iff]
    by_cases h1 : a < b <;> by_cases h2 : a = b <;> by_cases h3 : x < y <;> simp [h1, h2, h3]
theorem SubstFrees_ok (f : Frm) (x : Nm) (t : Tm) (hf : f.wt ≤ 1900000) (hx : x.length ≤ 1900000) (ht : t.wt ≤ 1900000) : Pure E 10 [.d .old f.d, .d .old (.str x), .d .old t.d] (.d .top (.bool true)) := by
  have hsm := Small_ok [f] (by simp only [Frm.wts]; omega)
  have hfw := few_ok [(x, t)] (by simpa using ⟨ht, hx⟩)
  have hs1 : smallB [f] = true → f.size ≤ 500 := small_one
  have hs2 : fewB [(x, t)] = true → t.size ≤ 99 := fun h => few_size h (List.mem_singleton.2 rfl)
  have hput : f.size ≤ 500 → t.size ≤ 99 → Pure E 20 [.d .old f.d, .d .old (.str x), .d .old t.d] (.tup [.d .new (putsS f [(x, t)]).1.d, .d .top (.int .i64 (natI (putsS f [(x, t)]).2))]) := fun h1 h2 => Put_ok f x t (by omega) (by omega)
  obtain ⟨b1, hb1⟩ : ∃ b, smallB [f] = b := ⟨_, rfl⟩
  obtain ⟨b2, hb2⟩ : ∃ b, fewB [(x, t)] = b := ⟨_, rfl⟩
  rw [hb1] at hsm hs1
  rw [hb2] at hfw hs2
  by_cases hall : b1 = true ∧ b2 = true ∧ (putsS f [(x, t)]).2 = 0
  · obtain ⟨rfl, rfl, h0⟩ := hall
    have hsz := hs1 rfl
    have hst := hs2 rfl
    obtain ⟨hfr, harg, _, hg1, hg2, he⟩ := puts_zero h0
    have hfk := (right_iff.1 hfr).2.2
    have htk : t.ok = true := (args_ok harg (x, t) (by simp)).2
    have hgk : (f.put [(x, t)]).ok = true := put_right f _ hfk (by simpa using htk) (by simp only [Sb.sz]; omega)
    replace hput := hput hsz hst
    rw [he] at hput
    have hcnt := put_cnt hfk x t
    obtain ⟨g, hg⟩ : ∃ g, f.put [(x, t)] = g := ⟨_, rfl⟩
    rw [hg] at hput hcnt hgk hg1
    have k1 := Free_ok f (by omega)
    have k2 := Free_ok g (by omega)
    have k3 := FreeTerm_ok t (by omega)
    have l1 := frees_len f
    have l2 := frees_len g
    have l3 := Tm.vars_len t
    have s1 := set_len f.frees
    have s2 := set_len g.frees
    have s3 := set_len t.vars
    have q1 : ∀ e, Pure E 24 [.d .old (.row 1 (Nms (setN f.frees))), .d .old (.str e)] (.d .top (.bool (hasB f.frees e))) := fun e => by
      have h := has_ok (setN f.frees) e (by omega)
      rwa [set_has] at h
    have q2 : ∀ e, Pure E 24 [.d .old (.row 1 (Nms (setN g.frees))), .d .old (.str e)] (.d .top (.bool (hasB g.frees e))) := fun e => by
      have h := has_ok (setN g.frees) e (by omega)
      rwa [set_has] at h
    have q3 : ∀ e, Pure E 24 [.d .old (.row 1 (Nms (setN t.vars))), .d .old (.str e)] (.d .top (.bool (hasB t.vars e))) := fun e => by
      have h := has_ok (setN t.vars) e (by omega)
      rwa [set_has] at h
    have hmem : ∀ e ∈ setN g.frees, hasB t.vars e = false → (e == x) = false ∧ hasB f.frees e = true := fun e he ht => by
      rw [set_mem, ← cnt_pos, hcnt] at he
      have h1 : cnt t.vars e = 0 := cnt_zero (hasB_not.1 ht)
      rw [h1, Nat.mul_zero, Nat.zero_add] at he
      split at he
      · omega
      · rename_i h
        exact ⟨by simpa using h, hasB_mem.2 (cnt_pos.1 he)⟩
    have hsort := set_sorted g.frees
    have oc1 : ∀ s, Pure E 42 [.d .old f.d, .d .old (.str s), .d .old (.row 1 [])] (.d .top (.int .i64 (natI (cnt f.frees s)))) := fun s => by
      have h := occurs_ok f s [] (by omega) (by simp; omega)
      rwa [occ_free hfk] at h
    have oc2 : ∀ s, Pure E 42 [.d .old g.d, .d .old (.str s), .d .old (.row 1 [])] (.d .top (.int .i64 (natI (cnt g.frees s)))) := fun s => by
      have h := occurs_ok g s [] (by omega) (by simp; omega)
      rwa [occ_free hgk] at h
    have oc3 : ∀ s, Pure E 42 [.d .old (Frm.mk 1 [80] [t] []).d, .d .old (.str s), .d .old (.row 1 [])] (.d .top (.int .i64 (natI (cnt t.vars s)))) := fun s => by
      have h := occurs_ok (.mk 1 [80] [t] []) s [] (by simp only [Frm.size, Tm.size.sizes, Frm.size.sizes]; omega) (by simp only [Frm.size, Tm.size.sizes, Frm.size.sizes, List.length_nil]; omega)
      rwa [occ_atom] at h
    have hpp := p_ok [80] [t]
    have cl1 := fun s => cnt_le f.frees s
    have cl3 := fun s => cnt_le t.vars s
    have hpos : ∀ s, hasB g.frees s = decide (0 < cnt g.frees s) := fun s => by
      rw [Bool.eq_iff_iff, hasB_mem, decide_eq_true_eq, cnt_pos]
    have b3 : ∀ s, cnt f.frees s ≤ 500 := fun s => by have := cl1 s; omega
    have b4 : ∀ s, cnt t.vars s ≤ 100 := fun s => by have := cl3 s; omega
    have z1 : (setN f.frees).length ≤ 500 := by omega
    have z2 : (setN g.frees).length ≤ 500 := by omega
    have z3 : (setN t.vars).length ≤ 100 := by omega
    clear hs1 hs2 cl1 cl3 l1 l2 l3 s1 s2 s3 hgk hg1 hfk htk harg hfr hsz hst hf hx ht he hg2 hg hb1 hb2 h0
    generalize setN f.frees = before at *
    generalize setN g.frees = after at *
    generalize setN t.vars = term at *
    generalize cnt f.frees = F at *
    generalize cnt g.frees = G at *
    generalize cnt t.vars = V at *
    generalize hasB f.frees = hF at *
    generalize hasB g.frees = hG at *
    generalize hasB t.vars = hV at *
    obtain ⟨o, n, us, fs⟩ := f
    obtain ⟨g1, g2, g3, g4⟩ := g
    obtain ⟨v, nm, ts⟩ := t
    simp only [Frm.d, Tm.d, show natI 0 = 0 from rfl, show opI 1 = 1 from rfl, Frm.ds] at *
    refine pure_by has10 ?_
    generalize hp' : std = p
    have et : p.not true = false := not_t hp'
    have ef : p.not false = true := not_f hp'
    have e0 : p.eq 0 0 = true := by subst hp'; rfl
    (generalize cq0 : Frm.ds = cy0, cq1 : Tm.ds = cy1, cq2 : opI = cy2; cbv <;> subst cq0 cq1 cq2)
    refine callA.pure awake_ok rfl ?_
    (generalize cq0 : Frm.ds = cy0, cq1 : Tm.ds = cy1, cq2 : opI = cy2; cbv <;> subst cq0 cq1 cq2)
    simp only [et]
    (generalize cq0 : Frm.ds = cy0, cq1 : Tm.ds = cy1, cq2 : opI = cy2; cbv <;> subst cq0 cq1 cq2)
    refine callA.pure hsm rfl ?_
    (generalize cq0 : Frm.ds = cy0, cq1 : Tm.ds = cy1, cq2 : opI = cy2; cbv <;> subst cq0 cq1 cq2)
    simp only [et]
    (generalize cq0 : Frm.ds = cy0, cq1 : Tm.ds = cy1, cq2 : opI = cy2; cbv <;> subst cq0 cq1 cq2)
    refine callA.pure hfw rfl ?_
    (generalize cq0 : Frm.ds = cy0, cq1 : Tm.ds = cy1, cq2 : opI = cy2; cbv <;> subst cq0 cq1 cq2)
    simp only [et]
    (generalize cq0 : Frm.ds = cy0, cq1 : Tm.ds = cy1, cq2 : opI = cy2; cbv <;> subst cq0 cq1 cq2)
    refine callA.pure hput rfl ?_
    (generalize cq0 : Frm.ds = cy0, cq1 : Tm.ds = cy1, cq2 : opI = cy2; cbv <;> subst cq0 cq1 cq2)
    simp only [e0, et]
    (generalize cq0 : Frm.ds = cy0, cq1 : Tm.ds = cy1, cq2 : opI = cy2; cbv <;> subst cq0 cq1 cq2)
    refine drawA.mk _ ⟨_, _, _, rfl, k1, rfl, rfl⟩ ?_
    (generalize cq0 : Frm.ds = cy0, cq1 : Nms = cy1, cq2 : Tm.ds = cy2, cq3 : opI = cy3; cbv <;> subst cq0 cq1 cq2 cq3)
    refine drawA.mk _ ⟨_, _, _, rfl, k2, rfl, rfl⟩ ?_
    (generalize cq0 : Frm.ds = cy0, cq1 : Nms = cy1, cq2 : Tm.ds = cy2, cq3 : opI = cy3; cbv <;> subst cq0 cq1 cq2 cq3)
    refine drawA.mk _ ⟨_, _, _, rfl, k3, rfl, rfl⟩ ?_
    (generalize cq0 : Frm.ds = cy0, cq1 : Nms = cy1, cq2 : Tm.ds = cy2, cq3 : opI = cy3; cbv <;> subst cq0 cq1 cq2 cq3)
    clear et ef e0
    subst hp'
    refine loopA_inv (ι := List Nm × List Nm) (fun j => after = j.1 ++ j.2) (fun j => j.2.length)
      (fun j => mkF 137 [(1, .d .old (.str x)), (3, .ptr 0 0), (5, .ptr 1 0), (6, .d .top (.bool false)), (7, .ptr 2 0), (9, .own 4197 1 (Nms before) .new), (10, .own 4397 1 (Nms after) .new), (11, .own 4597 1 (Nms term) .new), (12, .d .top (.int .i64 (std.dlen (Nms j.1))))])
      (fun j => [.bx [.d .old (.int .u8 (opI o)), .d .old (.str n), .d .old (.row 3 (Tm.ds us)), .d .old (.row 4 (Frm.ds fs))], .bx [.d .old (.bool v), .d .old (.str nm), .d .old (.row 3 (Tm.ds ts))], .bx [.d .new (.int .u8 (opI g1)), .d .new (.str g2), .d .new (.row 3 (Tm.ds g3)), .d .new (.row 4 (Frm.ds g4))]]) (fun j => ()) ([], after) rfl ?_ rfl (fun _ => rfl) ?_
    · generalize hp : std = p
      (generalize cq0 : Frm.ds = cy0, cq1 : Nms = cy1, cq2 : Tm.ds = cy2, cq3 : opI = cy3; cbv <;> subst cq0 cq1 cq2 cq3)
      subst hp
      simp [std, Nms]
    rintro ⟨d, r⟩ hes
    simp only at hes ⊢
    cases r with
    | cons e r =>
      have hdl : d.length + (r.length + 1) = after.length := by rw [hes]; simp
      have hes2 : after = (d ++ [e]) ++ r := by rw [hes]; simp
      have hme := hmem e (by rw [hes]; simp)
      have q3e := q3 e
      have q1e := q1 e
      obtain ⟨bx, hbx⟩ : ∃ b, (e == x) = b := ⟨_, rfl⟩
      rw [hbx] at hme
      generalize hV e = bv at *
      generalize hF e = bf at *
      generalize hp : std = p
      have et : p.not true = false := not_t hp
      have ef : p.not false = true := not_f hp
      have hse : p.seq e x = bx := by subst hp; exact hbx
      have hinit : d = [] ∨ ∃ d0 e', d = d0 ++ [e'] := by
        cases h : d.reverse with
        | nil => exact .inl (by simpa using h)
        | cons a l => exact .inr ⟨l.reverse, a, by rw [← List.reverse_reverse d, h]; simp⟩
      (generalize cq0 : Frm.ds = cy0, cq1 : Nms = cy1, cq2 : Tm.ds = cy2, cq3 : opI = cy3; cbv <;> subst cq0 cq1 cq2 cq3)
      simp only [at_ltN hp hes]
      (generalize cq0 : Frm.ds = cy0, cq1 : Nms = cy1, cq2 : Tm.ds = cy2, cq3 : opI = cy3; cbv <;> subst cq0 cq1 cq2 cq3)
      rcases hinit with hd | ⟨d0, e', hd⟩
      case' inl =>
        have f1 : p.lt 0 (p.dlen (Nms d)) = false := by subst hp hd; simp [std, Nms]
        simp only [f1]
        (generalize cq0 : Frm.ds = cy0, cq1 : Nms = cy1, cq2 : Tm.ds = cy2, cq3 : opI = cy3; cbv <;> subst cq0 cq1 cq2 cq3)
      case' inr =>
        have hd1 : d.length = d0.length + 1 := by rw [hd]; simp
        have f1 : p.lt 0 (p.dlen (Nms d)) = true := by subst hp; simp [std, Nms, hd1]
        have f2 : p.sub (p.dlen (Nms d)) 1 = p.dlen (Nms d0) := by subst hp hd; simp [std, Nms]
        have hes0 : after = d0 ++ e' :: e :: r := by rw [hes, hd]; simp
        have f3 : p.slt e' e = true := by subst hp; rw [slt_lt]; simpa using sorted_next hsort hes0
        simp only [f1]
        (generalize cq0 : Frm.ds = cy0, cq1 : Nms = cy1, cq2 : Tm.ds = cy2, cq3 : opI = cy3; cbv <;> subst cq0 cq1 cq2 cq3)
        simp only [f2]
        refine ⟨by subst hp; simp [std, Nms_len]; omega, _, at_getN hp hes0, ?_⟩
        (generalize cq0 : Frm.ds = cy0, cq1 : Nms = cy1, cq2 : Tm.ds = cy2, cq3 : opI = cy3; cbv <;> subst cq0 cq1 cq2 cq3)
        refine ⟨_, at_getN hp hes, ?_⟩
        (generalize cq0 : Frm.ds = cy0, cq1 : Nms = cy1, cq2 : Tm.ds = cy2, cq3 : opI = cy3; cbv <;> subst cq0 cq1 cq2 cq3)
        simp only [f3, et]
        (generalize cq0 : Frm.ds = cy0, cq1 : Nms = cy1, cq2 : Tm.ds = cy2, cq3 : opI = cy3; cbv <;> subst cq0 cq1 cq2 cq3)
      all_goals
        refine ⟨_, at_getN hp hes, ?_⟩
        (generalize cq0 : Frm.ds = cy0, cq1 : Nms = cy1, cq2 : Tm.ds = cy2, cq3 : opI = cy3; cbv <;> subst cq0 cq1 cq2 cq3)
        refine drawA.mk _ ⟨_, _, _, rfl, q3e, rfl, rfl⟩ ?_
        (generalize cq0 : Frm.ds = cy0, cq1 : Nms = cy1, cq2 : Tm.ds = cy2, cq3 : opI = cy3; cbv <;> subst cq0 cq1 cq2 cq3)
        cases bv with
        | false =>
          obtain ⟨m1, m2⟩ := hme rfl
          subst m1 m2
          simp only [ef]
          (generalize cq0 : Frm.ds = cy0, cq1 : Nms = cy1, cq2 : Tm.ds = cy2, cq3 : opI = cy3; cbv <;> subst cq0 cq1 cq2 cq3)
          refine ⟨_, at_getN hp hes, ?_⟩
          (generalize cq0 : Frm.ds = cy0, cq1 : Nms = cy1, cq2 : Tm.ds = cy2, cq3 : opI = cy3; cbv <;> subst cq0 cq1 cq2 cq3)
          simp only [hse]
          (generalize cq0 : Frm.ds = cy0, cq1 : Nms = cy1, cq2 : Tm.ds = cy2, cq3 : opI = cy3; cbv <;> subst cq0 cq1 cq2 cq3)
          refine ⟨_, at_getN hp hes, ?_⟩
          (generalize cq0 : Frm.ds = cy0, cq1 : Nms = cy1, cq2 : Tm.ds = cy2, cq3 : opI = cy3; cbv <;> subst cq0 cq1 cq2 cq3)
          refine drawA.mk _ ⟨_, _, _, rfl, q1e, rfl, rfl⟩ ?_
          (generalize cq0 : Frm.ds = cy0, cq1 : Nms = cy1, cq2 : Tm.ds = cy2, cq3 : opI = cy3; cbv <;> subst cq0 cq1 cq2 cq3)
          simp only [et]
          (generalize cq0 : Frm.ds = cy0, cq1 : Nms = cy1, cq2 : Tm.ds = cy2, cq3 : opI = cy3; cbv <;> subst cq0 cq1 cq2 cq3)
          refine ⟨by subst hp; simp [std, Nms_len]; omega, (d ++ [e], r), hes2, by simp, ?_, rfl⟩
          generalize hd2 : d ++ [e] = d2
          (generalize cq0 : Frm.ds = cy0, cq1 : Nms = cy1, cq2 : Tm.ds = cy2, cq3 : opI = cy3; cbv <;> subst cq0 cq1 cq2 cq3)
          subst hp hd2
          simp [std, Nms_len]
        | true =>
          simp only [et]
          (generalize cq0 : Frm.ds = cy0, cq1 : Nms = cy1, cq2 : Tm.ds = cy2, cq3 : opI = cy3; cbv <;> subst cq0 cq1 cq2 cq3)
          refine ⟨by subst hp; simp [std, Nms_len]; omega, (d ++ [e], r), hes2, by simp, ?_, rfl⟩
          generalize hd2 : d ++ [e] = d2
          (generalize cq0 : Frm.ds = cy0, cq1 : Nms = cy1, cq2 : Tm.ds = cy2, cq3 : opI = cy3; cbv <;> subst cq0 cq1 cq2 cq3)
          subst hp hd2
          simp [std, Nms_len]
    | nil =>
      rw [List.append_nil] at hes
      subst hes
      have r1 : std.room [] (Nms before) := by simp [std, Nms_len]; omega
      have r2 : std.room (Nms before) (Nms term) := by simp [std, Nms_len]; omega
      have d1 : std.dcat [] (Nms before) = Nms before := by simp [std]
      have d2 : std.dcat (Nms before) (Nms term) = Nms (before ++ term) := by simp [std, Nms]
      generalize hp : std = p at r1 r2 d1 d2 ⊢
      have et : p.not true = false := not_t hp
      have ef : p.not false = true := not_f hp
      (generalize cq0 : Frm.ds = cy0, cq1 : Nms = cy1, cq2 : Tm.ds = cy2, cq3 : opI = cy3; cbv <;> subst cq0 cq1 cq2 cq3)
      simp only [end_ltN hp]
      (generalize cq0 : Frm.ds = cy0, cq1 : Nms = cy1, cq2 : Tm.ds = cy2, cq3 : opI = cy3; cbv <;> subst cq0 cq1 cq2 cq3)
      simp only [d1, d2]
      refine ⟨r1, r2, ?_⟩
      clear r1 r2 d1 d2 et ef
      have hlall : (before ++ term).length ≤ 600 := by simp; omega
      generalize before ++ term = all at *
      subst hp
      refine loopA_inv (ι := List Nm × List Nm) (fun j => all = j.1 ++ j.2) (fun j => j.2.length)
        (fun j => mkF 137 [(1, .d .old (.str x)), (3, .ptr 0 0), (5, .ptr 1 0), (6, .d .top (.bool false)), (7, .ptr 2 0), (10, .own 4397 1 (Nms after) .new), (13, .own 9299 1 (Nms all) .new), (14, .d .top (.int .i64 (std.dlen (Nms j.1))))])
        (fun j => [.bx [.d .old (.int .u8 (opI o)), .d .old (.str n), .d .old (.row 3 (Tm.ds us)), .d .old (.row 4 (Frm.ds fs))], .bx [.d .old (.bool v), .d .old (.str nm), .d .old (.row 3 (Tm.ds ts))], .bx [.d .new (.int .u8 (opI g1)), .d .new (.str g2), .d .new (.row 3 (Tm.ds g3)), .d .new (.row 4 (Frm.ds g4))]]) (fun j => ()) ([], all) rfl ?_ rfl (fun _ => rfl) ?_
      · generalize hp : std = p
        (generalize cq0 : Frm.ds = cy0, cq1 : Nms = cy1, cq2 : Tm.ds = cy2, cq3 : opI = cy3; cbv <;> subst cq0 cq1 cq2 cq3)
        subst hp
        simp [std, Nms]
      rintro ⟨d, r⟩ hes
      simp only at hes ⊢
      cases r with
      | nil =>
        rw [List.append_nil] at hes
        subst hes
        generalize hp : std = p
        (generalize cq0 : Frm.ds = cy0, cq1 : Nms = cy1, cq2 : Tm.ds = cy2, cq3 : opI = cy3; cbv <;> subst cq0 cq1 cq2 cq3)
        simp only [end_ltN hp]
        (generalize cq0 : Frm.ds = cy0, cq1 : Nms = cy1, cq2 : Tm.ds = cy2, cq3 : opI = cy3; cbv <;> subst cq0 cq1 cq2 cq3)
      | cons e r =>
        have hdl : d.length + (r.length + 1) = all.length := by rw [hes]; simp
        have hes2 : all = (d ++ [e]) ++ r := by rw [hes]; simp
        have w1 := oc1 x
        have w2 := oc3 e
        have w3 := oc1 e
        have w4 := oc2 e
        have w5 := q2 e
        have hg := hcnt e
        have hh := hpos e
        have f1 := b3 x
        have f2 := b3 e
        have f3 := b4 e
        have f4 : F x * V e ≤ 50000 := Nat.mul_le_mul f1 f3
        obtain ⟨m, hm⟩ : ∃ m, F x * V e = m := ⟨_, rfl⟩
        have f5 : std.mul (natI (F x)) (natI (V e)) = natI m := by simp [std, natI, ← hm]
        rw [hm] at f4 hg
        clear oc1 oc2 oc3 hcnt hpos q1 q2 q3 hmem hsort b3 b4 hsm hfw hput k1 k2 k3
        generalize F x = fx at *
        generalize V e = ve at *
        generalize F e = fe at *
        generalize G e = ge at *
        generalize hG e = he at *
        obtain ⟨bx, hbx⟩ : ∃ b, (e == x) = b := ⟨_, rfl⟩
        have hge : ge = m + (if bx then 0 else fe) := by rw [hg, ← hbx]; simp
        have g0 : std.lt 0 (natI ge) = he := by rw [hh]; simp [std, natI]
        have g1 : std.eq (natI ge) (natI ge) = true := by simp [std]
        have g2 : std.beq he he = true := by simp [std]
        have g3 : std.add (natI m) (natI fe) = natI (m + fe) := by simp [std, natI]
        have o1 : std.ok (natI m) := nat_ok rfl (by omega)
        have o2 : std.ok (natI (m + fe)) := nat_ok rfl (by omega)
        have hse : std.seq e x = bx := hbx
        generalize hp : std = p at f5 g0 g1 g2 g3 o1 o2 hse ⊢
        have et : p.not true = false := not_t hp
        have ef : p.not false = true := not_f hp
        (generalize cq0 : Frm.ds = cy0, cq1 : Nms = cy1, cq2 : Tm.ds = cy2, cq3 : opI = cy3; cbv <;> subst cq0 cq1 cq2 cq3)
        simp only [at_ltN hp hes]
        (generalize cq0 : Frm.ds = cy0, cq1 : Nms = cy1, cq2 : Tm.ds = cy2, cq3 : opI = cy3; cbv <;> subst cq0 cq1 cq2 cq3)
        refine ⟨_, at_getN hp hes, ?_⟩
        (generalize cq0 : Frm.ds = cy0, cq1 : Nms = cy1, cq2 : Tm.ds = cy2, cq3 : opI = cy3; cbv <;> subst cq0 cq1 cq2 cq3)
        refine drawA.mk _ ⟨_, _, _, rfl, w1, rfl, rfl⟩ ?_
        (generalize cq0 : Frm.ds = cy0, cq1 : Nms = cy1, cq2 : Tm.ds = cy2, cq3 : natI = cy3, cq4 : opI = cy4; cbv <;> subst cq0 cq1 cq2 cq3 cq4)
        refine drawA.mk _ ⟨_, _, _, rfl, hpp, rfl, rfl⟩ ?_
        (generalize cq0 : Frm.ds = cy0, cq1 : Nms = cy1, cq2 : Tm.ds = cy2, cq3 : natI = cy3, cq4 : opI = cy4; cbv <;> subst cq0 cq1 cq2 cq3 cq4)
        refine drawA.mk _ ⟨_, _, _, rfl, w2, rfl, rfl⟩ ?_
        (generalize cq0 : Frm.ds = cy0, cq1 : Nms = cy1, cq2 : Tm.ds = cy2, cq3 : natI = cy3, cq4 : opI = cy4; cbv <;> subst cq0 cq1 cq2 cq3 cq4)
        simp only [f5, hse]
        refine ⟨o1, ?_⟩
        cases bx with
        | false =>
          simp only [Bool.false_eq_true, if_false] at hge
          rw [← hge] at g3 o2
          clear hge
          simp only [ef]
          (generalize cq0 : Frm.ds = cy0, cq1 : Nms = cy1, cq2 : Tm.ds = cy2, cq3 : natI = cy3, cq4 : opI = cy4; cbv <;> subst cq0 cq1 cq2 cq3 cq4)
          refine callA.pure w3 rfl ?_
          (generalize cq0 : Frm.ds = cy0, cq1 : Nms = cy1, cq2 : Tm.ds = cy2, cq3 : natI = cy3, cq4 : opI = cy4; cbv <;> subst cq0 cq1 cq2 cq3 cq4)
          simp only [g3]
          refine ⟨o2, ?_⟩
          (generalize cq0 : Frm.ds = cy0, cq1 : Nms = cy1, cq2 : Tm.ds = cy2, cq3 : natI = cy3, cq4 : opI = cy4; cbv <;> subst cq0 cq1 cq2 cq3 cq4)
          refine callA.pure w4 rfl ?_
          (generalize cq0 : Frm.ds = cy0, cq1 : Nms = cy1, cq2 : Tm.ds = cy2, cq3 : natI = cy3, cq4 : opI = cy4; cbv <;> subst cq0 cq1 cq2 cq3 cq4)
          simp only [g1, et]
          (generalize cq0 : Frm.ds = cy0, cq1 : Nms = cy1, cq2 : Tm.ds = cy2, cq3 : natI = cy3, cq4 : opI = cy4; cbv <;> subst cq0 cq1 cq2 cq3 cq4)
          refine callA.pure w5 rfl ?_
          (generalize cq0 : Frm.ds = cy0, cq1 : Nms = cy1, cq2 : Tm.ds = cy2, cq3 : natI = cy3, cq4 : opI = cy4; cbv <;> subst cq0 cq1 cq2 cq3 cq4)
          simp only [g0, g2, et]
          (generalize cq0 : Frm.ds = cy0, cq1 : Nms = cy1, cq2 : Tm.ds = cy2, cq3 : natI = cy3, cq4 : opI = cy4; cbv <;> subst cq0 cq1 cq2 cq3 cq4)
          refine ⟨by subst hp; simp [std, Nms_len]; omega, (d ++ [e], r), hes2, by simp, ?_, rfl⟩
          generalize hd2 : d ++ [e] = d2
          (generalize cq0 : Frm.ds = cy0, cq1 : Nms = cy1, cq2 : Tm.ds = cy2, cq3 : natI = cy3, cq4 : opI = cy4; cbv <;> subst cq0 cq1 cq2 cq3 cq4)
          subst hp hd2
          simp [std, Nms_len]
        | true =>
          simp only [if_true, Nat.add_zero] at hge
          subst hge
          simp only [et]
          (generalize cq0 : Frm.ds = cy0, cq1 : Nms = cy1, cq2 : Tm.ds = cy2, cq3 : natI = cy3, cq4 : opI = cy4; cbv <;> subst cq0 cq1 cq2 cq3 cq4)
          refine callA.pure w4 rfl ?_
          (generalize cq0 : Frm.ds = cy0, cq1 : Nms = cy1, cq2 : Tm.ds = cy2, cq3 : natI = cy3, cq4 : opI = cy4; cbv <;> subst cq0 cq1 cq2 cq3 cq4)
          simp only [g1, et]
          (generalize cq0 : Frm.ds = cy0, cq1 : Nms = cy1, cq2 : Tm.ds = cy2, cq3 : natI = cy3, cq4 : opI = cy4; cbv <;> subst cq0 cq1 cq2 cq3 cq4)
          refine callA.pure w5 rfl ?_
          (generalize cq0 : Frm.ds = cy0, cq1 : Nms = cy1, cq2 : Tm.ds = cy2, cq3 : natI = cy3, cq4 : opI = cy4; cbv <;> subst cq0 cq1 cq2 cq3 cq4)
          simp only [g0, g2, et]
          (generalize cq0 : Frm.ds = cy0, cq1 : Nms = cy1, cq2 : Tm.ds = cy2, cq3 : natI = cy3, cq4 : opI = cy4; cbv <;> subst cq0 cq1 cq2 cq3 cq4)
          refine ⟨by subst hp; simp [std, Nms_len]; omega, (d ++ [e], r), hes2, by simp, ?_, rfl⟩
          generalize hd2 : d ++ [e] = d2
          (generalize cq0 : Frm.ds = cy0, cq1 : Nms = cy1, cq2 : Tm.ds = cy2, cq3 : natI = cy3, cq4 : opI = cy4; cbv <;> subst cq0 cq1 cq2 cq3 cq4)
          subst hp hd2
          simp [std, Nms_len]
  · obtain ⟨o, n, us, fs⟩ := f
    obtain ⟨v, nm, ts⟩ := t
    have hbad : b1 = true → b2 = true → (putsS (.mk o n us fs) [(x, .mk v nm ts)]).2 ≠ 0 := fun h1 h2 h3 => hall ⟨h1, h2, h3⟩
    generalize putsS (.mk o n us fs) [(x, .mk v nm ts)] = R at *
    obtain ⟨⟨a1, a2, a3, a4⟩, c⟩ := R
    simp only [Frm.d, Tm.d] at *
    refine pure_by has10 ?_
    generalize hp' : std = p
    have et : p.not true = false := not_t hp'
    have ef : p.not false = true := not_f hp'
    (generalize cq0 : Frm.ds = cy0, cq1 : Tm.ds = cy1, cq2 : opI = cy2; cbv <;> subst cq0 cq1 cq2)
    refine callA.pure awake_ok rfl ?_
    (generalize cq0 : Frm.ds = cy0, cq1 : Tm.ds = cy1, cq2 : opI = cy2; cbv <;> subst cq0 cq1 cq2)
    simp only [et]
    (generalize cq0 : Frm.ds = cy0, cq1 : Tm.ds = cy1, cq2 : opI = cy2; cbv <;> subst cq0 cq1 cq2)
    refine callA.pure hsm rfl ?_
    (generalize cq0 : Frm.ds = cy0, cq1 : Tm.ds = cy1, cq2 : opI = cy2; cbv <;> subst cq0 cq1 cq2)
    cases b1 with
    | false => simp only [ef]; (generalize cq0 : Frm.ds = cy0, cq1 : Tm.ds = cy1, cq2 : opI = cy2; cbv <;> subst cq0 cq1 cq2)
    | true =>
    simp only [et]
    (generalize cq0 : Frm.ds = cy0, cq1 : Tm.ds = cy1, cq2 : opI = cy2; cbv <;> subst cq0 cq1 cq2)
    refine callA.pure hfw rfl ?_
    (generalize cq0 : Frm.ds = cy0, cq1 : Tm.ds = cy1, cq2 : opI = cy2; cbv <;> subst cq0 cq1 cq2)
    cases b2 with
    | false => simp only [ef]; (generalize cq0 : Frm.ds = cy0, cq1 : Tm.ds = cy1, cq2 : opI = cy2; cbv <;> subst cq0 cq1 cq2)
    | true =>
    simp only [et]
    (generalize cq0 : Frm.ds = cy0, cq1 : Tm.ds = cy1, cq2 : opI = cy2; cbv <;> subst cq0 cq1 cq2)
    refine callA.pure (hput (hs1 rfl) (hs2 rfl)) rfl ?_
    have ec : p.eq (natI c) 0 = false := by subst hp'; have := hbad rfl rfl; simp [std, natI]; omega
    (generalize cq0 : Frm.ds = cy0, cq1 : Tm.ds = cy1, cq2 : natI = cy2, cq3 : opI = cy3; cbv <;> subst cq0 cq1 cq2 cq3)
    simp only [ec, ef]
    (generalize cq0 : Frm.ds = cy0, cq1 : Tm.ds = cy1, cq2 : natI = cy2, cq3 : opI = cy3; cbv <;> subst cq0 cq1 cq2 cq3)
end Go.Ly.Tr
end
section
namespace Go.Proofs.YthihgffbljnbcaaGreatDoor.substFrees
open Go Go.Ly Go.Ly.Tr Go.ChangeShapes Go.WideShapes Go.ChangeAt Go.RowKit
set_option maxRecDepth 100000
theorem law (xs : List D) (h : ArgsFit E.P [25, 9, 30] xs) (hb : bulkDs xs ≤ 1048576) : Ly.Pure E 10 (xs.map oldD1) (.d .top (.bool true)) := by
  obtain ⟨f1, r, rfl, w1, k1⟩ := args_frm h
  obtain ⟨s2, r, rfl, w2, k2⟩ := args_str k1
  obtain ⟨t3, r, rfl, w3, k3⟩ := args_tm k2
  obtain rfl := args_nil k3
  simp only [bulkDs] at hb
  exact SubstFrees_ok f1 s2 t3 (by omega) (by omega) (by omega)
theorem contract (H : Type) (enc : TypeId × Value → H) (W : World) (base : Nat) (args : Array Value) (ds gs : List (DataW H)) (before : List MemPlace)
    (hval : ∀ (j : Nat) t v, Tryz.f10.params[j]? = some t → args[j]? = some v → Value.okWide Tryz.prog W .any base t v)
    (hW : DataW.Whole enc Tryz.prog Tryz.f10.params.toList Rows.substFreesSpec.vars false W args.toList ds gs before) (hk : Rows.uptoSmall H (ds ++ gs) = true) (hL : laidMetH Tryz.prog Rows.substFreesUptoRow.laid W) :
    Calls Tryz.prog 10 args W fun e W' => ∃ v, e = .returned v ∧ Rows.substFreesSpec.post enc Tryz.prog Tryz.f10 false true false false W args v W' := by
  have hg := glob (W := W) hL
  refine law_callsb (E := E) (k := 10) (Ts := Ts) (tb := 4) okTs_all (by rw [Tryz.params10]; decide) rfl (by kernel_rfl) u4 ?_ ?_ hval hW (bulk_of hk) hg.1 hg.2
  · intro ds h
    rw [Tryz.params10] at h
    match ds, h with
    | [a, b, c], _ => rfl
  · rw [Tryz.params10]
    exact law
theorem reads (os : Os) {H : Type} (enc : TypeId × Value → H) : ∃ places, DataW.whole enc Tryz.prog ((laidWorld os).forCall (fun _ _ => 0) ⟨#[], #[.agg #[.int .u8 0, .string ⟨#[]⟩, .slice none 0 0, .slice none 0 0], .string ⟨#[]⟩, .agg #[.bool false, .string ⟨#[]⟩, .slice none 0 0]], []⟩).memory Tryz.f10.params.toList Rows.substFreesSpec.vars false (#[.agg #[.int .u8 0, .string ⟨#[]⟩, .slice none 0 0, .slice none 0 0], .string ⟨#[]⟩, .agg #[.bool false, .string ⟨#[]⟩, .slice none 0 0]] : Array Value).toList 8 = some ([.agg [.lit (.int .u8 0), .lit (.string []), .nil, .nil], .lit (.string []), .agg [.lit (.bool false), .lit (.string []), .nil]], [], places) :=
  ⟨[], by kernel_rfl⟩
theorem lifted (os : Os) (started : os.Started) (H : Type) (enc : TypeId × Value → H) (F : Stop.Interp) :
    ReturnsInHanded {} Tryz.checked os 10 .any ((Rows.OpenSpec.upto Rows.substFreesSpec).preRow enc Tryz.prog Tryz.f10 Rows.substFreesUptoRow.domain false Rows.substFreesUptoRow.laid) (((Rows.OpenSpec.upto Rows.substFreesSpec).at F).post enc Tryz.prog Tryz.f10 false true false false) := by
  obtain ⟨places, hx⟩ := reads os enc
  refine returnsInHanded_of_row (C := Tryz.checked) (s := Rows.OpenSpec.upto Rows.substFreesSpec) own started (by kernel_rfl) Tryz.func10
    (witness_row_at (enc := enc) (C := Tryz.checked) false (laidWorld os) #[.agg #[.int .u8 0, .string ⟨#[]⟩, .slice none 0 0, .slice none 0 0], .string ⟨#[]⟩, .agg #[.bool false, .string ⟨#[]⟩, .slice none 0 0]] rfl (by kernel_rfl) (by kernel_rfl) (by kernel_rfl)
      (OpenSpec.preRow_of_cond 8 hx (by kernel_rfl) (fun k hk => by cases hk; kernel_rfl) (by kernel_rfl) (laid_met os _))) ?_
  intro W base args ds gs before hval hW _ hk _ hL _ _
  exact contract H enc W base args ds gs before hval hW (hk _ rfl) hL
theorem said : Rows.SubstFreesUptoSaid :=
  OpenClaim.holds_of_cond 10 Tryz.f10 rfl rfl rfl rfl rfl rfl rfl ⟨rfl, rfl, rfl, rfl, rfl⟩ rfl rfl rfl rfl rfl (by kernel_rfl) Tryz.func10 (by kernel_rfl)
    (of_decide_eq_true (by kernel_rfl)) (by unfold Func.isWrapper; first | (rw [if_pos (by decide +kernel)]; kernel_rfl) | (rw [if_neg (by decide +kernel)]; exact ⟨rfl, rfl⟩))
    (fun os started H enc _ F => by rw [OpenClaim.pre_eq_preRow]; exact lifted os started H enc F)
theorem stands (t : TypeId) (ht : t ∈ [25, 9, 30]) : Tryz.prog.wantsStandIn t = false := by
  have h := List.all_eq_true.1 (show ([25, 9, 30].all fun t => !Tryz.prog.wantsStandIn t) = true by kernel_rfl) t ht
  simpa using h
theorem plain (f : FuncId) (fn : Func) (hf : Tryz.pinned.checked.prog.funcNamed "lyceum/lyceumlaw03.SubstFrees" = some f) (hfn : Tryz.pinned.checked.prog.funcs[f]? = some fn) :
    false = Tryz.pinned.checked.prog.looks [] ∧ ∀ (j : Nat) t, fn.params[j]? = some t → Tryz.pinned.checked.prog.wantsStandIn t = false := by
  obtain rfl : f = 10 := Option.some.inj ((show Tryz.prog.funcNamed "lyceum/lyceumlaw03.SubstFrees" = some 10 by kernel_rfl).symm.trans hf) |>.symm
  obtain rfl : fn = Tryz.f10 := (Option.some.inj (Tryz.func10.symm.trans hfn)).symm
  refine ⟨by kernel_rfl, fun j t ht => ?_⟩
  rw [Tryz.params10] at ht
  have hm : t ∈ [25, 9, 30] := by simpa using Array.mem_of_getElem? ht
  exact stands t hm
theorem card : Rows.SubstFreesUptoCardSaid :=
  Claim7.holds_tied_plain_at .later [] _ _ _ _ said (fun _ h => by cases h) (by kernel_rfl) (fun _ h => by cases h) substFreesUpto_row_tie rfl ⟨rfl, rfl⟩ (by kernel_rfl) rfl plain (by kernel_rfl)
end Go.Proofs.YthihgffbljnbcaaGreatDoor.substFrees
end
