/- The statement SubstLemmaUptoCardSaid holds: lyceumlaw03.SubstLemma returns true and leaves its arguments as they were; its condition is that what it reads is of bulk at most 1048576. -/
import Derived.Test.YthihgffbljnbcaaGreatDoorP4
set_option linter.all false
section
namespace Go.Ly.Tr
def one (x : Nm) (d : DT) : Nm → Option DT := fun n => if x = n then some d else none
theorem sg_one (x : Nm) (t : Tm) : sg [(x, t)] = one x (t.db []) := by
  funext n
  unfold sg one
  by_cases h : x = n
  · simp [List.find?, h]
  · have : (x == n) = false := by simpa using h
    simp [List.find?, h, this]
theorem dt_twice {x y : Nm} {t s : Tm} (hxy : x ≠ y) (hx : x ∉ s.vars) (ht : t.ok = true) (d : DT) :
    (d.sub (sg [(x, t)])).sub (sg [(y, s)]) = (d.sub (sg [(y, s)])).sub (sg [(x, t.sub [(y, s)])]) := by
  have lists : ∀ us : List DT, (∀ a ∈ us, (a.sub (sg [(x, t)])).sub (sg [(y, s)]) = (a.sub (sg [(y, s)])).sub (sg [(x, t.sub [(y, s)])])) →
      DT.subs (sg [(y, s)]) (DT.subs (sg [(x, t)]) us) = DT.subs (sg [(x, t.sub [(y, s)])]) (DT.subs (sg [(y, s)]) us) := by
    intro us h
    simp only [DT.subs_eq, List.map_map]
    exact List.map_congr_left h
  induction d using DT.ind with
  | h1 i us ih => simp only [DT.sub, lists us ih]
  | h2 v n us ih =>
    have hl := lists us ih
    cases v with
    | false => simp only [DT.sub, Bool.false_eq_true, if_false, hl]
    | true =>
      by_cases h1 : x = n
      · subst h1
        have e1 : sg [(x, t)] x = some (t.db []) := by rw [sg_one]; simp [one]
        have e2 : sg [(y, s)] x = none := by rw [sg_one]; simp [one, Ne.symm hxy]
        have e3 : sg [(x, t.sub [(y, s)])] x = some ((t.sub [(y, s)]).db []) := by rw [sg_one]; simp [one]
        simp only [DT.sub, if_true, e1, e2, e3]
        rw [sub_db ht]
      · by_cases h2 : y = n
        · subst h2
          have e1 : sg [(x, t)] y = none := by rw [sg_one]; simp [one, hxy]
          have e2 : sg [(y, s)] y = some (s.db []) := by rw [sg_one]; simp [one]
          simp only [DT.sub, if_true, e1, e2]
          rw [dt_none]
          intro m hm
          rw [tm_fr0] at hm
          rw [sg_one]
          have : x ≠ m := fun e => hx (e ▸ hm)
          simp [one, this]
        · have e1 : sg [(x, t)] n = none := by rw [sg_one]; simp [one, h1]
          have e2 : sg [(y, s)] n = none := by rw [sg_one]; simp [one, h2]
          have e3 : sg [(x, t.sub [(y, s)])] n = none := by rw [sg_one]; simp [one, h1]
          simp only [DT.sub, if_true, e1, e2, e3, hl]
theorem df_twice {x y : Nm} {t s : Tm} (hxy : x ≠ y) (hx : x ∉ s.vars) (ht : t.ok = true) (d : DF) :
    (d.sub (sg [(x, t)])).sub (sg [(y, s)]) = (d.sub (sg [(y, s)])).sub (sg [(x, t.sub [(y, s)])]) := by
  induction d using DF.ind with
  | h o n us fs ih =>
    simp only [DF.sub, DF.subs_eq, DT.subs_eq, List.map_map]
    congr 1
    · exact List.map_congr_left fun a _ => dt_twice hxy hx ht a
    · exact List.map_congr_left ih
mutual
def DT.vok : DT → Bool
  | .bnd _ us => us.isEmpty
  | .fre v _ us => (!v || us.isEmpty) && DT.voks us
def DT.voks : List DT → Bool
  | [] => true
  | t :: l => t.vok && DT.voks l
end
mutual
def DF.vok : DF → Bool
  | .mk _ _ us fs => DT.voks us && DF.voks fs
def DF.voks : List DF → Bool
  | [] => true
  | t :: l => t.vok && DF.voks l
end
theorem tms_vok {e : List Nm} : ∀ us : List Tm, (∀ a ∈ us, (a.db e).vok = true) → DT.voks (Tm.dbs e us) = true
  | [], _ => rfl
  | a :: us, h => by
    rw [Tm.dbs, DT.voks, Bool.and_eq_true]
    exact ⟨h a (by simp), tms_vok us fun b hb => h b (by simp [hb])⟩
theorem tm_vok (e : List Nm) (t : Tm) : t.ok = true → (t.db e).vok = true := by
  induction t using Tm.ind with
  | h v n us ih =>
  intro h
  cases v with
  | true =>
    obtain ⟨rfl, _⟩ := ok_var h
    rw [Vr_db]
    unfold dvar
    cases idxE e n <;> rfl
  | false =>
    have hk := (ok_fun h).2
    simp only [Tm.db, Bool.false_eq_true, if_false, DT.vok, Bool.not_false, Bool.true_or, Bool.true_and]
    exact tms_vok us fun a ha => ih a ha (oks_mem hk ha)
theorem frm_vok (f : Frm) : ∀ e : List Nm, f.ok = true → (f.db e).vok = true := by
  induction f using Frm.ind with
  | h o n us fs ih =>
  intro e h
  have hp := ok_parts h
  have h1 : DT.voks (Tm.dbs e us) = true := tms_vok us fun a ha => tm_vok e a (oks_mem hp.1 ha)
  have h2 : ∀ e : List Nm, DF.voks (Frm.dbs e fs) = true := by
    intro e
    have hk := hp.2
    clear h hp h1
    induction fs with
    | nil => rfl
    | cons a fs ihf =>
      rw [Frm.oks, Bool.and_eq_true] at hk
      rw [Frm.dbs, DF.voks, Bool.and_eq_true]
      exact ⟨ih a (by simp) e hk.1, ihf (fun b hb => ih b (by simp [hb])) hk.2⟩
  rw [Frm.db]
  cases isQ o <;> simp [DF.vok, h1, h2]
theorem dt_big {σ : Nm → Option DT} {m : Nm} {u : DT} (hu : σ m = some u) (d : DT) : d.vok = true → m ∈ d.fr → u.size ≤ (d.sub σ).size := by
  have lists : ∀ us : List DT, (∀ a ∈ us, a.vok = true → m ∈ a.fr → u.size ≤ (a.sub σ).size) → DT.voks us = true → m ∈ DT.frs us → u.size ≤ DT.sizes (DT.subs σ us) := by
    intro us
    induction us with
    | nil => intro _ _ h; cases h
    | cons a us ih =>
      intro h1 h0 h2
      simp only [DT.voks, Bool.and_eq_true] at h0
      simp only [DT.frs, List.mem_append] at h2
      simp only [DT.subs, DT.sizes]
      rcases h2 with h2 | h2
      · have := h1 a (by simp) h0.1 h2; omega
      · have := ih (fun b hb => h1 b (by simp [hb])) h0.2 h2; omega
  induction d using DT.ind with
  | h1 i us ih =>
    intro h0 h
    have : us = [] := by simpa [DT.vok] using h0
    subst this
    cases h
  | h2 v n us ih =>
    intro h0 h
    simp only [DT.vok, Bool.and_eq_true, Bool.or_eq_true, Bool.not_eq_true', List.isEmpty_iff] at h0
    simp only [DT.fr, List.mem_append] at h
    cases v with
    | false =>
      have := lists us ih h0.2 (by simpa using h)
      simp only [DT.sub, Bool.false_eq_true, if_false, DT.size]
      omega
    | true =>
      have : us = [] := h0.1.resolve_left (by simp)
      subst this
      simp only [if_true, List.mem_singleton, DT.frs, List.not_mem_nil, or_false] at h
      subst h
      simp only [DT.sub, if_true, hu]
      exact Nat.le_refl _
theorem dts_big {σ : Nm → Option DT} {m : Nm} {u : DT} (hu : σ m = some u) : ∀ us : List DT, DT.voks us = true → m ∈ DT.frs us → u.size ≤ DT.sizes (DT.subs σ us)
  | [], _, h => by cases h
  | a :: us, h0, h => by
    simp only [DT.voks, Bool.and_eq_true] at h0
    simp only [DT.frs, List.mem_append] at h
    simp only [DT.subs, DT.sizes]
    rcases h with h | h
    · have := dt_big hu a h0.1 h; omega
    · have := dts_big hu us h0.2 h; omega
theorem df_big {σ : Nm → Option DT} {m : Nm} {u : DT} (hu : σ m = some u) (d : DF) : d.vok = true → m ∈ d.fr → u.size + 1 ≤ (d.sub σ).size := by
  induction d using DF.ind with
  | h o n us fs ih =>
  intro h0 h
  simp only [DF.vok, Bool.and_eq_true] at h0
  simp only [DF.fr, List.mem_append] at h
  simp only [DF.sub, DF.size]
  rcases h with h | h
  · have := dts_big hu us h0.1 h; omega
  · have lists : ∀ fs : List DF, (∀ a ∈ fs, a.vok = true → m ∈ a.fr → u.size + 1 ≤ (a.sub σ).size) → DF.voks fs = true → m ∈ DF.frs fs → u.size + 1 ≤ DF.sizes (DF.subs σ fs) := by
      intro us
      induction us with
      | nil => intro _ _ h; cases h
      | cons a us ih =>
        intro h1 h0 h2
        simp only [DF.voks, Bool.and_eq_true] at h0
        simp only [DF.frs, List.mem_append] at h2
        simp only [DF.subs, DF.sizes]
        rcases h2 with h2 | h2
        · have := h1 a (by simp) h0.1 h2; omega
        · have := ih (fun b hb => h1 b (by simp [hb])) h0.2 h2; omega
    have := lists fs ih h0.2 h
    omega
theorem put_big {f : Frm} {l : List Sb} {m : Nm} {o : Sb} (hf : f.ok = true) (ho : l.find? (fun o => o.1 == m) = some o) (hm : m ∈ f.frees) : o.2.size + 1 ≤ (f.put l).size := by
  have h1 := df_big (σ := sg l) (m := m) (u := o.2.db []) (by rw [sg, ho]; rfl) (f.db []) (frm_vok f [] hf) (by rw [frm_fr0]; exact hm)
  have h2 := frm_size (f.put l) []
  have h3 := tm_size [] o.2
  rw [put_db hf] at h2
  omega
theorem dt_small {σ : Nm → Option DT} {M : Nat} (hM : 1 ≤ M) (d : DT) : (∀ m ∈ d.fr, ∀ u, σ m = some u → u.size ≤ M) → (d.sub σ).size ≤ M * d.size := by
  have lists : ∀ us : List DT, (∀ a ∈ us, (∀ m ∈ a.fr, ∀ u, σ m = some u → u.size ≤ M) → (a.sub σ).size ≤ M * a.size) → (∀ m ∈ DT.frs us, ∀ u, σ m = some u → u.size ≤ M) → DT.sizes (DT.subs σ us) ≤ M * DT.sizes us := by
    intro us
    induction us with
    | nil => intro _ _; exact Nat.le_refl _
    | cons a us ih =>
      intro h1 h2
      simp only [DT.frs, List.mem_append] at h2
      have h3 := h1 a (by simp) fun m hm => h2 m (.inl hm)
      have h4 := ih (fun b hb => h1 b (by simp [hb])) fun m hm => h2 m (.inr hm)
      simp only [DT.subs, DT.sizes, Nat.mul_add]
      omega
  induction d using DT.ind with
  | h1 i us ih =>
    intro h
    have := lists us ih h
    simp only [DT.sub, DT.size, Nat.mul_add]
    omega
  | h2 v n us ih =>
    intro h
    simp only [DT.fr, List.mem_append] at h
    have := lists us ih fun m hm => h m (.inr hm)
    simp only [DT.size, DT.sub, Nat.mul_add]
    cases v with
    | false => simp only [Bool.false_eq_true, if_false, DT.size]; omega
    | true =>
      simp only [if_true]
      cases hs : σ n with
      | none => simp only [DT.size]; omega
      | some u =>
        have := h n (.inl (by simp)) u hs
        simp only
        omega
theorem df_small {σ : Nm → Option DT} {M : Nat} (hM : 1 ≤ M) (d : DF) : (∀ m ∈ d.fr, ∀ u, σ m = some u → u.size ≤ M) → (d.sub σ).size ≤ M * d.size := by
  have terms : ∀ us : List DT, (∀ m ∈ DT.frs us, ∀ u, σ m = some u → u.size ≤ M) → DT.sizes (DT.subs σ us) ≤ M * DT.sizes us := by
    intro us
    induction us with
    | nil => intro _; exact Nat.le_refl _
    | cons a us ih =>
      intro h2
      simp only [DT.frs, List.mem_append] at h2
      have h3 := dt_small hM a fun m hm => h2 m (.inl hm)
      have h4 := ih fun m hm => h2 m (.inr hm)
      simp only [DT.subs, DT.sizes, Nat.mul_add]
      omega
  induction d using DF.ind with
  | h o n us fs ih =>
    intro h
    simp only [DF.fr, List.mem_append] at h
    have lists : ∀ us : List DF, (∀ a ∈ us, (∀ m ∈ a.fr, ∀ u, σ m = some u → u.size ≤ M) → (a.sub σ).size ≤ M * a.size) → (∀ m ∈ DF.frs us, ∀ u, σ m = some u → u.size ≤ M) → DF.sizes (DF.subs σ us) ≤ M * DF.sizes us := by
      intro us
      induction us with
      | nil => intro _ _; exact Nat.le_refl _
      | cons a us ih =>
        intro h1 h2
        simp only [DF.frs, List.mem_append] at h2
        have h3 := h1 a (by simp) fun m hm => h2 m (.inl hm)
        have h4 := ih (fun b hb => h1 b (by simp [hb])) fun m hm => h2 m (.inr hm)
        simp only [DF.subs, DF.sizes, Nat.mul_add]
        omega
    have h1 := terms us fun m hm => h m (.inl hm)
    have h2 := lists fs ih fun m hm => h m (.inr hm)
    simp only [DF.sub, DF.size, Nat.mul_add]
    omega
theorem put_small {M : Nat} (hM : 1 ≤ M) {f : Frm} {l : List Sb} (hf : f.ok = true) (hl : ∀ o ∈ l, o.1 ∈ f.frees → o.2.size ≤ M) : (f.put l).size ≤ M * f.size := by
  have h1 := df_small (σ := sg l) hM (f.db []) fun m hm u hu => by
    rw [sg, Option.map_eq_some_iff] at hu
    obtain ⟨o, ho, rfl⟩ := hu
    rw [frm_fr0] at hm
    have h2 : o.1 = m := by simpa using List.find?_some ho
    rw [(tm_size [] o.2).1]
    exact hl o (List.mem_of_find?_eq_some ho) (h2 ▸ hm)
  have h2 := frm_size (f.put l) []
  have h3 := frm_size f []
  rw [put_db hf] at h2
  rw [h2.1, h3.1] at h1
  exact h1
theorem sub_small {M : Nat} (hM : 1 ≤ M) {t : Tm} {l : List Sb} (ht : t.ok = true) (hl : ∀ o ∈ l, o.2.size ≤ M) : (t.sub l).size ≤ M * t.size := by
  have h1 := dt_small (σ := sg l) hM (t.db []) fun m hm u hu => by
    rw [sg, Option.map_eq_some_iff] at hu
    obtain ⟨o, ho, rfl⟩ := hu
    rw [(tm_size [] o.2).1]
    exact hl o (List.mem_of_find?_eq_some ho)
  have h2 := tm_size [] (t.sub l)
  have h3 := tm_size [] t
  rw [sub_db ht] at h2
  rw [h2.1, h3.1] at h1
  exact h1
theorem lemma_law {f : Frm} {x y : Nm} {t s : Tm} (hxy : x ≠ y) (hx : x ∉ s.vars) (ht : t.size ≤ 1000) (hs : s.size ≤ 1000) (h1 : (putsS f [(x, t)]).2 = 0) (h2 : (putsS (putsS f [(x, t)]).1 [(y, s)]).2 = 0) (h3 : (putsS f [(y, s)]).2 = 0) :
    (putsS (putsS f [(y, s)]).1 [(x, t.sub [(y, s)])]).2 = 0 ∧ alphaB (putsS (putsS f [(x, t)]).1 [(y, s)]).1 (putsS (putsS f [(y, s)]).1 [(x, t.sub [(y, s)])]).1 = true := by
  obtain ⟨hf, ha1, _, s1, d1, e1⟩ := puts_zero h1
  rw [e1] at h2 ⊢
  obtain ⟨hg, ha2, _, s2, d2, e2⟩ := puts_zero h2
  rw [e2]
  obtain ⟨_, ha3, _, s3, d3, e3⟩ := puts_zero h3
  rw [e3]
  simp only at *
  have hfr := right_iff.1 hf
  have htk := (args_ok ha1 (x, t) (by simp)).2
  have hxk := (args_ok ha1 (x, t) (by simp)).1
  have hsk := (args_ok ha2 (y, s) (by simp)).2
  simp only at htk hxk hsk
  have hgk := (right_iff.1 hg).2.2
  have hbk : (f.put [(y, s)]).ok = true := put_right f _ hfr.2.2 (by simpa using hsk) (by simp only [Sb.sz]; omega)
  have hbr : (f.put [(y, s)]).right = true := right_iff.2 ⟨s3, d3, hbk⟩
  have hck : (t.sub [(y, s)]).ok = true := sub_ok (by simpa using hsk) t htk
  have hdb : ((f.put [(x, t)]).put [(y, s)]).db [] = ((f.put [(y, s)]).put [(x, t.sub [(y, s)])]).db [] := by
    rw [put_db hgk, put_db hfr.2.2, put_db hbk, put_db hfr.2.2]
    exact df_twice hxy hx htk _
  have z1 := frm_size ((f.put [(x, t)]).put [(y, s)]) []
  have z2 := frm_size ((f.put [(y, s)]).put [(x, t.sub [(y, s)])]) []
  rw [hdb] at z1
  have hcs := sub_small (M := 1000) (by omega) (l := [(y, s)]) htk (by simpa using hs)
  have hfin := puts_fine (l := [(x, t.sub [(y, s)])]) hbr (args_one hxk hck) (by
    rw [List.any_eq_false]
    intro o ho h
    rw [List.mem_singleton] at ho
    subst ho
    simp only [bigB, set_has, Bool.and_eq_true, decide_eq_true_eq, hasB_mem] at h
    have := put_big (l := [(x, t.sub [(y, s)])]) (m := x) (o := (x, t.sub [(y, s)])) hbk (by simp [List.find?]) h.1
    simp only at this
    omega) (by omega) (by omega)
  rw [hfin]
  refine ⟨rfl, alpha_iff.2 ⟨right_iff.2 ⟨s2, d2, put_right _ _ hgk (by simpa using hsk) (by simp only [Sb.sz]; omega)⟩, right_iff.2 ⟨by simp only; omega, by simp only; omega, put_right _ _ hbk (by simpa using hck) (by simp only [Sb.sz]; omega)⟩, hdb⟩⟩
end Go.Ly.Tr
end
section
namespace Go.Ly.Tr
set_option maxRecDepth 20000
theorem code_size (f : Frm) (l : List Sb) : (putsS f l).1.size ≤ 400 := by
  rcases puts_code f l with h | ⟨_, h⟩
  · obtain ⟨_, _, _, h4, _, he⟩ := puts_zero h
    rw [he]
    exact h4
  · rw [h]
    decide
theorem SubstLemma_ok (f : Frm) (x y : Nm) (t s : Tm) (hf : f.wt ≤ 1900000) (hx : x.length ≤ 1900000) (hy : y.length ≤ 1900000) (ht : t.wt ≤ 1900000) (hs : s.wt ≤ 1900000) :
    Pure E 11 [.d .old f.d, .d .old (.str x), .d .old (.str y), .d .old t.d, .d .old s.d] (.d .top (.bool true)) := by
  have hsm := Small_ok [f] (by simp only [Frm.wts]; omega)
  have hfw := few_ok [(x, t), (y, s)] (by simp only [List.mem_cons, List.not_mem_nil, or_false, forall_eq_or_imp, forall_eq]; omega)
  have hs1 : smallB [f] = true → f.size ≤ 500 := small_one
  have hs2 : fewB [(x, t), (y, s)] = true → t.size ≤ 99 ∧ s.size ≤ 99 := fun h => ⟨few_size h (List.mem_cons_self), few_size h (List.mem_cons_of_mem _ (List.mem_singleton.2 rfl))⟩
  have hft : s.size ≤ 99 → Pure E 41 [.d .old s.d] (.fresh 1 (Nms (setN s.vars)) .new) := fun h => FreeTerm_ok s (by omega)
  have hhas : s.size ≤ 99 → Pure E 24 [.d .old (.row 1 (Nms (setN s.vars))), .d .old (.str x)] (.d .top (.bool (hasB s.vars x))) := fun h1 => by
    have h2 := Tm.vars_len s
    have h3 := set_len s.vars
    have h := has_ok (setN s.vars) x (by omega)
    rwa [set_has] at h
  have hp1 : f.size ≤ 500 → t.size ≤ 99 → Pure E 20 [.d .old f.d, .d .old (.str x), .d .old t.d] (.tup [.d .new (putsS f [(x, t)]).1.d, .d .top (.int .i64 (natI (putsS f [(x, t)]).2))]) := fun h1 h2 => Put_ok f x t (by omega) (by omega)
  have hz := same_ok zeroF (by decide) zeroF
  rw [show zeroF.same zeroF = true by kernel_rfl] at hz
  have hz : Pure E 23 [.d .old (.agg [.int .u8 0, .str [], .row 3 [], .row 4 []]), .d .old (.agg [.int .u8 0, .str [], .row 3 [], .row 4 []])] (.d .top (.bool true)) := hz
  have hbad : (putsS f [(x, t)]).2 ≠ 0 → (putsS f [(x, t)]).1 = zeroF ∧ ((putsS f [(x, t)]).2 = 2 ∨ (putsS f [(x, t)]).2 = 3) := fun h => by
    rcases puts_code f [(x, t)] with h' | ⟨h1, h2⟩
    · exact absurd h' h
    · exact ⟨h2, h1⟩
  have hsz := code_size f [(x, t)]
  have hsz3 := code_size f [(y, s)]
  have hp2 : s.size ≤ 99 → Pure E 20 [.d .old (putsS f [(x, t)]).1.d, .d .old (.str y), .d .old s.d] (.tup [.d .new (putsS (putsS f [(x, t)]).1 [(y, s)]).1.d, .d .top (.int .i64 (natI (putsS (putsS f [(x, t)]).1 [(y, s)]).2))]) := fun h1 => Put_ok _ y s (by omega) (by omega)
  have hp3 : f.size ≤ 500 → s.size ≤ 99 → Pure E 20 [.d .old f.d, .d .old (.str y), .d .old s.d] (.tup [.d .new (putsS f [(y, s)]).1.d, .d .top (.int .i64 (natI (putsS f [(y, s)]).2))]) := fun h1 h2 => Put_ok f y s (by omega) (by omega)
  have hpt : t.size ≤ 99 → s.size ≤ 99 → Pure E 35 [.d .old t.d, .d .old (.row 4 (mapO Sb.d [(y, s)]))] (.d .new (t.sub [(y, s)]).d) := fun h1 h2 => PutTerm_ok t _ (by omega) (by simp only [Sb.sz]; omega)
  have hlast : t.size ≤ 99 → s.size ≤ 99 → (x == y) = false → hasB s.vars x = false → (putsS f [(x, t)]).2 = 0 → (putsS (putsS f [(x, t)]).1 [(y, s)]).2 = 0 → (putsS f [(y, s)]).2 = 0 →
      Pure E 20 [.d .old (putsS f [(y, s)]).1.d, .d .old (.str x), .d .old (t.sub [(y, s)]).d] (.tup [.d .new (putsS (putsS f [(y, s)]).1 [(x, t.sub [(y, s)])]).1.d, .d .top (.int .i64 (natI 0))]) ∧
      Pure E 27 [.d .old (putsS (putsS f [(x, t)]).1 [(y, s)]).1.d, .d .old (putsS (putsS f [(y, s)]).1 [(x, t.sub [(y, s)])]).1.d] (.d .top (.bool true)) := fun h1 h2 h3 h4 h5 h6 h7 => by
    obtain ⟨l1, l2⟩ := lemma_law (f := f) (by simpa using h3) (hasB_not.1 h4) (by omega) (by omega) h5 h6 h7
    have htk : t.ok = true := (args_ok (puts_zero h5).2.1 (x, t) (by simp)).2
    have hcs := sub_small (M := 99) (by omega) (l := [(y, s)]) htk (by simpa using h2)
    constructor
    · have := Put_of (putsS f [(y, s)]).1 x (t.sub [(y, s)]) (puts_okG _ _ (by omega) (by simp; omega) (by simp only [Sb.sz]; omega) (by simp) fun hr hb => by
        have hr' := right_iff.1 hr
        have := put_small (M := 400) (by omega) hr'.2.2 (l := [(x, t.sub [(y, s)])]) (by
          intro o ho hm
          rw [List.any_eq_false] at hb
          have := hb o ho
          simp only [bigB, set_has, Bool.and_eq_true, decide_eq_true_eq, hasB_mem, not_and] at this
          have := this hm
          omega)
        omega)
      rwa [l1] at this
    · have := Alpha_ok (putsS (putsS f [(x, t)]).1 [(y, s)]).1 (putsS (putsS f [(y, s)]).1 [(x, t.sub [(y, s)])]).1 (by have := code_size (putsS f [(x, t)]).1 [(y, s)]; omega) (by have := code_size (putsS f [(y, s)]).1 [(x, t.sub [(y, s)])]; omega)
      rwa [l2] at this
  generalize smallB [f] = b1 at *
  generalize fewB [(x, t), (y, s)] = b2 at *
  generalize hasB s.vars x = b6 at *
  generalize setN s.vars = fr at *
  obtain ⟨bx, hbx⟩ : ∃ b, (x == y) = b := ⟨_, rfl⟩
  rw [hbx] at hlast
  generalize t.sub [(y, s)] = both at *
  generalize putsS f [(x, t)] = R1 at *
  generalize putsS f [(y, s)] = R3 at *
  generalize putsS R1.1 [(y, s)] = R2 at *
  generalize putsS R3.1 [(x, both)] = R4 at *
  obtain ⟨⟨a1, a2, a3, a4⟩, c1⟩ := R1
  obtain ⟨⟨b1', b2', b3', b4'⟩, c2⟩ := R2
  obtain ⟨⟨d1, d2, d3, d4⟩, c3⟩ := R3
  obtain ⟨⟨g1, g2, g3, g4⟩, c4⟩ := R4
  obtain ⟨o, n, us, fs⟩ := f
  obtain ⟨v, nm, ts⟩ := t
  obtain ⟨w, nm', ts'⟩ := s
  obtain ⟨u, nm'', ts''⟩ := both
  simp only [Frm.d, Tm.d] at *
  refine pure_by has11 ?_
  generalize hp : std = p
  have et : p.not true = false := not_t hp
  have ef : p.not false = true := not_f hp
  have e0 : p.eq 0 0 = true := by subst hp; rfl
  have hnat : ∀ c : Nat, p.eq (natI c) 0 = decide (c = 0) := fun c => by subst hp; by_cases h : c = 0 <;> simp [std, natI, h]
  have hse : p.seq x y = bx := by subst hp; exact hbx
  (generalize cq0 : Frm.ds = cy0, cq1 : Tm.ds = cy1, cq2 : opI = cy2; cbv <;> subst cq0 cq1 cq2)
  refine callA.pure awake_ok rfl ?_
  (generalize cq0 : Frm.ds = cy0, cq1 : Tm.ds = cy1, cq2 : opI = cy2; cbv <;> subst cq0 cq1 cq2)
  simp only [et]
  (generalize cq0 : Frm.ds = cy0, cq1 : Tm.ds = cy1, cq2 : opI = cy2; cbv <;> subst cq0 cq1 cq2)
  refine callA.pure hsm rfl ?_
  (generalize cq0 : Frm.ds = cy0, cq1 : Tm.ds = cy1, cq2 : opI = cy2; cbv <;> subst cq0 cq1 cq2)
  cases b1 with
  | false => simp only [ef]; (generalize cq0 : Frm.ds = cy0, cq1 : Tm.ds = cy1, cq2 : opI = cy2; cbv <;> subst cq0 cq1 cq2)
  | true =>
  replace hs1 := hs1 rfl
  simp only [et]
  (generalize cq0 : Frm.ds = cy0, cq1 : Tm.ds = cy1, cq2 : opI = cy2; cbv <;> subst cq0 cq1 cq2)
  refine callA.pure hfw rfl ?_
  (generalize cq0 : Frm.ds = cy0, cq1 : Tm.ds = cy1, cq2 : opI = cy2; cbv <;> subst cq0 cq1 cq2)
  cases b2 with
  | false => simp only [ef]; (generalize cq0 : Frm.ds = cy0, cq1 : Tm.ds = cy1, cq2 : opI = cy2; cbv <;> subst cq0 cq1 cq2)
  | true =>
  obtain ⟨hs2, hs3⟩ := hs2 rfl
  simp only [et]
  (generalize cq0 : Frm.ds = cy0, cq1 : Tm.ds = cy1, cq2 : opI = cy2; cbv <;> subst cq0 cq1 cq2)
  simp only [hse]
  cases bx with
  | true => (generalize cq0 : Frm.ds = cy0, cq1 : Tm.ds = cy1, cq2 : opI = cy2; cbv <;> subst cq0 cq1 cq2)
  | false =>
  (generalize cq0 : Frm.ds = cy0, cq1 : Tm.ds = cy1, cq2 : opI = cy2; cbv <;> subst cq0 cq1 cq2)
  refine callA.pure (hft hs3) rfl ?_
  (generalize cq0 : Frm.ds = cy0, cq1 : Nms = cy1, cq2 : Tm.ds = cy2, cq3 : opI = cy3; cbv <;> subst cq0 cq1 cq2 cq3)
  refine callA.pure (hhas hs3) rfl ?_
  (generalize cq0 : Frm.ds = cy0, cq1 : Nms = cy1, cq2 : Tm.ds = cy2, cq3 : opI = cy3; cbv <;> subst cq0 cq1 cq2 cq3)
  cases b6 with
  | true => (generalize cq0 : Frm.ds = cy0, cq1 : Nms = cy1, cq2 : Tm.ds = cy2, cq3 : opI = cy3; cbv <;> subst cq0 cq1 cq2 cq3)
  | false =>
  (generalize cq0 : Frm.ds = cy0, cq1 : Nms = cy1, cq2 : Tm.ds = cy2, cq3 : opI = cy3; cbv <;> subst cq0 cq1 cq2 cq3)
  refine callA.pure (hp1 hs1 hs2) rfl ?_
  (generalize cq0 : Frm.ds = cy0, cq1 : Nms = cy1, cq2 : Tm.ds = cy2, cq3 : natI = cy3, cq4 : opI = cy4; cbv <;> subst cq0 cq1 cq2 cq3 cq4)
  simp only [hnat]
  by_cases h0 : c1 = 0
  · rw [show decide (c1 = 0) = true by simpa using h0]
    simp only [et]
    (generalize cq0 : Frm.ds = cy0, cq1 : Nms = cy1, cq2 : Tm.ds = cy2, cq3 : natI = cy3, cq4 : opI = cy4; cbv <;> subst cq0 cq1 cq2 cq3 cq4)
    refine callA.pure (hp2 hs3) rfl ?_
    (generalize cq0 : Frm.ds = cy0, cq1 : Nms = cy1, cq2 : Tm.ds = cy2, cq3 : natI = cy3, cq4 : opI = cy4; cbv <;> subst cq0 cq1 cq2 cq3 cq4)
    refine callA.pure (hp3 hs1 hs3) rfl ?_
    (generalize cq0 : Frm.ds = cy0, cq1 : Nms = cy1, cq2 : Tm.ds = cy2, cq3 : natI = cy3, cq4 : opI = cy4; cbv <;> subst cq0 cq1 cq2 cq3 cq4)
    simp only [hnat]
    by_cases h1 : c2 = 0
    · rw [show decide (c2 = 0) = true by simpa using h1]
      simp only [et]
      (generalize cq0 : Frm.ds = cy0, cq1 : Nms = cy1, cq2 : Tm.ds = cy2, cq3 : natI = cy3, cq4 : opI = cy4; cbv <;> subst cq0 cq1 cq2 cq3 cq4)
      simp only [hnat]
      by_cases h2 : c3 = 0
      · rw [show decide (c3 = 0) = true by simpa using h2]
        simp only [et]
        (generalize cq0 : Frm.ds = cy0, cq1 : Nms = cy1, cq2 : Tm.ds = cy2, cq3 : natI = cy3, cq4 : opI = cy4; cbv <;> subst cq0 cq1 cq2 cq3 cq4)
        obtain ⟨k1, k2⟩ := hlast hs2 hs3 rfl rfl h0 h1 h2
        refine callA.pure (hpt hs2 hs3) rfl ?_
        (generalize cq0 : Frm.ds = cy0, cq1 : Nms = cy1, cq2 : Tm.ds = cy2, cq3 : natI = cy3, cq4 : opI = cy4; cbv <;> subst cq0 cq1 cq2 cq3 cq4)
        refine callA.pure k1 rfl ?_
        (generalize cq0 : Frm.ds = cy0, cq1 : Nms = cy1, cq2 : Tm.ds = cy2, cq3 : natI = cy3, cq4 : opI = cy4; cbv <;> subst cq0 cq1 cq2 cq3 cq4)
        simp only [hnat]
        (generalize cq0 : Frm.ds = cy0, cq1 : Nms = cy1, cq2 : Tm.ds = cy2, cq3 : natI = cy3, cq4 : opI = cy4; cbv <;> subst cq0 cq1 cq2 cq3 cq4)
        refine callA.pure k2 rfl ?_
        (generalize cq0 : Frm.ds = cy0, cq1 : Nms = cy1, cq2 : Tm.ds = cy2, cq3 : natI = cy3, cq4 : opI = cy4; cbv <;> subst cq0 cq1 cq2 cq3 cq4)
      · rw [show decide (c3 = 0) = false by simpa using h2]
        simp only [ef]
        (generalize cq0 : Frm.ds = cy0, cq1 : Nms = cy1, cq2 : Tm.ds = cy2, cq3 : natI = cy3, cq4 : opI = cy4; cbv <;> subst cq0 cq1 cq2 cq3 cq4)
    · rw [show decide (c2 = 0) = false by simpa using h1]
      simp only [ef]
      (generalize cq0 : Frm.ds = cy0, cq1 : Nms = cy1, cq2 : Tm.ds = cy2, cq3 : natI = cy3, cq4 : opI = cy4; cbv <;> subst cq0 cq1 cq2 cq3 cq4)
  · rw [show decide (c1 = 0) = false by simpa using h0]
    simp only [ef]
    obtain ⟨k1, k2⟩ := hbad h0
    cases k1
    (generalize cq0 : Frm.ds = cy0, cq1 : Nms = cy1, cq2 : Tm.ds = cy2, cq3 : natI = cy3, cq4 : opI = cy4; cbv <;> subst cq0 cq1 cq2 cq3 cq4)
    refine callA.pure hz rfl ?_
    (generalize cq0 : Frm.ds = cy0, cq1 : Nms = cy1, cq2 : Tm.ds = cy2, cq3 : natI = cy3, cq4 : opI = cy4; cbv <;> subst cq0 cq1 cq2 cq3 cq4)
    rcases k2 with k2 | k2
    · subst k2
      have e22 : p.eq (natI 2) 2 = true := by subst hp; rfl
      simp only [e22]
      (generalize cq0 : Frm.ds = cy0, cq1 : Nms = cy1, cq2 : Tm.ds = cy2, cq3 : natI = cy3, cq4 : opI = cy4; cbv <;> subst cq0 cq1 cq2 cq3 cq4)
    · subst k2
      have e32 : p.eq (natI 3) 2 = false := by subst hp; rfl
      have e33 : p.eq (natI 3) 3 = true := by subst hp; rfl
      simp only [e32]
      (generalize cq0 : Frm.ds = cy0, cq1 : Nms = cy1, cq2 : Tm.ds = cy2, cq3 : natI = cy3, cq4 : opI = cy4; cbv <;> subst cq0 cq1 cq2 cq3 cq4)
      simp only [e33]
end Go.Ly.Tr
end
section
namespace Go.Proofs.YthihgffbljnbcaaGreatDoor.substLemma
open Go Go.Ly Go.Ly.Tr Go.ChangeShapes Go.WideShapes Go.ChangeAt Go.RowKit
set_option maxRecDepth 100000
theorem law (xs : List D) (h : ArgsFit E.P [25, 9, 9, 30, 30] xs) (hb : bulkDs xs ≤ 1048576) : Ly.Pure E 11 (xs.map oldD1) (.d .top (.bool true)) := by
  obtain ⟨f1, r, rfl, w1, k1⟩ := args_frm h
  obtain ⟨s2, r, rfl, w2, k2⟩ := args_str k1
  obtain ⟨s3, r, rfl, w3, k3⟩ := args_str k2
  obtain ⟨t4, r, rfl, w4, k4⟩ := args_tm k3
  obtain ⟨t5, r, rfl, w5, k5⟩ := args_tm k4
  obtain rfl := args_nil k5
  simp only [bulkDs] at hb
  exact SubstLemma_ok f1 s2 s3 t4 t5 (by omega) (by omega) (by omega) (by omega) (by omega)
theorem contract (H : Type) (enc : TypeId × Value → H) (W : World) (base : Nat) (args : Array Value) (ds gs : List (DataW H)) (before : List MemPlace)
    (hval : ∀ (j : Nat) t v, Tryz.f11.params[j]? = some t → args[j]? = some v → Value.okWide Tryz.prog W .any base t v)
    (hW : DataW.Whole enc Tryz.prog Tryz.f11.params.toList Rows.substLemmaSpec.vars false W args.toList ds gs before) (hk : Rows.uptoSmall H (ds ++ gs) = true) (hL : laidMetH Tryz.prog Rows.substLemmaUptoRow.laid W) :
    Calls Tryz.prog 11 args W fun e W' => ∃ v, e = .returned v ∧ Rows.substLemmaSpec.post enc Tryz.prog Tryz.f11 false true false false W args v W' := by
  have hg := glob (W := W) hL
  refine law_callsb (E := E) (k := 11) (Ts := Ts) (tb := 4) okTs_all (by rw [Tryz.params11]; decide) rfl (by kernel_rfl) u4 ?_ ?_ hval hW (bulk_of hk) hg.1 hg.2
  · intro ds h
    rw [Tryz.params11] at h
    match ds, h with
    | [a, b, c, d, e], _ => rfl
  · rw [Tryz.params11]
    exact law
theorem reads (os : Os) {H : Type} (enc : TypeId × Value → H) : ∃ places, DataW.whole enc Tryz.prog ((laidWorld os).forCall (fun _ _ => 0) ⟨#[], #[.agg #[.int .u8 0, .string ⟨#[]⟩, .slice none 0 0, .slice none 0 0], .string ⟨#[]⟩, .string ⟨#[]⟩, .agg #[.bool false, .string ⟨#[]⟩, .slice none 0 0], .agg #[.bool false, .string ⟨#[]⟩, .slice none 0 0]], []⟩).memory Tryz.f11.params.toList Rows.substLemmaSpec.vars false (#[.agg #[.int .u8 0, .string ⟨#[]⟩, .slice none 0 0, .slice none 0 0], .string ⟨#[]⟩, .string ⟨#[]⟩, .agg #[.bool false, .string ⟨#[]⟩, .slice none 0 0], .agg #[.bool false, .string ⟨#[]⟩, .slice none 0 0]] : Array Value).toList 8 = some ([.agg [.lit (.int .u8 0), .lit (.string []), .nil, .nil], .lit (.string []), .lit (.string []), .agg [.lit (.bool false), .lit (.string []), .nil], .agg [.lit (.bool false), .lit (.string []), .nil]], [], places) :=
  ⟨[], by kernel_rfl⟩
theorem lifted (os : Os) (started : os.Started) (H : Type) (enc : TypeId × Value → H) (F : Stop.Interp) :
    ReturnsInHanded {} Tryz.checked os 11 .any ((Rows.OpenSpec.upto Rows.substLemmaSpec).preRow enc Tryz.prog Tryz.f11 Rows.substLemmaUptoRow.domain false Rows.substLemmaUptoRow.laid) (((Rows.OpenSpec.upto Rows.substLemmaSpec).at F).post enc Tryz.prog Tryz.f11 false true false false) := by
  obtain ⟨places, hx⟩ := reads os enc
  refine returnsInHanded_of_row (C := Tryz.checked) (s := Rows.OpenSpec.upto Rows.substLemmaSpec) own started (by kernel_rfl) Tryz.func11
    (witness_row_at (enc := enc) (C := Tryz.checked) false (laidWorld os) #[.agg #[.int .u8 0, .string ⟨#[]⟩, .slice none 0 0, .slice none 0 0], .string ⟨#[]⟩, .string ⟨#[]⟩, .agg #[.bool false, .string ⟨#[]⟩, .slice none 0 0], .agg #[.bool false, .string ⟨#[]⟩, .slice none 0 0]] rfl (by kernel_rfl) (by kernel_rfl) (by kernel_rfl)
      (OpenSpec.preRow_of_cond 8 hx (by kernel_rfl) (fun k hk => by cases hk; kernel_rfl) (by kernel_rfl) (laid_met os _))) ?_
  intro W base args ds gs before hval hW _ hk _ hL _ _
  exact contract H enc W base args ds gs before hval hW (hk _ rfl) hL
theorem said : Rows.SubstLemmaUptoSaid :=
  OpenClaim.holds_of_cond 11 Tryz.f11 rfl rfl rfl rfl rfl rfl rfl ⟨rfl, rfl, rfl, rfl, rfl⟩ rfl rfl rfl rfl rfl (by kernel_rfl) Tryz.func11 (by kernel_rfl)
    (of_decide_eq_true (by kernel_rfl)) (by unfold Func.isWrapper; first | (rw [if_pos (by decide +kernel)]; kernel_rfl) | (rw [if_neg (by decide +kernel)]; exact ⟨rfl, rfl⟩))
    (fun os started H enc _ F => by rw [OpenClaim.pre_eq_preRow]; exact lifted os started H enc F)
theorem stands (t : TypeId) (ht : t ∈ [25, 9, 9, 30, 30]) : Tryz.prog.wantsStandIn t = false := by
  have h := List.all_eq_true.1 (show ([25, 9, 9, 30, 30].all fun t => !Tryz.prog.wantsStandIn t) = true by kernel_rfl) t ht
  simpa using h
theorem plain (f : FuncId) (fn : Func) (hf : Tryz.pinned.checked.prog.funcNamed "lyceum/lyceumlaw03.SubstLemma" = some f) (hfn : Tryz.pinned.checked.prog.funcs[f]? = some fn) :
    false = Tryz.pinned.checked.prog.looks [] ∧ ∀ (j : Nat) t, fn.params[j]? = some t → Tryz.pinned.checked.prog.wantsStandIn t = false := by
  obtain rfl : f = 11 := Option.some.inj ((show Tryz.prog.funcNamed "lyceum/lyceumlaw03.SubstLemma" = some 11 by kernel_rfl).symm.trans hf) |>.symm
  obtain rfl : fn = Tryz.f11 := (Option.some.inj (Tryz.func11.symm.trans hfn)).symm
  refine ⟨by kernel_rfl, fun j t ht => ?_⟩
  rw [Tryz.params11] at ht
  have hm : t ∈ [25, 9, 9, 30, 30] := by simpa using Array.mem_of_getElem? ht
  exact stands t hm
theorem card : Rows.SubstLemmaUptoCardSaid :=
  Claim7.holds_tied_plain_at .later [] _ _ _ _ said (fun _ h => by cases h) (by kernel_rfl) (fun _ h => by cases h) substLemmaUpto_row_tie rfl ⟨rfl, rfl⟩ (by kernel_rfl) rfl plain (by kernel_rfl)
end Go.Proofs.YthihgffbljnbcaaGreatDoor.substLemma
end
