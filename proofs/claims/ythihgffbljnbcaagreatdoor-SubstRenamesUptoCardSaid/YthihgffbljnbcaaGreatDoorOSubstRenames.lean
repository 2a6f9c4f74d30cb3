/- The statement SubstRenamesUptoCardSaid holds: lyceumlaw03.SubstRenames returns true and leaves its arguments as they were; its condition is that what it reads is of bulk at most 1048576. -/
import Derived.Test.YthihgffbljnbcaaGreatDoorO4
set_option linter.all false
section
namespace Go.Ly.Tr
set_option maxRecDepth 20000
theorem tm_keep {l : List Sb} (hl : ∀ o ∈ l, ∃ y, o.2 = Vr y) (t : Tm) : t.ok = true → (t.sub l).size = t.size ∧ (t.sub l).hi = t.hi := by
  have lists : ∀ us : List Tm, (∀ a ∈ us, (a.sub l).size = a.size ∧ (a.sub l).hi = a.hi) → Tm.size.sizes (Tm.subs l us) = Tm.size.sizes us ∧ Tm.his (Tm.subs l us) = Tm.his us := by
    intro us
    induction us with
    | nil => intro _; exact ⟨rfl, rfl⟩
    | cons a us ih =>
      intro h
      have h1 := h a (by simp)
      have h2 := ih fun b hb => h b (by simp [hb])
      simp only [Tm.subs, Tm.size.sizes, Tm.his, h1.1, h1.2, h2.1, h2.2, and_self]
  induction t using Tm.ind with
  | h v n us ih =>
  intro hok
  cases v with
  | true =>
    obtain ⟨rfl, _⟩ := ok_var hok
    rw [sub_Vr]
    unfold sv
    split
    · rename_i o ho
      obtain ⟨y, hy⟩ := hl o (List.mem_of_find?_eq_some ho)
      rw [hy]
      exact ⟨rfl, rfl⟩
    · exact ⟨rfl, rfl⟩
  | false =>
    have hk := (ok_fun hok).2
    have h := lists us fun a ha => ih a ha (oks_mem hk ha)
    simp only [Tm.sub, Bool.false_eq_true, if_false, Tm.size, Tm.hi, h.1, h.2, and_self]
theorem put_keep (f : Frm) : ∀ l : List Sb, f.ok = true → (∀ o ∈ l, ∃ y, o.2 = Vr y) → (f.put l).size = f.size ∧ (f.put l).hi = f.hi := by
  induction f using Frm.ind with
  | h o n us fs ih =>
  intro l hok hl
  have hp := ok_parts hok
  have lists : ∀ (l : List Sb) (gs : List Frm), (∀ a ∈ gs, (a.put l).size = a.size ∧ (a.put l).hi = a.hi) → Frm.size.sizes (Frm.puts gs l) = Frm.size.sizes gs ∧ Frm.his (Frm.puts gs l) = Frm.his gs := by
    intro l gs
    induction gs with
    | nil => intro _; rw [Frm.puts]; exact ⟨rfl, rfl⟩
    | cons a us ih =>
      intro h
      have h1 := h a (by simp)
      have h2 := ih fun b hb => h b (by simp [hb])
      simp only [Frm.puts, Frm.size.sizes, Frm.his, h1.1, h1.2, h2.1, h2.2, and_self]
  have tms : ∀ us : List Tm, Tm.oks us = true → Tm.size.sizes (Tm.subs l us) = Tm.size.sizes us ∧ Tm.his (Tm.subs l us) = Tm.his us := by
    intro us
    induction us with
    | nil => intro _; exact ⟨rfl, rfl⟩
    | cons a us ih =>
      intro h
      rw [Tm.oks, Bool.and_eq_true] at h
      have h1 := tm_keep hl a h.1
      have h2 := ih h.2
      simp only [Tm.subs, Tm.size.sizes, Tm.his, h1.1, h1.2, h2.1, h2.2, and_self]
  rw [Frm.put]
  cases hq : isQ o with
  | false =>
    have h1 := tms us hp.1
    have h2 := lists l fs fun a ha => ih a ha l (foks_mem hp.2 ha) hl
    simp only [Bool.false_eq_true, if_false, Frm.size, Frm.hi, h1.1, h1.2, h2.1, h2.2, and_self]
  | true =>
    obtain ⟨rfl, _, g, rfl, hg⟩ := ok_quant hq hok
    simp only [if_true, show Frm.insideH [g] = g.frees from rfl]
    have hc : ∀ o ∈ Sb.counts l n g.frees, ∃ y, o.2 = Vr y := fun o ho => hl o (List.mem_filter.1 ho).1
    generalize Sb.counts l n g.frees = c at *
    split
    · exact ⟨rfl, rfl⟩
    · split
      · have h2 := lists (c ++ [(n, .mk true (freshN (g.frees ++ Sb.names c)) [])]) [g] fun a ha => ih a ha _ (foks_mem hp.2 ha) fun o ho => by
          simp only [List.mem_append, List.mem_singleton] at ho
          rcases ho with ho | rfl
          · exact hc o ho
          · exact ⟨_, rfl⟩
        simp only [Frm.size, Frm.hi, h2.1, h2.2, and_self]
      · have h2 := lists c [g] fun a ha => ih a ha _ (foks_mem hp.2 ha) hc
        simp only [Frm.size, Frm.hi, h2.1, h2.2, and_self]
section
variable {o : UInt8} {n x : Nm} {g : Frm} (hq : isQ o = true) (hf : (Frm.mk o n [] [g]).right = true) (hx : varB x = true)
include hq hf hx
theorem ren_inner : g.right = true ∧ putsS g [(n, Vr x)] = (g.put [(n, Vr x)], 0) ∧ (Frm.mk o x [] [g.put [(n, Vr x)]]).right = true := by
  have hr := right_iff.1 hf
  obtain ⟨_, hn, g', hg', hg⟩ := ok_quant hq hr.2.2
  cases hg'
  have hs : (Frm.mk o n [] [g]).size = g.size + 1 := by simp [Frm.size, Frm.size.sizes, Tm.size.sizes]
  have hh : (Frm.mk o n [] [g]).hi = g.hi + 1 := by simp [Frm.hi, Frm.his, Tm.his]
  rw [hs, hh] at hr
  have hk := put_keep g [(n, Vr x)] hg (by simp only [List.mem_singleton, forall_eq]; exact ⟨x, rfl⟩)
  have hok := put_right g [(n, Vr x)] hg (by simp [Tm.ok, hx]) (by simp only [Sb.sz, Tm.size, Tm.size.sizes]; omega)
  have hgr : g.right = true := right_iff.2 ⟨by omega, by omega, hg⟩
  refine ⟨hgr, puts_fine hgr (args_one hn (by simp [Tm.ok, hx])) (by simp [bigB, Tm.size, Tm.size.sizes]) (by rw [hk.1]; omega) (by rw [hk.2]; omega), ?_⟩
  refine right_iff.2 ⟨?_, ?_, ok_q hq hr.2.2 hx hok⟩
  · simp only [Frm.size, Frm.size.sizes, Tm.size.sizes, hk.1]; omega
  · simp only [Frm.hi, Frm.his, Tm.his, hk.2]; omega
theorem ren_alpha : alphaB (.mk o n [] [g]) (.mk o x [] [g.put [(n, Vr x)]]) = (x == n || !hasB g.frees x) := by
  obtain ⟨hgr, _, hG⟩ := ren_inner hq hf hx
  have hg := (right_iff.1 hgr).2.2
  by_cases h : x = n ∨ x ∉ g.frees
  · have h1 : (x == n || !hasB g.frees x) = true := by
      rcases h with h | h
      · simp [h]
      · rw [hasB_not.2 h]; simp
    rw [h1, alpha_iff]
    refine ⟨hf, hG, ?_⟩
    simp only [Frm.db, hq, if_true, Frm.dbs, Tm.dbs]
    have := frm_put noσ_closed g [(n, Vr x)] [n] [x] hg fun m hm => by
      rw [dt_noσ]
      by_cases hn : n = m
      · subst hn
        rw [sv_cons_own, Vr_db, dvar_head, dvar_head]
      · have hxm : x ≠ m := by
          rintro rfl
          rcases h with h | h
          · exact hn h.symm
          · exact h hm
        rw [sv_cons_ne hn, sv_nil, Vr_db, dvar_lift hn, dvar_lift hxm]
    rw [this, df_noσ]
  · have h' : x ≠ n ∧ x ∈ g.frees := by
      simp only [not_or, Decidable.not_not] at h
      exact h
    have h1 : (x == n || !hasB g.frees x) = false := by
      rw [hasB_mem.2 h'.2]
      simpa using h'.1
    rw [h1, Bool.eq_false_iff]
    intro ha
    have hfr := frees_db (alpha_iff.1 ha).2.2
    have hin : x ∈ (Frm.mk o n [] [g]).frees := by
      rw [Frm.frees, List.mem_append, unb_mem]
      exact .inr ⟨frees_mem (by simp) h'.2, fun h => h'.1 h.2⟩
    rw [hfr, Frm.frees, List.mem_append, unb_mem] at hin
    rcases hin with hin | hin
    · cases hin
    · exact hin.2 ⟨hq, rfl⟩
end
theorem SubstRenames_ok (f : Frm) (x : Nm) (hf : f.wt ≤ 1900000) (hx : x.length ≤ 1900000) : Pure E 7 [.d .old f.d, .d .old (.str x)] (.d .top (.bool true)) := by
  have hsm := Small_ok [f] (by simp only [Frm.wts]; omega)
  have hs1 : smallB [f] = true → f.size ≤ 500 := small_one
  have hri : smallB [f] = true → _ := fun h => right_ok f (by have := hs1 h; omega)
  have hva := variable_ok x
  have hfr : ∀ b, f.right = b → b = true → f.right = true := fun b h h' => h.trans h'
  obtain ⟨b1, hb1⟩ : ∃ b, smallB [f] = b := ⟨_, rfl⟩
  obtain ⟨b3, hb3⟩ : ∃ b, f.right = b := ⟨_, rfl⟩
  obtain ⟨b4, hb4⟩ : ∃ b, varB x = b := ⟨_, rfl⟩
  rw [hb1] at hsm hs1 hri
  rw [hb3] at hri
  rw [hb4] at hva
  clear hfr
  obtain ⟨o, n, us, fs⟩ := f
  have hquant := fun h => ok_quant (o := o) (n := n) (us := us) (fs := fs) h
  by_cases hall : b1 = true ∧ b3 = true ∧ b4 = true ∧ isQ o = true
  · obtain ⟨rfl, rfl, rfl, hq⟩ := hall
    obtain ⟨rfl, hn, g, rfl, hg⟩ := ok_quant hq (right_iff.1 hb3).2.2
    have hsz := (right_iff.1 hb3).1
    have hs : (Frm.mk o n [] [g]).size = g.size + 1 := by simp [Frm.size, Frm.size.sizes, Tm.size.sizes]
    obtain ⟨hgr, hput, hG⟩ := ren_inner hq hb3 hb4
    have halp := ren_alpha hq hb3 hb4
    have hGs := (right_iff.1 hG).1
    have h1 := Free_ok g (by omega)
    have h2 := Put_ok g n (Vr x) (by omega) (by simp [Tm.size, Tm.size.sizes])
    rw [hput] at h2
    have h3 := of_ok o x [g.put [(n, Vr x)]]
    have h4 := right_ok (.mk o x [] [g.put [(n, Vr x)]]) (by omega)
    rw [hG] at h4
    have h5 : Pure E 24 [.d .old (.row 1 (Nms (setN g.frees))), .d .old (.str x)] (.d .top (.bool (hasB g.frees x))) := by
      have h2 := frees_len g
      have h3 := set_len g.frees
      have h := has_ok (setN g.frees) x (by omega)
      rwa [set_has] at h
    have h6 := Alpha_ok (.mk o n [] [g]) (.mk o x [] [g.put [(n, Vr x)]]) (by omega) (by omega)
    rw [halp] at h6
    have hQ : o = 8 ∨ o = 9 := by simpa [isQ] using hq
    generalize hasB g.frees x = b6 at *
    generalize setN g.frees = fr at *
    generalize g.put [(n, Vr x)] = s at *
    obtain ⟨g1, g2, g3, g4⟩ := g
    obtain ⟨s1, s2, s3, s4⟩ := s
    obtain ⟨bx, hbx⟩ : ∃ b, (x == n) = b := ⟨_, rfl⟩
    rw [hbx] at h6
    simp only [Frm.d, Tm.d, Tm.ds] at *
    have h1' : Pure E 25 [.d .old (.agg [.int .u8 (opI g1), .str g2, .row 3 (Tm.ds g3), .row 4 (Frm.ds g4)])] (.fresh 1 (Nms fr) .new) := h1
    have h2' : Pure E 20 [.d .old (.agg [.int .u8 (opI g1), .str g2, .row 3 (Tm.ds g3), .row 4 (Frm.ds g4)]), .d .old (.str n), .d .old (.agg [.bool true, .str x, .row 3 []])] (.tup [.d .new (.agg [.int .u8 (opI s1), .str s2, .row 3 (Tm.ds s3), .row 4 (Frm.ds s4)]), .d .top (.int .i64 0)]) := h2
    refine pure_by has7 ?_
    generalize hp : std = p
    have et : p.not true = false := not_t hp
    have ef : p.not false = true := not_f hp
    have e0 : p.eq 0 0 = true := by subst hp; rfl
    have hget : p.dget (Frm.ds [.mk g1 g2 g3 g4]) 0 = some (.agg [.int .u8 (opI g1), .str g2, .row 3 (Tm.ds g3), .row 4 (Frm.ds g4)]) := by subst hp; rfl
    have hse : p.seq x n = bx := by subst hp; exact hbx
    (generalize cq0 : Frm.ds = cy0, cq1 : opI = cy1; cbv <;> subst cq0 cq1)
    refine callA.pure awake_ok rfl ?_
    (generalize cq0 : Frm.ds = cy0, cq1 : opI = cy1; cbv <;> subst cq0 cq1)
    simp only [et]
    (generalize cq0 : Frm.ds = cy0, cq1 : opI = cy1; cbv <;> subst cq0 cq1)
    refine callA.pure hsm rfl ?_
    (generalize cq0 : Frm.ds = cy0, cq1 : opI = cy1; cbv <;> subst cq0 cq1)
    simp only [et]
    (generalize cq0 : Frm.ds = cy0, cq1 : opI = cy1; cbv <;> subst cq0 cq1)
    refine callA.pure (hri (by trivial)) rfl ?_
    (generalize cq0 : Frm.ds = cy0, cq1 : opI = cy1; cbv <;> subst cq0 cq1)
    simp only [et]
    (generalize cq0 : Frm.ds = cy0, cq1 : opI = cy1; cbv <;> subst cq0 cq1)
    refine callA.pure hva rfl ?_
    (generalize cq0 : Frm.ds = cy0, cq1 : opI = cy1; cbv <;> subst cq0 cq1)
    simp only [et]
    (generalize cq0 : Frm.ds = cy0, cq1 : opI = cy1; cbv <;> subst cq0 cq1)
    have tail : ∀ b : Bool, (b = true → b6 = true ∨ b6 = false) := fun b _ => by cases b6 <;> simp
    clear tail
    rcases hQ with rfl | rfl
    · have e8 : p.eq (opI 8) 8 = true := by subst hp; rfl
      simp only [e8, et]
      (generalize cq0 : Frm.ds = cy0, cq1 : opI = cy1; cbv <;> subst cq0 cq1)
      refine ⟨_, hget, ?_⟩
      (generalize cq0 : Frm.ds = cy0, cq1 : Tm.ds = cy1, cq2 : opI = cy2; cbv <;> subst cq0 cq1 cq2)
      refine callA.pure h1' rfl ?_
      (generalize cq0 : Frm.ds = cy0, cq1 : Nms = cy1, cq2 : Tm.ds = cy2, cq3 : opI = cy3; cbv <;> subst cq0 cq1 cq2 cq3)
      refine ⟨_, hget, ?_⟩
      (generalize cq0 : Frm.ds = cy0, cq1 : Nms = cy1, cq2 : Tm.ds = cy2, cq3 : opI = cy3; cbv <;> subst cq0 cq1 cq2 cq3)
      refine drawA.mk _ ⟨_, _, _, rfl, v_okx x, rfl, rfl⟩ ?_
      (generalize cq0 : Frm.ds = cy0, cq1 : Nms = cy1, cq2 : Tm.ds = cy2, cq3 : opI = cy3; cbv <;> subst cq0 cq1 cq2 cq3)
      refine drawA.mk _ ⟨_, _, _, rfl, h2', rfl, rfl⟩ ?_
      (generalize cq0 : Frm.ds = cy0, cq1 : Nms = cy1, cq2 : Tm.ds = cy2, cq3 : opI = cy3; cbv <;> subst cq0 cq1 cq2 cq3)
      refine callA.pure h3 rfl ?_
      (generalize cq0 : Frm.ds = cy0, cq1 : Nms = cy1, cq2 : Tm.ds = cy2, cq3 : opI = cy3; cbv <;> subst cq0 cq1 cq2 cq3)
      simp only [e0, et]
      (generalize cq0 : Frm.ds = cy0, cq1 : Nms = cy1, cq2 : Tm.ds = cy2, cq3 : opI = cy3; cbv <;> subst cq0 cq1 cq2 cq3)
      refine callA.pure h4 rfl ?_
      (generalize cq0 : Frm.ds = cy0, cq1 : Nms = cy1, cq2 : Tm.ds = cy2, cq3 : opI = cy3; cbv <;> subst cq0 cq1 cq2 cq3)
      simp only [et]
      (generalize cq0 : Frm.ds = cy0, cq1 : Nms = cy1, cq2 : Tm.ds = cy2, cq3 : opI = cy3; cbv <;> subst cq0 cq1 cq2 cq3)
      simp only [hse]
      cases bx with
      | true =>
        (generalize cq0 : Frm.ds = cy0, cq1 : Nms = cy1, cq2 : Tm.ds = cy2, cq3 : opI = cy3; cbv <;> subst cq0 cq1 cq2 cq3)
        refine callA.pure h6 rfl ?_
        (generalize cq0 : Frm.ds = cy0, cq1 : Nms = cy1, cq2 : Tm.ds = cy2, cq3 : opI = cy3; cbv <;> subst cq0 cq1 cq2 cq3)
      | false =>
        (generalize cq0 : Frm.ds = cy0, cq1 : Nms = cy1, cq2 : Tm.ds = cy2, cq3 : opI = cy3; cbv <;> subst cq0 cq1 cq2 cq3)
        refine callA.pure h5 rfl ?_
        (generalize cq0 : Frm.ds = cy0, cq1 : Nms = cy1, cq2 : Tm.ds = cy2, cq3 : opI = cy3; cbv <;> subst cq0 cq1 cq2 cq3)
        cases b6 with
        | true =>
          simp only [et]
          (generalize cq0 : Frm.ds = cy0, cq1 : Nms = cy1, cq2 : Tm.ds = cy2, cq3 : opI = cy3; cbv <;> subst cq0 cq1 cq2 cq3)
          refine callA.pure h6 rfl ?_
          (generalize cq0 : Frm.ds = cy0, cq1 : Nms = cy1, cq2 : Tm.ds = cy2, cq3 : opI = cy3; cbv <;> subst cq0 cq1 cq2 cq3)
          simp only [ef]
        | false =>
          simp only [ef]
          (generalize cq0 : Frm.ds = cy0, cq1 : Nms = cy1, cq2 : Tm.ds = cy2, cq3 : opI = cy3; cbv <;> subst cq0 cq1 cq2 cq3)
          refine callA.pure h6 rfl ?_
          (generalize cq0 : Frm.ds = cy0, cq1 : Nms = cy1, cq2 : Tm.ds = cy2, cq3 : opI = cy3; cbv <;> subst cq0 cq1 cq2 cq3)
    · have e8 : p.eq (opI 9) 8 = false := by subst hp; rfl
      have e9 : p.eq (opI 9) 9 = true := by subst hp; rfl
      simp only [e8, ef]
      (generalize cq0 : Frm.ds = cy0, cq1 : opI = cy1; cbv <;> subst cq0 cq1)
      simp only [e9, et]
      (generalize cq0 : Frm.ds = cy0, cq1 : opI = cy1; cbv <;> subst cq0 cq1)
      refine ⟨_, hget, ?_⟩
      (generalize cq0 : Frm.ds = cy0, cq1 : Tm.ds = cy1, cq2 : opI = cy2; cbv <;> subst cq0 cq1 cq2)
      refine callA.pure h1' rfl ?_
      (generalize cq0 : Frm.ds = cy0, cq1 : Nms = cy1, cq2 : Tm.ds = cy2, cq3 : opI = cy3; cbv <;> subst cq0 cq1 cq2 cq3)
      refine ⟨_, hget, ?_⟩
      (generalize cq0 : Frm.ds = cy0, cq1 : Nms = cy1, cq2 : Tm.ds = cy2, cq3 : opI = cy3; cbv <;> subst cq0 cq1 cq2 cq3)
      refine drawA.mk _ ⟨_, _, _, rfl, v_okx x, rfl, rfl⟩ ?_
      (generalize cq0 : Frm.ds = cy0, cq1 : Nms = cy1, cq2 : Tm.ds = cy2, cq3 : opI = cy3; cbv <;> subst cq0 cq1 cq2 cq3)
      refine drawA.mk _ ⟨_, _, _, rfl, h2', rfl, rfl⟩ ?_
      (generalize cq0 : Frm.ds = cy0, cq1 : Nms = cy1, cq2 : Tm.ds = cy2, cq3 : opI = cy3; cbv <;> subst cq0 cq1 cq2 cq3)
      refine callA.pure h3 rfl ?_
      (generalize cq0 : Frm.ds = cy0, cq1 : Nms = cy1, cq2 : Tm.ds = cy2, cq3 : opI = cy3; cbv <;> subst cq0 cq1 cq2 cq3)
      simp only [e0, et]
      (generalize cq0 : Frm.ds = cy0, cq1 : Nms = cy1, cq2 : Tm.ds = cy2, cq3 : opI = cy3; cbv <;> subst cq0 cq1 cq2 cq3)
      refine callA.pure h4 rfl ?_
      (generalize cq0 : Frm.ds = cy0, cq1 : Nms = cy1, cq2 : Tm.ds = cy2, cq3 : opI = cy3; cbv <;> subst cq0 cq1 cq2 cq3)
      simp only [et]
      (generalize cq0 : Frm.ds = cy0, cq1 : Nms = cy1, cq2 : Tm.ds = cy2, cq3 : opI = cy3; cbv <;> subst cq0 cq1 cq2 cq3)
      simp only [hse]
      cases bx with
      | true =>
        (generalize cq0 : Frm.ds = cy0, cq1 : Nms = cy1, cq2 : Tm.ds = cy2, cq3 : opI = cy3; cbv <;> subst cq0 cq1 cq2 cq3)
        refine callA.pure h6 rfl ?_
        (generalize cq0 : Frm.ds = cy0, cq1 : Nms = cy1, cq2 : Tm.ds = cy2, cq3 : opI = cy3; cbv <;> subst cq0 cq1 cq2 cq3)
      | false =>
        (generalize cq0 : Frm.ds = cy0, cq1 : Nms = cy1, cq2 : Tm.ds = cy2, cq3 : opI = cy3; cbv <;> subst cq0 cq1 cq2 cq3)
        refine callA.pure h5 rfl ?_
        (generalize cq0 : Frm.ds = cy0, cq1 : Nms = cy1, cq2 : Tm.ds = cy2, cq3 : opI = cy3; cbv <;> subst cq0 cq1 cq2 cq3)
        cases b6 with
        | true =>
          simp only [et]
          (generalize cq0 : Frm.ds = cy0, cq1 : Nms = cy1, cq2 : Tm.ds = cy2, cq3 : opI = cy3; cbv <;> subst cq0 cq1 cq2 cq3)
          refine callA.pure h6 rfl ?_
          (generalize cq0 : Frm.ds = cy0, cq1 : Nms = cy1, cq2 : Tm.ds = cy2, cq3 : opI = cy3; cbv <;> subst cq0 cq1 cq2 cq3)
          simp only [ef]
        | false =>
          simp only [ef]
          (generalize cq0 : Frm.ds = cy0, cq1 : Nms = cy1, cq2 : Tm.ds = cy2, cq3 : opI = cy3; cbv <;> subst cq0 cq1 cq2 cq3)
          refine callA.pure h6 rfl ?_
          (generalize cq0 : Frm.ds = cy0, cq1 : Nms = cy1, cq2 : Tm.ds = cy2, cq3 : opI = cy3; cbv <;> subst cq0 cq1 cq2 cq3)
  · simp only [Frm.d] at *
    have hnq : b1 = true → b3 = true → b4 = true → o ≠ 8 ∧ o ≠ 9 := fun h1 h2 h3 => by
      have : isQ o ≠ true := fun h => hall ⟨h1, h2, h3, h⟩
      simpa [isQ] using this
    refine pure_by has7 ?_
    generalize hp : std = p
    have et : p.not true = false := not_t hp
    have ef : p.not false = true := not_f hp
    have e8 : o ≠ 8 → p.eq (opI o) 8 = false := fun h => by subst hp; simp only [std, opI]; rw [beq_eq_false_iff_ne]; intro h'; exact h (UInt8.toNat_inj.1 (by simpa using Int.ofNat.inj h'))
    have e9 : o ≠ 9 → p.eq (opI o) 9 = false := fun h => by subst hp; simp only [std, opI]; rw [beq_eq_false_iff_ne]; intro h'; exact h (UInt8.toNat_inj.1 (by simpa using Int.ofNat.inj h'))
    (generalize cq0 : Frm.ds = cy0, cq1 : Tm.ds = cy1, cq2 : opI = cy2; cbv <;> subst cq0 cq1 cq2)
    refine callA.pure awake_ok rfl ?_
    (generalize cq0 : Frm.ds = cy0, cq1 : Tm.ds = cy1, cq2 : opI = cy2; cbv <;> subst cq0 cq1 cq2)
    simp only [et]
    (generalize cq0 : Frm.ds = cy0, cq1 : Tm.ds = cy1, cq2 : opI = cy2; cbv <;> subst cq0 cq1 cq2)
    refine callA.pure hsm rfl ?_
    (generalize cq0 : Frm.ds = cy0, cq1 : Tm.ds = cy1, cq2 : opI = cy2; cbv <;> subst cq0 cq1 cq2)
    cases b1 with
    | false => simp only [ef]; (generalize cq0 : Frm.ds = cy0, cq1 : Tm.ds = cy1, cq2 : opI = cy2; cbv <;> subst cq0 cq1 cq2)
    | true =>
    simp only [et]
    (generalize cq0 : Frm.ds = cy0, cq1 : Tm.ds = cy1, cq2 : opI = cy2; cbv <;> subst cq0 cq1 cq2)
    refine callA.pure (hri rfl) rfl ?_
    (generalize cq0 : Frm.ds = cy0, cq1 : Tm.ds = cy1, cq2 : opI = cy2; cbv <;> subst cq0 cq1 cq2)
    cases b3 with
    | false => simp only [ef]; (generalize cq0 : Frm.ds = cy0, cq1 : Tm.ds = cy1, cq2 : opI = cy2; cbv <;> subst cq0 cq1 cq2)
    | true =>
    simp only [et]
    (generalize cq0 : Frm.ds = cy0, cq1 : Tm.ds = cy1, cq2 : opI = cy2; cbv <;> subst cq0 cq1 cq2)
    refine callA.pure hva rfl ?_
    (generalize cq0 : Frm.ds = cy0, cq1 : Tm.ds = cy1, cq2 : opI = cy2; cbv <;> subst cq0 cq1 cq2)
    cases b4 with
    | false => simp only [ef]; (generalize cq0 : Frm.ds = cy0, cq1 : Tm.ds = cy1, cq2 : opI = cy2; cbv <;> subst cq0 cq1 cq2)
    | true =>
    have hno := hnq rfl rfl rfl
    simp only [et]
    (generalize cq0 : Frm.ds = cy0, cq1 : Tm.ds = cy1, cq2 : opI = cy2; cbv <;> subst cq0 cq1 cq2)
    simp only [e8 hno.1, ef]
    (generalize cq0 : Frm.ds = cy0, cq1 : Tm.ds = cy1, cq2 : opI = cy2; cbv <;> subst cq0 cq1 cq2)
    simp only [e9 hno.2, ef]
    (generalize cq0 : Frm.ds = cy0, cq1 : Tm.ds = cy1, cq2 : opI = cy2; cbv <;> subst cq0 cq1 cq2)
end Go.Ly.Tr
end
section
namespace Go.Proofs.YthihgffbljnbcaaGreatDoor.substRenames
open Go Go.Ly Go.Ly.Tr Go.ChangeShapes Go.WideShapes Go.ChangeAt Go.RowKit
set_option maxRecDepth 100000
theorem law (xs : List D) (h : ArgsFit E.P [25, 9] xs) (hb : bulkDs xs ≤ 1048576) : Ly.Pure E 7 (xs.map oldD1) (.d .top (.bool true)) := by
  obtain ⟨f1, r, rfl, w1, k1⟩ := args_frm h
  obtain ⟨s2, r, rfl, w2, k2⟩ := args_str k1
  obtain rfl := args_nil k2
  simp only [bulkDs] at hb
  exact SubstRenames_ok f1 s2 (by omega) (by omega)
theorem contract (H : Type) (enc : TypeId × Value → H) (W : World) (base : Nat) (args : Array Value) (ds gs : List (DataW H)) (before : List MemPlace)
    (hval : ∀ (j : Nat) t v, Tryz.f7.params[j]? = some t → args[j]? = some v → Value.okWide Tryz.prog W .any base t v)
    (hW : DataW.Whole enc Tryz.prog Tryz.f7.params.toList Rows.substRenamesSpec.vars false W args.toList ds gs before) (hk : Rows.uptoSmall H (ds ++ gs) = true) (hL : laidMetH Tryz.prog Rows.substRenamesUptoRow.laid W) :
    Calls Tryz.prog 7 args W fun e W' => ∃ v, e = .returned v ∧ Rows.substRenamesSpec.post enc Tryz.prog Tryz.f7 false true false false W args v W' := by
  have hg := glob (W := W) hL
  refine law_callsb (E := E) (k := 7) (Ts := Ts) (tb := 4) okTs_all (by rw [Tryz.params7]; decide) rfl (by kernel_rfl) u4 ?_ ?_ hval hW (bulk_of hk) hg.1 hg.2
  · intro ds h
    rw [Tryz.params7] at h
    match ds, h with
    | [a, b], _ => rfl
  · rw [Tryz.params7]
    exact law
theorem reads (os : Os) {H : Type} (enc : TypeId × Value → H) : ∃ places, DataW.whole enc Tryz.prog ((laidWorld os).forCall (fun _ _ => 0) ⟨#[], #[.agg #[.int .u8 0, .string ⟨#[]⟩, .slice none 0 0, .slice none 0 0], .string ⟨#[]⟩], []⟩).memory Tryz.f7.params.toList Rows.substRenamesSpec.vars false (#[.agg #[.int .u8 0, .string ⟨#[]⟩, .slice none 0 0, .slice none 0 0], .string ⟨#[]⟩] : Array Value).toList 8 = some ([.agg [.lit (.int .u8 0), .lit (.string []), .nil, .nil], .lit (.string [])], [], places) :=
  ⟨[], by kernel_rfl⟩
theorem lifted (os : Os) (started : os.Started) (H : Type) (enc : TypeId × Value → H) (F : Stop.Interp) :
    ReturnsInHanded {} Tryz.checked os 7 .any ((Rows.OpenSpec.upto Rows.substRenamesSpec).preRow enc Tryz.prog Tryz.f7 Rows.substRenamesUptoRow.domain false Rows.substRenamesUptoRow.laid) (((Rows.OpenSpec.upto Rows.substRenamesSpec).at F).post enc Tryz.prog Tryz.f7 false true false false) := by
  obtain ⟨places, hx⟩ := reads os enc
  refine returnsInHanded_of_row (C := Tryz.checked) (s := Rows.OpenSpec.upto Rows.substRenamesSpec) own started (by kernel_rfl) Tryz.func7
    (witness_row_at (enc := enc) (C := Tryz.checked) false (laidWorld os) #[.agg #[.int .u8 0, .string ⟨#[]⟩, .slice none 0 0, .slice none 0 0], .string ⟨#[]⟩] rfl (by kernel_rfl) (by kernel_rfl) (by kernel_rfl)
      (OpenSpec.preRow_of_cond 8 hx (by kernel_rfl) (fun k hk => by cases hk; kernel_rfl) (by kernel_rfl) (laid_met os _))) ?_
  intro W base args ds gs before hval hW _ hk _ hL _ _
  exact contract H enc W base args ds gs before hval hW (hk _ rfl) hL
theorem said : Rows.SubstRenamesUptoSaid :=
  OpenClaim.holds_of_cond 7 Tryz.f7 rfl rfl rfl rfl rfl rfl rfl ⟨rfl, rfl, rfl, rfl, rfl⟩ rfl rfl rfl rfl rfl (by kernel_rfl) Tryz.func7 (by kernel_rfl)
    (of_decide_eq_true (by kernel_rfl)) (by unfold Func.isWrapper; first | (rw [if_pos (by decide +kernel)]; kernel_rfl) | (rw [if_neg (by decide +kernel)]; exact ⟨rfl, rfl⟩))
    (fun os started H enc _ F => by rw [OpenClaim.pre_eq_preRow]; exact lifted os started H enc F)
theorem stands (t : TypeId) (ht : t ∈ [25, 9]) : Tryz.prog.wantsStandIn t = false := by
  have h := List.all_eq_true.1 (show ([25, 9].all fun t => !Tryz.prog.wantsStandIn t) = true by kernel_rfl) t ht
  simpa using h
theorem plain (f : FuncId) (fn : Func) (hf : Tryz.pinned.checked.prog.funcNamed "lyceum/lyceumlaw03.SubstRenames" = some f) (hfn : Tryz.pinned.checked.prog.funcs[f]? = some fn) :
    false = Tryz.pinned.checked.prog.looks [] ∧ ∀ (j : Nat) t, fn.params[j]? = some t → Tryz.pinned.checked.prog.wantsStandIn t = false := by
  obtain rfl : f = 7 := Option.some.inj ((show Tryz.prog.funcNamed "lyceum/lyceumlaw03.SubstRenames" = some 7 by kernel_rfl).symm.trans hf) |>.symm
  obtain rfl : fn = Tryz.f7 := (Option.some.inj (Tryz.func7.symm.trans hfn)).symm
  refine ⟨by kernel_rfl, fun j t ht => ?_⟩
  rw [Tryz.params7] at ht
  have hm : t ∈ [25, 9] := by simpa using Array.mem_of_getElem? ht
  exact stands t hm
theorem card : Rows.SubstRenamesUptoCardSaid :=
  Claim7.holds_tied_plain_at .later [] _ _ _ _ said (fun _ h => by cases h) (by kernel_rfl) (fun _ h => by cases h) substRenamesUpto_row_tie rfl ⟨rfl, rfl⟩ (by kernel_rfl) rfl plain (by kernel_rfl)
end Go.Proofs.YthihgffbljnbcaaGreatDoor.substRenames
end
