/- Part 3 of a proof: a layer that walks through Go code by evaluation, and contracts of functions; no condition. -/
import Derived.Test.YthihgffbljnbcaaGreatDoorQ1
import Derived.Orders
import Derived.RangeFuncNested
import Derived.ChangeSame
import Derived.Handed
import Derived.RowKit
import Derived.Test.YthihgffbljnbcaaGreatDoorProg
import Derived.Lib.ItoaNum
import Derived.KernelRfl
set_option linter.all false
section
namespace Go.Ly
open Classical
theorem SameOs.putObj {w : World} {l : Nat} {o o' : Obj} (h : w.heap[l]? = some o) (hs : Sized o o') : SameOs w (w.putObj l o') := by
  have hlt := (Array.getElem?_eq_some_iff.1 h).1
  exact .turn (b := l) rfl rfl h (by simp [World.putObj, hlt]) hs fun c _ hc => by simp [World.putObj, Array.getElem?_setIfInBounds_ne (Ne.symm hc)]
def Has (E : Env) (k : Nat) (af : AF) : Prop := ∃ fn hs keep, E.P.funcs[E.φ k]? = some fn ∧ (fn.name == "runtime.NumGoroutine") = false ∧ compF E.P E.ν hs keep fn = some af
section
variable {E : Env} {O : Outer E} {S S' S0 : St} {w w' w0 : World} {A A' : Fm} {σ σ' : Sto} {ω : O.Ω} {a : Act}
theorem Ev.foreign (V : Ev S0 w0 S w) (ho : SameOs w w') (hn : S0.n0 = w0.heap.size) (hs : w.heap.size ≤ w'.heap.size) (h : ∀ b, b < w.heap.size → w'.heap[b]? = w.heap[b]? ∨ Foreign S w b) : Ev S0 w0 S w' := by
  refine ⟨V.θ, V.n0, V.X, V.E, V.xv, Nat.le_trans V.size hs, fun b hb h1 h2 h3 h4 => ?_, V.G, ⟨fun b i v hQ hi hc => ?_, fun b es k hQ hi hc => ?_⟩, V.newθ, V.newβ, V.newX, V.os.trans ho⟩
  · obtain ⟨g1, g2⟩ := V.frame b hb h1 h2 h3 h4
    refine ⟨?_, g2⟩
    rcases h b (Nat.lt_of_lt_of_le hb V.size) with h' | h'
    · rw [h']; exact g1
    · have := h'.2.2.2.1
      rw [V.n0.1, hn] at this
      omega
  · have hc' := V.imm.cell b i v hQ hi hc
    rcases h b (cell_lt hc') with h' | h'
    · rw [cell_same h']; exact hc'
    · rw [h'.2.2.2.2.1 i] at hc'; cases hc'
  · have hc' := V.imm.map b es k hQ hi hc
    rcases h b (heap_lt hc') with h' | h'
    · rw [h']; exact hc'
    · exact absurd hc' (h'.2.2.2.2.2 es k)
theorem putObj_foreign {r : Nat} {o : Obj} (hF : Foreign S w r) : w.heap.size ≤ (w.putObj r o).heap.size ∧ ∀ b, b < w.heap.size → (w.putObj r o).heap[b]? = w.heap[b]? ∨ Foreign S w b := by
  refine ⟨by simp [World.putObj], fun b hb => ?_⟩
  by_cases hbr : b = r
  · exact .inr (hbr ▸ hF)
  · exact .inl (World.putObj_heap_other hbr)
theorem leaves_marks {fn : Func} {R : Ending → World → Prop} (hn : S0.n0 = w0.heap.size) : ∀ (rs : List Nat) {w : World}, Rep E S w σ → RdF E.φ S w A a.tmps.toList → O.J ω S w → Ev S0 w0 S w → rs.Nodup →
    (∀ r ∈ rs, w.heap[r]? = some (.deferred (some [])) ∧ r ∉ S.θ ∧ (∀ t, S.β t ≠ some r) ∧ ¬ S.X r ∧ S.n0 ≤ r) →
    (∀ w', Rep E S w' σ → RdF E.φ S w' A a.tmps.toList → O.J ω S w' → Ev S0 w0 S w' → ∃ v, (results fn a.tmps).run E.P w' = .ok v w' ∧ R (.returned v) w') →
    LeavesInM Fence.wide 0 E.P fn a.tmps R (rs.map markOf) .returning w
  | [], w, hR, hF, hJ, V, _, _, fin => fin w hR hF hJ V
  | r :: rs, w, hR, hF, hJ, V, hnd, hrs, fin => by
    obtain ⟨hh, h1, h2, h3, h4⟩ := hrs r (by simp)
    have hfo : Foreign S w r := ⟨h1, h2, h3, h4, noC_deferred hh⟩
    obtain ⟨hs, hb⟩ := putObj_foreign (o := .deferred none) hfo
    obtain ⟨K, R', hx⟩ := foreign_step hR hs hb
    have hF' : RdF E.φ S (w.putObj r (.deferred none)) A a.tmps.toList := by
      have := RdF_keep K A _ hF
      rwa [demoteA_nil] at this
    refine ⟨by simp, .inl ⟨r, _, rfl, run_takeDeferred hh, ?_⟩⟩
    refine leaves_marks hn rs R' hF' (O.stable hJ (.putObj hh fun _ _ _ e => by cases e) rfl rfl hs hx K.imm (fun _ => Nat.le_refl _) R'.Gnew) (V.foreign (.putObj hh fun _ _ _ e => by cases e) hn hs hb) (List.nodup_cons.1 hnd).2 ?_ fin
    intro r' hr'
    obtain ⟨g1, g2⟩ := hrs r' (by simp [hr'])
    have hne : r' ≠ r := fun e => (List.nodup_cons.1 hnd).1 (e ▸ hr')
    exact ⟨by rw [World.putObj_heap_other hne]; exact g1, g2⟩
theorem appendL_len : ∀ xs : List AV, len xs = xs.length
  | [] => rfl
  | _ :: l => by simp [len, appendL_len l]
theorem RdNs_F : ∀ {xs : List AV} {vs : List Value}, RdNs E.φ S w xs vs → RdF E.φ S w xs vs
  | [], _, h => h
  | x :: xs, vs, h => by
    simp only [RdNs] at h
    obtain ⟨v, rest, e, _, h1, h2⟩ := h
    exact ⟨v, rest, e, h1, RdNs_F h2⟩
theorem RdF_anyN : ∀ n : Nat, RdF E.φ S w (anyN n) (List.replicate n undef)
  | 0 => rfl
  | n + 1 => ⟨undef, List.replicate n undef, rfl, trivial, RdF_anyN n⟩
theorem RdF_append : ∀ {xs ys : Fm} {us vs : List Value}, RdF E.φ S w xs us → RdF E.φ S w ys vs → RdF E.φ S w (xs ++ ys) (us ++ vs)
  | [], _, _, _, h, h' => by rw [show _ = [] from h]; exact h'
  | x :: xs, ys, us, vs, h, h' => by
    obtain ⟨v, rest, rfl, h1, h2⟩ := h
    exact ⟨v, rest ++ vs, rfl, h1, RdF_append h2 h'⟩
theorem ev_froz {w : World} {S : St} {m : Nat} {o : Option (Nat × Nat)} (V : Ev S0 w0 S w) (hm : S0.θ.length = m) : Ev S0 w0 (froz S w m o) w := by
  refine ⟨fun id b hb => ?_, V.n0, V.X, V.E, V.xv, V.size, fun b hb h1 h2 h3 h4 => ?_, fun b hb => Nat.le_trans (V.G b hb) (froz_G b), V.imm, fun b hb => V.newθ b (List.mem_of_mem_take hb), fun t b hb => by (cases hb), V.newX, V.os⟩
  · have hlt : id < S0.θ.length := by
      rcases Nat.lt_or_ge id S0.θ.length with h' | h'
      · exact h'
      · rw [List.getElem?_eq_none h'] at hb; cases hb
    simp only [froz, List.getElem?_take]
    rw [if_pos (by omega)]
    exact V.θ id b hb
  · obtain ⟨g1, g2⟩ := V.frame b hb h1 h2 h3 h4
    refine ⟨g1, ?_⟩
    simp only [froz]
    rw [if_neg]
    · exact g2
    · rintro (h | ⟨t, ht⟩)
      · exact (V.newθ b (List.mem_of_mem_drop h)).elim h1 (fun hge => by omega)
      · exact (V.newβ _ b ht).elim (fun ⟨t', h'⟩ => h2 t' h') (fun hge => by omega)
theorem take_same {l l' : List Nat} (h : ∀ (id b : Nat), l[id]? = some b → l'[id]? = some b) : l'.take l.length = l := by
  apply List.ext_getElem?
  intro i
  rw [List.getElem?_take]
  split
  · rename_i hi
    rw [List.getElem?_eq_getElem hi]
    exact h i _ (List.getElem?_eq_getElem hi)
  · rename_i hi
    rw [List.getElem?_eq_none (by omega)]
theorem left_of {R : Rep E S w σ} {r : AV} {v : Value} {m : Nat} {o : Option (Nat × Nat)} {u : Bool} (V : Ev S0 w0 S w) (hm : S0.θ.length = m) (ho : ∀ p, o = some p → ∃ t, S.β (2 * t + 1) = some p.1) (hu : u = true → o = none)
    (hr : Res E (froz S w m o) w r v) : Left E S0 w0 (froz S w m o) w (outS u m σ m σ) r v := by
  refine ⟨rep_froz R ho hu, ?_, by rw [hm]; exact lent_froz R ho hu, hr, ev_froz V hm⟩
  subst hm
  exact take_same V.θ
theorem fun_of {k : Nat} {af : AF} {args : List AV} {σ0 : Sto} {K : AV → Sto → O.Ω → Prop} (hH : Has E k af) (h : AWP E O af.body (retK (lenS σ0) af.results K) (frame0 args af.ntmps) σ0 ω) : Fun E O k args σ0 ω K := by
  obtain ⟨fn, hs, keep, hf, hname, hc⟩ := hH
  simp only [compF] at hc
  split at hc
  · rename_i b rs hb hrs
    simp only [Option.some.injEq] at hc
    subst hc
    simp only at h
    rw [Option.bind_eq_some_iff] at hb
    obtain ⟨c, hbody, hcomp⟩ := hb
    refine ⟨⟨fn, hf, hname, by simp [hbody]⟩, fun S w vs B hJ => ?_⟩
    have hθ : S.θ.length = lenS σ0 := by rw [B.rep.len, lenS_eq']
    have hlen : vs.length = len args := by
      rw [appendL_len]
      have := RdF_len _ _ (RdNs_F B.args)
      exact this
    refine callsIn_wide (n := 0).1 (callsIn_of_wp_marks hf hbody trivial ?_ rfl)
    have hfr : RdF E.φ S w (frame0 args fn.ntmps) ((⟨vs⟩ : Array Value) ++ Array.replicate (fn.ntmps - (⟨vs⟩ : Array Value).size) undef).toList := by
      simp only [frame0, appendL_eq, Array.toList_append, Array.toList_replicate, List.size_toArray, hlen]
      exact RdF_append (RdNs_F B.args) (RdF_anyN _)
    refine wpIn_mono (h hs none c S w _ hcomp (fun l hl => by cases hl) ⟨B.rep, hfr, ⟨[], rfl, List.nodup_nil, fun r hr => by cases hr⟩, hJ⟩) ?_
    rintro e a w' ⟨x, A, σ, ω', S', rfl, hK, H, V⟩
    have main : (match resL A σ rs with
        | some [v] => K (retV (lenS σ0) σ v) (outS (retU v) (lenS σ0) σ (lenS σ0) σ) ω'
        | some vs => K (.tup (outL true (lenS σ0) σ vs)) (outS true (lenS σ0) σ (lenS σ0) σ) ω'
        | none => False) → LeavesInM Fence.wide 0 E.P fn a.tmps (Returns E O S w K) a.defers .returning w' := by
      intro hK
      obtain ⟨ms, hds, hnd, hms⟩ := H.marks
      rw [hds]
      refine leaves_marks B.n0 ms H.rep H.fr H.out V hnd hms ?_
      intro w2 R2 F2 J2 V2
      have hnew : ∀ t b, S'.β t = some b → S'.n0 ≤ b := fun t b ht => by
        rw [V2.n0.1, B.n0]
        exact (V2.newβ t b ht).elim (fun ⟨t', h'⟩ => by rw [B.β] at h'; cases h') id
      have J3 : ∀ o, (∀ p, o = some p → ∃ t, S'.β (2 * t + 1) = some p.1) → O.J ω' (froz S' w2 (lenS σ0) o) w2 := fun o ho => O.stable J2 (.refl _) rfl rfl (Nat.le_refl _) (fun b _ hX => ⟨rfl, by
          simp only [froz]
          rw [if_neg]
          rintro (h | ⟨t, ht⟩)
          · exact R2.θX b (List.mem_of_mem_drop h) hX
          · exact (R2.X b hX).2 _ ht⟩) (.refl _ _) froz_G (rep_froz (u := false) R2 ho (fun h => by cases h)).Gnew
      split at hK
      · rename_i v hv
        obtain ⟨us, hrun, hall⟩ := results_sound F2 (boxes_of R2) hrs hv
        cases hall with
        | cons h1 h2 =>
          rename_i u us
          cases h2
          obtain ⟨o, ho, hu, hres⟩ := retV_sound (m := lenS σ0) R2 h1 hnew
          refine ⟨u, ?_, u, _, _, ω', _, rfl, hK, J3 o ho, left_of (R := R2) V2 hθ ho hu hres⟩
          have e : (results fn a.tmps).run E.P w2 = ((fn.results.mapM (readR a.tmps)) >>= fun vs => pure (if h : vs.size = 1 then vs[0] else .tuple vs)).run E.P w2 := rfl
          rw [e, Array.mapM_eq_mapM_toList]
          simp only [Sem.run_bind, Sem.run_map, hrun, Result.andThen_ok, Sem.run_pure]
          rfl
      · rename_i vs' hne hv
        obtain ⟨us, hrun, hall⟩ := results_sound F2 (boxes_of R2) hrs hv
        have ho : ∀ p : Nat × Nat, (none : Option (Nat × Nat)) = some p → ∃ t, S'.β (2 * t + 1) = some p.1 := fun p hp => by cases hp
        obtain ⟨g1, g2⟩ := outVs_sound (u := true) (m := lenS σ0) (o := none) R2 ho (fun _ => rfl) hall
        have hl : us.length ≠ 1 := by
          intro he
          cases hall with
          | nil => cases he
          | cons h1 h2 =>
            cases h2 with
            | nil => exact hne _ rfl
            | cons h3 h4 => simp at he
        refine ⟨.tuple ⟨us⟩, ?_, .tuple ⟨us⟩, _, _, ω', _, rfl, hK, J3 none ho, left_of (R := R2) V2 hθ ho (fun _ => rfl) ⟨by simpa [solid] using g1, by simp only [RdA]; exact ⟨us, rfl, g2⟩⟩⟩
        have e : (results fn a.tmps).run E.P w2 = ((fn.results.mapM (readR a.tmps)) >>= fun vs => pure (if h : vs.size = 1 then vs[0] else .tuple vs)).run E.P w2 := rfl
        rw [e, Array.mapM_eq_mapM_toList]
        simp only [Sem.run_bind, Sem.run_map, hrun, Result.andThen_ok, Sem.run_pure]
        rw [dif_neg]
        simpa using hl
      · exact hK.elim
    cases x with
    | norm => exact main hK
    | ret => exact main hK
    | exit id => exact hK.elim
  · cases hc
end
end Go.Ly
end
section
namespace Go.Ly
theorem dem_view (T : List Nat) (x : AV) : demote1 T x = x ∨ (∃ t sz es ep, x = .own t sz es ep ∧ demote1 T x = .d ep (.row sz es) ∧ memN t T = true) ∨ ∃ cs, x = .agg cs ∧ demote1 T x = .agg (demoteL T cs) := by
  cases x with
  | own t sz es ep =>
    cases h : memN t T with
    | true => exact .inr (.inl ⟨t, sz, es, ep, rfl, by simp [demote1, demote, h], h⟩)
    | false => exact .inl (by simp [demote1, demote, h])
  | agg cs => exact .inr (.inr ⟨cs, rfl, rfl⟩)
  | _ => exact .inl rfl
theorem rowOf_dem (T : List Nat) (x : AV) : rowOf (demote1 T x) = rowOf x := by
  rcases dem_view T x with h | ⟨t, sz, es, ep, rfl, h, _⟩ | ⟨cs, rfl, h⟩ <;> rw [h] <;> rfl
theorem wk1_demote (T : List Nat) (x : AV) : wk1 (demote T x) = wk1 x := by
  cases x with
  | own t sz es ep => simp only [demote]; cases memN t T <;> rfl
  | _ => rfl
theorem wkL_demoteL (T : List Nat) : ∀ cs : List AV, wkL (demoteL T cs) = wkL cs
  | [] => rfl
  | c :: cs => by simp [demoteL, wkL, wk1_demote, wkL_demoteL T cs]
theorem wk_dem (T : List Nat) (x : AV) : wk (demote1 T x) = wk x := by
  rcases dem_view T x with h | ⟨t, sz, es, ep, rfl, h, _⟩ | ⟨cs, rfl, h⟩ <;> rw [h]
  · rfl
  · simp only [wk, wkL_demoteL]
theorem toD_dem (T : List Nat) (x : AV) : toD (demote1 T x) = toD x := by simp [toD, wk_dem]
theorem mkAgg_noOwn (cs : List AV) (h : noOwn.noOwnL cs = true) : noOwn (mkAgg cs) = true := by
  unfold mkAgg
  cases toDs cs with
  | some p => rfl
  | none => exact h
theorem noOwn_wkL : ∀ cs : List AV, noOwn.noOwnL (wkL cs) = true := noOwn_mkAgg_wkL
theorem dem_noOwn (T : List Nat) (x : AV) (h : noOwn x = true) : demote1 T x = x := demote_noOwn T x h
theorem drV_dem (T : List Nat) (x : AV) : drV (demote1 T x) = demote1 T (drV x) := by
  rcases dem_view T x with h | ⟨t, sz, es, ep, rfl, h, _⟩ | ⟨cs, rfl, h⟩
  · rw [h]
    cases x with
    | agg cs => simp only [drV]; rw [dem_noOwn T _ (mkAgg_noOwn _ (noOwn_wkL cs))]
    | _ => exact h.symm
  · rw [h]; exact h.symm
  · rw [h]
    simp only [drV, wkL_demoteL]
    rw [dem_noOwn T _ (mkAgg_noOwn _ (noOwn_wkL cs))]
theorem drV_demote (T : List Nat) (x : AV) : drV (demote T x) = demote1 T (drV x) := by
  cases x with
  | agg cs => exact (dem_noOwn T _ (mkAgg_noOwn _ (noOwn_wkL cs))).symm
  | own t sz es ep => exact drV_dem T (.own t sz es ep)
  | _ => rfl
theorem toDs_wkL : ∀ (cs : List AV) (p : Ep × List D), toDs cs = some p → wkL cs = cs
  | [], _, _ => rfl
  | c :: cs, p, h => by
    simp only [toDs] at h
    split at h
    · cases h
    · rename_i e x hx
      split at h
      · cases h
      · rename_i e' xs hxs
        have : wk1 c = c := by
          cases c <;> simp [toD1] at hx
          rfl
        simp only [wkL, this, toDs_wkL cs _ hxs]
theorem drV_mkAgg (cs : List AV) : drV (mkAgg cs) = mkAgg (wkL cs) := by
  cases h : toDs cs with
  | some p =>
    rw [toDs_wkL cs p h]
    simp only [mkAgg, h, drV]
  | none => simp only [mkAgg, h, drV]
theorem len_demoteL (T : List Nat) : ∀ cs : List AV, len (demoteL T cs) = len cs
  | [] => rfl
  | c :: cs => by simp [demoteL, len, len_demoteL T cs]
theorem gt_demoteL (T : List Nat) : ∀ (cs : List AV) (i : Nat), gt (demoteL T cs) i = demote T (gt cs i)
  | [], _ => rfl
  | _ :: _, 0 => rfl
  | c :: cs, i + 1 => by simp [demoteL, gt, gt_demoteL T cs i]
theorem takeCells_demoteL (T : List Nat) (cs : List AV) : ∀ (n off : Nat), takeCells (demoteL T cs) off n = demoteL T (takeCells cs off n)
  | 0, _ => rfl
  | n + 1, off => by simp [takeCells, demoteL, gt_demoteL, takeCells_demoteL T cs n (off + 1)]
theorem one_dem (T : List Nat) (cs : List AV) (ag : Bool) : drV (one (demoteL T cs) ag) = demote1 T (drV (one cs ag)) := by
  cases ag with
  | true =>
    simp only [one, drV_mkAgg, wkL_demoteL]
    rw [dem_noOwn T _ (mkAgg_noOwn _ (noOwn_wkL cs))]
  | false =>
    simp only [one, gt_demoteL, drV_demote]
theorem demoteL_dcells (T : List Nat) (ep : Ep) : ∀ l : List D, demoteL T (dcells ep l) = dcells ep l
  | [] => rfl
  | x :: l => by simp [dcells, demoteL, demote, demoteL_dcells T ep l]
theorem parts_dem (T : List Nat) (x : AV) : (demote1 T x).parts = x.parts.map (demoteL T) := by
  rcases dem_view T x with h | ⟨t, sz, es, ep, rfl, h, _⟩ | ⟨cs, rfl, h⟩
  · rw [h]
    cases x with
    | agg cs =>
      simp only [demote1, AV.agg.injEq] at h
      simp only [AV.parts, Option.map_some, h]
    | d ep y =>
      cases y <;> first
        | rfl
        | simp only [AV.parts, Option.map_some, demoteL_dcells]
    | _ => rfl
  · rw [h]; rfl
  · rw [h]; rfl
theorem cells_dem (T : List Nat) (x : AV) : (demote1 T x).cells = x.cells.map (demoteL T) := by
  cases x with
  | agg cs => rfl
  | own t sz es ep =>
    simp only [demote1, demote]
    cases h : memN t T <;> simp [AV.cells, demoteL, demote, h]
  | d ep y =>
    cases y <;> simp [demote1, demote, AV.cells, demoteL, demoteL_dcells]
  | _ => rfl
theorem wkL_upd : ∀ (cs : List AV) (i : Nat) (v : AV), wkL (upd cs i v) = upd (wkL cs) i (wk1 v)
  | [], _, _ => rfl
  | _ :: _, 0, _ => rfl
  | c :: cs, i + 1, v => by simp [upd, wkL, wkL_upd cs i v]
theorem wkL_putCells : ∀ (vs cs : List AV) (off : Nat), wkL (putCells cs off vs) = putCells (wkL cs) off (wkL vs)
  | [], _, _ => rfl
  | v :: vs, cs, off => by simp [putCells, wkL, wkL_putCells vs, wkL_upd]
theorem demoteL_upd (T : List Nat) : ∀ (cs : List AV) (i : Nat) (v : AV), demoteL T (upd cs i v) = upd (demoteL T cs) i (demote T v)
  | [], _, _ => rfl
  | _ :: _, 0, _ => rfl
  | c :: cs, i + 1, v => by simp [upd, demoteL, demoteL_upd T cs i v]
theorem demoteL_putCells (T : List Nat) : ∀ (vs cs : List AV) (off : Nat), demoteL T (putCells cs off vs) = putCells (demoteL T cs) off (demoteL T vs)
  | [], _, _ => rfl
  | v :: vs, cs, off => by simp [putCells, demoteL, demoteL_putCells T vs, demoteL_upd]
theorem areOne_dem (T : List Nat) : ∀ vs : List AV, areOne (demoteL T vs) = areOne vs
  | [] => rfl
  | v :: vs => by
    have : isOne (demote T v) = isOne v := by
      cases v with
      | own t sz es ep => simp only [demote]; cases memN t T <;> rfl
      | _ => rfl
    simp [demoteL, areOne, this, areOne_dem T vs]
def demE (T : List Nat) : Eff → Eff
  | .put v => .put (demote1 T v)
  | .ap t v => .ap t v
  | .st id off vs => .st id off (demoteL T vs)
  | .nw cs => .nw (demoteL T cs)
  | e => e
def okL (n : Nat) : List AV → Prop
  | [] => True
  | .ptr id _ :: l => id < n ∧ okL n l
  | _ :: l => okL n l
def okV (n : Nat) : AV → Prop
  | .ptr id _ => id < n
  | .mp id => id < n
  | .fn _ a c => okL n a ∧ okL n c
  | .cb cs _ => noOwn.noOwnL cs = true
  | .fb cs _ => noOwn.noOwnL cs = true
  | .agg cs => okL n cs
  | .tup vs => ∀ i, noOwn (gt vs i) = true
  | _ => True
section
variable {A A1 : Fm} {σ σ1 : Sto} {T : List Nat} {d : Nat}
structure Rel (xs : List AO) (sees : Bool) (A : Fm) (σ : Sto) (T : List Nat) (A1 : Fm) (σ1 : Sto) : Prop where
  ev : ∀ x ∈ xs, x.ev A1 = demote1 T (x.ev A)
  ok : ∀ x ∈ xs, okV (lenS σ) (x.ev A)
  st : sees = true → ∀ id, id < lenS σ → getS σ1 id = (getS σ id).map (SE.demote T)
theorem fillParts_dem : ∀ (ps : List (Nat × Nat × AO)) (cs cs1 : List AV), (∀ p ∈ ps, p.2.2.ev A1 = demote1 T (p.2.2.ev A)) → wkL cs1 = wkL cs → len cs1 = len cs →
    (fillParts A1 cs1 ps).map wkL = (fillParts A cs ps).map wkL
  | [], cs, cs1, _, h, _ => by simp [fillParts, h]
  | (off, sz, x) :: ps, cs, cs1, hp, h, hl => by
    have hx := hp (off, sz, x) (by simp)
    simp only at hx
    simp only [fillParts, hx, cells_dem]
    cases hc : (x.ev A).cells with
    | none => rfl
    | some vs =>
      simp only [Option.map_some, len_demoteL, hl]
      cases natEq (len vs) sz && natLe (off + sz) (len cs) with
      | false => rfl
      | true =>
        refine fillParts_dem ps _ _ (fun p hp' => hp p (by simp [hp'])) ?_ ?_
        · rw [wkL_putCells, wkL_putCells, wkL_demoteL, h]
        · have key : ∀ (us c1 : List AV) (o : Nat), len (putCells c1 o us) = len c1 := by
            intro us
            induction us with
            | nil => intro c1 o; rfl
            | cons u us ih =>
              intro c1 o
              simp only [putCells, ih]
              have hu : ∀ (c : List AV) (i : Nat) (v : AV), len (upd c i v) = len c := by
                intro c
                induction c with
                | nil => intro i v; rfl
                | cons z c ihc =>
                  intro i v
                  cases i with
                  | zero => rfl
                  | succ i => simp [upd, len, ihc]
              exact hu _ _ _
          rw [key, key, hl]
theorem toDList_dem (sz : Nat) : ∀ xs : List AO, (∀ x ∈ xs, x.ev A1 = demote1 T (x.ev A)) → toDList A1 sz xs = toDList A sz xs
  | [], _ => rfl
  | x :: xs, h => by
    simp only [toDList, h x (by simp), toD_dem, toDList_dem sz xs fun y hy => h y (by simp [hy])]
theorem wks_dem : ∀ xs : List AO, (∀ x ∈ xs, x.ev A1 = demote1 T (x.ev A)) → wks (evs A1 xs) = wks (evs A xs)
  | [], _ => rfl
  | x :: xs, h => by simp [evs, wks, h x (by simp), wk_dem, wks_dem xs fun y hy => h y (by simp [hy])]
theorem rowU_dem (T : List Nat) (x : AV) : rowU (demote1 T x) = rowU x := by
  rcases dem_view T x with h | ⟨t, sz, es, ep, rfl, h, _⟩ | ⟨cs, rfl, h⟩ <;> rw [h] <;> rfl
theorem cellList_dem (sz : Nat) : ∀ xs : List AO, (∀ x ∈ xs, x.ev A1 = demote1 T (x.ev A)) → cellList A1 sz xs = cellList A sz xs
  | [], _ => rfl
  | x :: xs, h => by
    have ih := cellList_dem sz xs fun y hy => h y (by simp [hy])
    simp only [cellList, h x (by simp), cells_dem]
    cases (x.ev A).cells with
    | none => rfl
    | some vs => simp only [Option.map_some, len_demoteL, wkL_demoteL, ih]
theorem boundA_dem (n : Int) : ∀ x : Option AO, (∀ y ∈ x.toList, y.ev A1 = demote1 T (y.ev A)) → boundA A1 n x = boundA A n x
  | none, _ => rfl
  | some y, h => by
    simp only [boundA, h y (by simp)]
    rcases dem_view T (y.ev A) with e | ⟨t, sz, es, ep, e, e', _⟩ | ⟨cs, e, e'⟩
    · rw [e]
    · rw [e', e]
    · rw [e', e]
theorem maxA_dem (p : Prims) : ∀ (xs : List AO) (m : Int), (∀ x ∈ xs, x.ev A1 = demote1 T (x.ev A)) → maxA p A1 m xs = maxA p A m xs
  | [], _, _ => rfl
  | x :: xs, m, h => by
    simp only [maxA, h x (by simp)]
    have ih := fun k => maxA_dem p xs k fun y hy => h y (by simp [hy])
    rcases dem_view T (x.ev A) with e | ⟨t, sz, es, ep, e, e', _⟩ | ⟨cs, e, e'⟩
    · rw [e]
      split
      · exact ih _
      · rfl
    · rw [e', e]
    · rw [e', e]
theorem loadA_dem {a : AO} {sz : Nat} {ag : Bool} (R : Rel [a] true A σ T A1 σ1) :
    (loadA σ1 (a.ev A1) sz ag).map (fun q => (q.1, drV q.2)) = (loadA σ (a.ev A) sz ag).map (fun q => (q.1, demote1 T (drV q.2))) := by
  have he := R.ev a (by simp)
  have ho := R.ok a (by simp)
  rw [he]
  generalize a.ev A = x at *
  rcases dem_view T x with e | ⟨t, sz', es, ep, e, e', _⟩ | ⟨cs, e, e'⟩
  · rw [e]
    cases x with
    | ptr id off =>
      simp only [okV] at ho
      simp only [loadA, R.st rfl id ho]
      cases getS σ id with
      | none => rfl
      | some s =>
        cases s with
        | bx cs =>
          simp only [Option.map_some, SE.demote, len_demoteL]
          cases natLe (off + sz) (len cs) with
          | false => rfl
          | true => simp only [yes, Option.map_some, takeCells_demoteL, one_dem]
        | _ => rfl
    | up _ _ _ y off ep =>
      simp only [loadA]
      cases natLe (off + sz) (dlen y.cells) with
      | false => rfl
      | true =>
        have := one_dem T (takeCells (dcells ep y.cells) off sz) ag
        rw [← takeCells_demoteL, demoteL_dcells] at this
        exact congrArg (fun v => some (True, v)) this
    | cb cs off =>
      simp only [okV] at ho
      simp only [loadA]
      cases natLe (off + sz) (len cs) with
      | false => rfl
      | true =>
        have := one_dem T (takeCells cs off sz) ag
        rw [← takeCells_demoteL, demoteL_noOwn T cs ho] at this
        exact congrArg (fun v => some (True, v)) this
    | fb cs off =>
      simp only [okV] at ho
      simp only [loadA]
      cases natLe (off + sz) (len cs) with
      | false => rfl
      | true =>
        have := one_dem T (takeCells cs off sz) ag
        rw [← takeCells_demoteL, demoteL_noOwn T cs ho] at this
        exact congrArg (fun v => some (True, v)) this
    | «at» ep y off =>
      simp only [loadA]
      cases natLe (off + sz) (dlen y.cells) with
      | false => rfl
      | true =>
        have := one_dem T (takeCells (dcells ep y.cells) off sz) ag
        rw [← takeCells_demoteL, demoteL_dcells] at this
        exact congrArg (fun v => some (True, v)) this
    | _ => rfl
  · rw [e', e]; rfl
  · rw [e', e]; rfl
end
end Go.Ly
end
section
namespace Go.Ly
section
variable {A A1 : Fm} {σ σ1 : Sto} {T : List Nat} {d : Nat}
def calmB : AV → Bool
  | .own .. => false
  | _ => true
theorem calmB_of {x : AV} (h : noOwn x = true) : calmB x = true := by
  cases x <;> first | rfl | cases h
def calmA : Ans → Prop
  | some (_, v) => calmB v = true
  | none => True
theorem drV_calm {x : AV} (h : calmB x = true) : demote1 T (drV x) = drV x := by
  cases x with
  | own => cases h
  | agg cs => exact dem_noOwn T _ (mkAgg_noOwn _ (noOwn_wkL cs))
  | _ => rfl
theorem calmA_eq {x : Ans} (h : calmA x) : x.map (fun q => (q.1, drV q.2)) = x.map (fun q => (q.1, demote1 T (drV q.2))) := by
  cases x with
  | none => rfl
  | some q => simp only [Option.map_some, drV_calm (T := T) h]
theorem calm_bin (p : Prims) (op : BinOp) (ty : Nat) (x y : AV) : calmA (binA p op ty x y) := by
  have hi : ∀ k a b, calmA (binInt p op k a b) := by
    intro k a b
    cases op <;> first
      | trivial
      | rfl
      | (cases k <;> first | trivial | rfl)
  have hh : ∀ k a b, calmA (binSh p op k a b) := by
    intro k a b
    cases op <;> first | trivial | rfl
  have hs : ∀ a b, calmA (binStr p op a b) := by
    intro a b
    cases op <;> first | trivial | rfl
  unfold binA
  split
  · split
    · exact hh _ _ _
    · split
      · exact hi _ _ _
      · trivial
  · exact hs _ _
  · split <;> first | trivial | rfl
  · split <;> first | trivial | rfl
  · split <;> first | trivial | rfl
  · trivial
theorem binA_dem (p : Prims) (op : BinOp) (ty : Nat) (x y : AV) : binA p op ty (demote1 T x) (demote1 T y) = binA p op ty x y := by
  rcases dem_view T x with e | ⟨t, sz, es, ep, e, e', _⟩ | ⟨cs, e, e'⟩
  · rw [e]
    rcases dem_view T y with f | ⟨t, sz, es, ep, f, f', _⟩ | ⟨cs, f, f'⟩
    · rw [f]
    · rw [f', f]
      cases x with
      | d e x => cases x <;> rfl
      | _ => rfl
    · rw [f', f]
      cases x with
      | d e x => cases x <;> rfl
      | _ => rfl
  · rw [e', e]; rfl
  · rw [e', e]; rfl
theorem flat_dem (x : AV) : flat (demote1 T x) = flat x := by
  rcases dem_view T x with h | ⟨t, sz, es, ep, rfl, h, _⟩ | ⟨cs, rfl, h⟩ <;> rw [h]
  · rfl
  · simp only [flat, wkL_demoteL]
theorem minA_dem (p : Prims) : ∀ (xs : List AO) (m : Int), (∀ x ∈ xs, x.ev A1 = demote1 T (x.ev A)) → minA p A1 m xs = minA p A m xs
  | [], _, _ => rfl
  | x :: xs, m, h => by
    simp only [minA, h x (by simp)]
    have ih := fun k => minA_dem p xs k fun y hy => h y (by simp [hy])
    rcases dem_view T (x.ev A) with e | ⟨t, sz, es, ep, e, e', _⟩ | ⟨cs, e, e'⟩
    · rw [e]
      split
      · exact ih _
      · rfl
    · rw [e', e]
    · rw [e', e]
theorem rowR_dem (T : List Nat) (x : AV) : rowR (demote1 T x) = rowR x := by
  rcases dem_view T x with h | ⟨t, sz, es, ep, rfl, h, _⟩ | ⟨cs, rfl, h⟩ <;> rw [h] <;> rfl
theorem calm_un (p : Prims) (op : UnOp) (x : AV) : calmA (unA p op x) := by
  unfold unA
  split
  · split <;> first | trivial | rfl
  · split <;> first | trivial | rfl
  · trivial
theorem unA_dem (p : Prims) (op : UnOp) (x : AV) : unA p op (demote1 T x) = unA p op x := by
  rcases dem_view T x with e | ⟨t, sz, es, ep, e, e', _⟩ | ⟨cs, e, e'⟩
  · rw [e]
  · rw [e', e]; rfl
  · rw [e', e]; rfl
def tokFresh (d : Nat) (T : List Nat) : AOp → Prop
  | .alloc zs => ∀ i, i < zs.length → memN (100 * d + i) T = false
  | .nil _ _ => memN (100 * d + 98) T = false
  | .slc _ _ _ _ => memN (100 * d + 96) T = false
  | _ => True
theorem evV_dem {op : AOp} (hf : tokFresh d T op) (R : Rel op.opnds op.sees A σ T A1 σ1) :
    (evV std d A1 σ1 op).map (fun q => (q.1, drV q.2)) = (evV std d A σ op).map (fun q => (q.1, demote1 T (drV q.2))) := by
  have one : ∀ x, x ∈ op.opnds → x.ev A1 = demote1 T (x.ev A) := R.ev
  cases op with
  | mv x =>
    simp only [evV, yes, Option.map_some, one x (by simp [AOp.opnds]), drV_dem]
  | nil u sz =>
    simp only [tokFresh] at hf
    cases u <;> simp only [evV, yes, Option.map_some, drV, demote1, demote, hf]
  | slc x hi mx sz =>
    simp only [tokFresh] at hf
    simp only [evV, one x (by simp [AOp.opnds]), one hi (by simp [AOp.opnds]), one mx (by simp [AOp.opnds]), rowOf_dem]
    have hI : ∀ y : AV, (∃ ep n, demote1 T y = .d ep (.int .i64 n)) ↔ ∃ ep n, y = .d ep (.int .i64 n) := fun y => by
      rcases dem_view T y with e | ⟨t, sz, es, ep, e, e', _⟩ | ⟨cs, e, e'⟩
      · rw [e]
      · rw [e', e]; simp
      · rw [e', e]; simp
    cases hr : rowOf (x.ev A) with
    | none => rfl
    | some q =>
      obtain ⟨ep, sz', es⟩ := q
      rcases dem_view T (hi.ev A) with e | ⟨t, sz, es, ep, e, e', _⟩ | ⟨cs, e, e'⟩
      · rw [e]
        rcases dem_view T (mx.ev A) with f | ⟨t, sz, es, ep, f, f', _⟩ | ⟨cs, f, f'⟩
        · rw [f]
          split
          · split
            · simp only [Option.map_some, drV, demote1, demote, hf]
            · rfl
          · rfl
        · rw [f', f]
          generalize hi.ev A = X
          cases X with
          | d e x => cases x with
            | int k n => cases k <;> rfl
            | _ => rfl
          | _ => rfl
        · rw [f', f]
          generalize hi.ev A = X
          cases X with
          | d e x => cases x with
            | int k n => cases k <;> rfl
            | _ => rfl
          | _ => rfl
      · rw [e', e]; rfl
      · rw [e', e]; rfl
  | pick c a b =>
    simp only [evV, one c (by simp [AOp.opnds]), one a (by simp [AOp.opnds]), one b (by simp [AOp.opnds])]
    rcases dem_view T (c.ev A) with e | ⟨t, sz, es, ep, e, e', _⟩ | ⟨cs, e, e'⟩
    · rw [e]
      split
      · simp only [yes, Option.map_some, drV_dem]
      · simp only [yes, Option.map_some, drV_dem]
      · rfl
    · rw [e', e]; rfl
    · rw [e', e]; rfl
  | alloc zs => rfl
  | box x => rfl
  | build zs ps =>
    have hp : ∀ p ∈ ps, p.2.2.ev A1 = demote1 T (p.2.2.ev A) := fun p hp => one _ (by simp only [AOp.opnds, List.mem_map]; exact ⟨p, hp, rfl⟩)
    have h := fillParts_dem ps (zcells d 0 zs) (zcells d 0 zs) hp rfl rfl
    simp only [evV]
    cases h1 : fillParts A1 (zcells d 0 zs) ps with
    | none =>
      rw [h1] at h
      cases h2 : fillParts A (zcells d 0 zs) ps with
      | none => rfl
      | some cs => rw [h2] at h; cases h
    | some cs1 =>
      rw [h1] at h
      cases h2 : fillParts A (zcells d 0 zs) ps with
      | none => rw [h2] at h; cases h
      | some cs =>
        rw [h2] at h
        simp only [Option.map_some, Option.some.injEq] at h
        simp only [yes, Option.map_some, drV_mkAgg, h, dem_noOwn T _ (mkAgg_noOwn _ (noOwn_wkL cs))]
  | bslice ow sz xs =>
    simp only [evV, toDList_dem sz xs one, cellList_dem sz xs one]
    apply calmA_eq
    split
    · split <;> trivial
    · split <;> trivial
    · trivial
  | ld a sz ag => exact loadA_dem R
  | st a x sz => rfl
  | nilck x =>
    simp only [evV, one x (by simp [AOp.opnds])]
    rcases dem_view T (x.ev A) with e | ⟨t, sz, es, ep, e, e', _⟩ | ⟨cs, e, e'⟩
    · rw [e]
      apply calmA_eq
      split <;> trivial
    · rw [e', e]; rfl
    · rw [e', e]; rfl
  | bin op ty x y =>
    simp only [evV, one x (by simp [AOp.opnds]), one y (by simp [AOp.opnds]), binA_dem]
    exact calmA_eq (calm_bin _ _ _ _ _)
  | un op x =>
    simp only [evV, one x (by simp [AOp.opnds]), unA_dem]
    exact calmA_eq (calm_un _ _ _)
  | conv k x =>
    simp only [evV, one x (by simp [AOp.opnds])]
    rcases dem_view T (x.ev A) with e | ⟨t, sz, es, ep, e, e', _⟩ | ⟨cs, e, e'⟩
    · rw [e]
      apply calmA_eq
      split <;> first | trivial | rfl | (split <;> trivial)
    · rw [e', e]; cases k <;> rfl
    · rw [e', e]; cases k <;> rfl
  | fa x off =>
    simp only [evV, one x (by simp [AOp.opnds])]
    rcases dem_view T (x.ev A) with e | ⟨t, sz, es, ep, e, e', _⟩ | ⟨cs, e, e'⟩
    · rw [e]
      apply calmA_eq
      split <;> trivial
    · rw [e', e]; rfl
    · rw [e', e]; rfl
  | fld x off sz ag =>
    simp only [evV, one x (by simp [AOp.opnds]), parts_dem]
    cases (x.ev A).parts with
    | none => rfl
    | some cs =>
      simp only [Option.map_some, len_demoteL]
      cases natLe (off + sz) (len cs) with
      | false => rfl
      | true => simp only [yes, Option.map_some, takeCells_demoteL, one_dem]
  | ia x i sz => rfl
  | iaa x i ln sz =>
    simp only [evV, one x (by simp [AOp.opnds]), one i (by simp [AOp.opnds])]
    rcases dem_view T (x.ev A) with e | ⟨t, sz, es, ep, e, e', _⟩ | ⟨cs, e, e'⟩
    · rw [e]
      rcases dem_view T (i.ev A) with f | ⟨t, sz, es, ep, f, f', _⟩ | ⟨cs, f, f'⟩
      · rw [f]
        apply calmA_eq
        split <;> trivial
      · rw [f', f]
        generalize x.ev A = X
        cases X <;> rfl
      · rw [f', f]
        generalize x.ev A = X
        cases X <;> rfl
    · rw [e', e]; rfl
    · rw [e', e]; rfl
  | ix x i =>
    simp only [evV, one x (by simp [AOp.opnds]), one i (by simp [AOp.opnds])]
    rcases dem_view T (x.ev A) with e | ⟨t, sz, es, ep, e, e', _⟩ | ⟨cs, e, e'⟩
    · rw [e]
      rcases dem_view T (i.ev A) with f | ⟨t, sz, es, ep, f, f', _⟩ | ⟨cs, f, f'⟩
      · rw [f]
        apply calmA_eq
        split <;> trivial
      · rw [f', f]
        generalize x.ev A = X
        cases X with
        | d e x => cases x <;> rfl
        | _ => rfl
      · rw [f', f]
        generalize x.ev A = X
        cases X with
        | d e x => cases x <;> rfl
        | _ => rfl
    · rw [e', e]; rfl
    · rw [e', e]; rfl
  | axi x i ln sz ag =>
    simp only [evV, one x (by simp [AOp.opnds]), one i (by simp [AOp.opnds]), parts_dem]
    rcases dem_view T (i.ev A) with f | ⟨t, sz', es, ep, f, f', _⟩ | ⟨cs, f, f'⟩
    · rw [f]
      split
      · cases (x.ev A).parts with
        | none => rfl
        | some cs =>
          simp only [Option.map_some, len_demoteL]
          cases natEq (len cs) (ln * sz) with
          | false => rfl
          | true => simp only [Option.map_some, takeCells_demoteL, one_dem]
      · rfl
    · rw [f', f]; rfl
    · rw [f', f]; rfl
  | sl x lo hi sz =>
    have h1 := fun n => boundA_dem (A := A) (A1 := A1) (T := T) n lo fun y hy => one y (by simp only [AOp.opnds, List.mem_cons, List.mem_append]; exact .inr (.inl hy))
    have h2 := fun n => boundA_dem (A := A) (A1 := A1) (T := T) n hi fun y hy => one y (by simp only [AOp.opnds, List.mem_cons, List.mem_append]; exact .inr (.inr hy))
    simp only [evV, one x (by simp [AOp.opnds]), rowOf_dem, h1, h2]
    apply calmA_eq
    split
    · split <;> trivial
    · trivial
  | sls x lo hi =>
    have h1 := fun n => boundA_dem (A := A) (A1 := A1) (T := T) n lo fun y hy => one y (by simp only [AOp.opnds, List.mem_cons, List.mem_append]; exact .inr (.inl hy))
    have h2 := fun n => boundA_dem (A := A) (A1 := A1) (T := T) n hi fun y hy => one y (by simp only [AOp.opnds, List.mem_cons, List.mem_append]; exact .inr (.inr hy))
    simp only [evV, one x (by simp [AOp.opnds]), h1, h2]
    rcases dem_view T (x.ev A) with e | ⟨t, sz, es, ep, e, e', _⟩ | ⟨cs, e, e'⟩
    · rw [e]
      apply calmA_eq
      split
      · split <;> trivial
      · trivial
    · rw [e', e]; rfl
    · rw [e', e]; rfl
  | len str x =>
    cases str with
    | true =>
      simp only [evV, one x (by simp [AOp.opnds])]
      rcases dem_view T (x.ev A) with e | ⟨t, sz, es, ep, e, e', _⟩ | ⟨cs, e, e'⟩
      · rw [e]
        apply calmA_eq
        split <;> trivial
      · rw [e', e]; rfl
      · rw [e', e]; rfl
    | false =>
      simp only [evV, one x (by simp [AOp.opnds]), rowU_dem]
      apply calmA_eq
      split <;> trivial
  | app x y sz b => rfl
  | mkfn f a b =>
    have h1 := wks_dem (A := A) (A1 := A1) (T := T) a fun x hx => one x (by simp only [AOp.opnds, List.mem_append]; exact .inl hx)
    have h2 := wks_dem (A := A) (A1 := A1) (T := T) b fun x hx => one x (by simp only [AOp.opnds, List.mem_append]; exact .inr hx)
    simp only [evV, h1, h2]
    exact calmA_eq rfl
  | ext t k =>
    have ho := R.ok t (by simp [AOp.opnds])
    simp only [evV, one t (by simp [AOp.opnds])]
    rcases dem_view T (t.ev A) with e | ⟨t', sz, es, ep, e, e', _⟩ | ⟨cs, e, e'⟩
    · rw [e]
      apply calmA_eq
      split
      · rename_i vs hvs
        rw [hvs] at ho
        split
        · exact calmB_of (ho k)
        · trivial
      · trivial
    · rw [e', e]; rfl
    · rw [e', e]; rfl
  | call u f xs => rfl
  | isnil neg x => rfl
  | mlk kk x k z ok => rfl
  | mkm => rfl
  | allocu sz => rfl
  | mup kk x k v => rfl
  | mln x =>
    have ho := R.ok x (by simp [AOp.opnds])
    simp only [evV, one x (by simp [AOp.opnds])]
    rcases dem_view T (x.ev A) with e | ⟨t', sz, es, ep, e, e', _⟩ | ⟨cs, e, e'⟩
    · rw [e]
      cases hX : x.ev A with
      | mp id =>
        rw [hX] at ho
        simp only [okV] at ho
        simp only [R.st rfl id ho]
        cases getS σ id with
        | none => rfl
        | some s => cases s <;> rfl
      | _ => rfl
    · rw [e', e]; rfl
    · rw [e', e]; rfl
  | seq neg ks x y =>
    simp only [evV, one x (by simp [AOp.opnds]), one y (by simp [AOp.opnds]), flat_dem]
    apply calmA_eq
    split
    · split <;> trivial
    · trivial
  | mn xs =>
    cases xs with
    | nil => rfl
    | cons x xs =>
      have h1 := fun m => minA_dem (A := A) (A1 := A1) (T := T) std xs m fun y hy => one y (by simp only [AOp.opnds, List.mem_cons]; exact .inr hy)
      simp only [evV, one x (by simp [AOp.opnds]), h1]
      rcases dem_view T (x.ev A) with e | ⟨t, sz, es, ep, e, e', _⟩ | ⟨cs, e, e'⟩
      · rw [e]
        apply calmA_eq
        split
        · split <;> trivial
        · trivial
      · rw [e', e]; rfl
      · rw [e', e]; rfl
  | mx xs =>
    cases xs with
    | nil => rfl
    | cons x xs =>
      have h1 := fun m => maxA_dem (A := A) (A1 := A1) (T := T) std xs m fun y hy => one y (by simp only [AOp.opnds, List.mem_cons]; exact .inr hy)
      simp only [evV, one x (by simp [AOp.opnds]), h1]
      rcases dem_view T (x.ev A) with e | ⟨t, sz, es, ep, e, e', _⟩ | ⟨cs, e, e'⟩
      · rw [e]
        apply calmA_eq
        split
        · split <;> trivial
        · trivial
      · rw [e', e]; rfl
      · rw [e', e]; rfl
theorem zcells_dem (d : Nat) : ∀ (zs : List D) (i : Nat), (∀ j, j < zs.length → memN (100 * d + (i + j)) T = false) → demoteL T (zcells d i zs) = zcells d i zs
  | [], _, _ => rfl
  | z :: zs, i, h => by
    have h0 := h 0 (by simp)
    have ih := zcells_dem d zs (i + 1) fun j hj => by
      have := h (j + 1) (by simpa using hj)
      rwa [show i + (j + 1) = i + 1 + j by omega] at this
    simp only [zcells, demoteL, ih]
    congr 1
    cases z with
    | row sz es =>
      cases es with
      | nil =>
        simp only [Nat.add_zero] at h0
        simp [zcell, demote, h0]
      | cons e es => rfl
    | _ => rfl
def effM (d : Nat) (A : Fm) (σ : Sto) (op : AOp) : Option (Prop × Eff) :=
  match eff std d A σ op with
  | some (q, e) => match e.mild true with | true => some (q, e.calm true) | false => none
  | none => none
theorem effM_mup (d : Nat) (A : Fm) (σ : Sto) (kk : D) (x k v : AO) : effM d A σ (.mup kk x k v) = none := by
  unfold effM
  cases h : eff std d A σ (.mup kk x k v) with
  | none => rfl
  | some q =>
    have : ∃ id s, q.2 = .mo id s := by
      simp only [eff] at h
      repeat' split at h
      all_goals first
        | (cases h; done)
        | (cases h; exact ⟨_, _, rfl⟩)
    obtain ⟨id, s, hs⟩ := this
    obtain ⟨q, e⟩ := q
    simp only at hs
    subst hs
    rfl
theorem effM_stu {d : Nat} {A : Fm} {σ : Sto} {a x : AO} {sz t sz' m off : Nat} {e : D} {ep1 : Ep} (hX : a.ev A = .up t sz' m e off ep1) : effM d A σ (.st a x sz) = none := by
  unfold effM
  cases h : eff std d A σ (.st a x sz) with
  | none => rfl
  | some q =>
    have : ∃ u, q.2 = .uw u := by
      simp only [eff, hX] at h
      repeat' split at h
      all_goals first
        | (cases h; done)
        | (cases h; exact ⟨_, rfl⟩)
    obtain ⟨u, hs⟩ := this
    obtain ⟨q, e⟩ := q
    simp only at hs
    subst hs
    rfl
theorem effM_slu {d : Nat} {A : Fm} {σ : Sto} {x : AO} {lo hi : Option AO} {sz t sz' : Nat} {es : List D} {ep : Ep} (hX : x.ev A = .uq t sz' es ep) : effM d A σ (.sl x lo hi sz) = none := by
  unfold effM
  cases h : eff std d A σ (.sl x lo hi sz) with
  | none => rfl
  | some q =>
    have : ∃ t v, q.2 = .uc t v := by
      simp only [eff, hX] at h
      repeat' split at h
      all_goals first
        | (cases h; done)
        | (cases h; exact ⟨_, _, rfl⟩)
    obtain ⟨t, v, hs⟩ := this
    obtain ⟨q, e⟩ := q
    simp only at hs
    subst hs
    rfl
theorem eff_sl {d : Nat} {A : Fm} {σ : Sto} {x : AO} {lo hi : Option AO} {sz : Nat} (hX : ∀ t sz' es ep, x.ev A ≠ .uq t sz' es ep) :
    eff std d A σ (.sl x lo hi sz) = match evV std d A σ (.sl x lo hi sz) with | some (q, v) => some (q, Eff.put v) | none => none := by
  cases hx : x.ev A with
  | uq t sz' es ep => exact absurd hx (hX _ _ _ _)
  | _ => simp only [eff, hx] <;> rfl
theorem eff_dem {op : AOp} (hop : op.apps = false) (hf : tokFresh d T op) (R : Rel op.opnds op.sees A σ T A1 σ1) :
    effM d A1 σ1 op = (effM d A σ op).map (fun q => (q.1, demE T q.2)) := by
  have gen : ∀ (f : eff std d A1 σ1 op = match evV std d A1 σ1 op with | some (q, v) => some (q, Eff.put v) | none => none)
      (f' : eff std d A σ op = match evV std d A σ op with | some (q, v) => some (q, Eff.put v) | none => none), effM d A1 σ1 op = (effM d A σ op).map (fun q => (q.1, demE T q.2)) := by
    intro f f'
    have h := evV_dem hf R
    simp only [effM, f, f']
    cases h1 : evV std d A1 σ1 op with
    | none =>
      rw [h1] at h
      cases h2 : evV std d A σ op with
      | none => rfl
      | some q => rw [h2] at h; cases h
    | some q1 =>
      rw [h1] at h
      cases h2 : evV std d A σ op with
      | none => rw [h2] at h; cases h
      | some q =>
        rw [h2] at h
        simp only [Option.map_some, Option.some.injEq, Prod.mk.injEq] at h
        simp only [Eff.mild, Option.map_some, Eff.calm, demE, h.1, h.2]
  cases op with
  | alloc zs =>
    simp only [tokFresh] at hf
    have := zcells_dem (T := T) d zs 0 fun j hj => by rw [Nat.zero_add]; exact hf j hj
    simp only [effM, eff, Eff.mild, Option.map_some, Eff.calm, demE, this]
  | box x =>
    simp only [effM, eff, R.ev x (by simp [AOp.opnds]), cells_dem]
    cases (x.ev A).cells with
    | none => rfl
    | some cs => rfl
  | nil u sz =>
    cases u with
    | true => rfl
    | false => exact gen rfl rfl
  | st a x sz =>
    have ho := R.ok a (by simp [AOp.opnds])
    by_cases hnu : ∃ t sz' m e off ep1, a.ev A = .up t sz' m e off ep1
    · obtain ⟨t, sz', m, e, off, ep1, hX⟩ := hnu
      rw [effM_stu hX, effM_stu (by rw [R.ev a (by simp [AOp.opnds]), hX]; rfl)]
      rfl
    have hnu : ∀ t sz' m e off ep1, a.ev A ≠ .up t sz' m e off ep1 := fun t sz' m e off ep1 h => hnu ⟨t, sz', m, e, off, ep1, h⟩
    simp only [effM, eff, R.ev a (by simp [AOp.opnds]), R.ev x (by simp [AOp.opnds]), cells_dem]
    rcases dem_view T (a.ev A) with e | ⟨t, sz, es, ep, e, e', _⟩ | ⟨cs, e, e'⟩
    · rw [e]
      cases hX : a.ev A with
      | ptr id off =>
        rw [hX] at ho
        simp only [okV] at ho
        simp only [R.st rfl id ho]
        cases getS σ id with
        | none => rfl
        | some s =>
          cases s with
          | bx cs =>
            simp only [Option.map_some, SE.demote]
            cases (x.ev A).cells with
            | none => rfl
            | some vs =>
              simp only [Option.map_some, len_demoteL, areOne_dem]
              cases natEq (len vs) sz && (natLe (off + sz) (len cs) && areOne vs) <;> rfl
          | _ => rfl
      | up t sz' m e off ep1 =>
        exact absurd hX (hnu _ _ _ _ _ _)
      | _ => rfl
    · rw [e', e]; rfl
    · rw [e', e]; rfl
  | app x y sz b => cases hop
  | bslice ow sz xs =>
    have h1 := toDList_dem sz xs R.ev
    match ow with
    | 0 => exact gen rfl rfl
    | 1 =>
      simp only [effM, eff, h1]
      cases toDList A sz xs with
      | none => rfl
      | some q => rfl
    | 2 =>
      simp only [effM, eff, h1]
      cases toDList A sz xs with
      | none => rfl
      | some q => rfl
    | n + 3 => exact gen rfl rfl
  | sl x lo hi sz =>
    have hx := R.ev x (by simp [AOp.opnds])
    by_cases hu : ∃ t sz' es ep, x.ev A = .uq t sz' es ep
    · obtain ⟨t, sz', es, ep, hX⟩ := hu
      rw [effM_slu hX, effM_slu (by rw [hx, hX]; rfl)]
      rfl
    · have h1 : ∀ t sz' es ep, x.ev A ≠ .uq t sz' es ep := fun t sz' es ep h => hu ⟨t, sz', es, ep, h⟩
      refine gen (eff_sl fun t sz' es ep h => ?_) (eff_sl h1)
      rw [hx] at h
      rcases dem_view T (x.ev A) with e | ⟨t, sz, es, ep, e, e', _⟩ | ⟨cs, e, e'⟩
      · rw [e] at h; exact h1 _ _ _ _ h
      · rw [e'] at h; cases h
      · rw [e'] at h; cases h
  | mkm => rfl
  | allocu sz => rfl
  | mup kk x k v => rw [effM_mup, effM_mup]; rfl
  | _ => exact gen rfl rfl
end
end Go.Ly
end
section
namespace Go.Ly
def okR : AV → Bool
  | .fresh _ _ _ => true
  | v => noOwn v
def CrA (E : Env) (fv : AV) (xs : List AV) (σ : Sto) (r : AV) : Prop :=
  ∃ k first cap, fv = .fn k first cap ∧ Pure E k (frzs [] σ (appendL first (appendL xs cap))) r ∧ (noUqs (appendL first (appendL xs cap)) || newish r) = true ∧ okR r = true
inductive drawA (E : Env) (O : Outer E) (fv : AV) (xs : List AV) (σ : Sto) (ω : O.Ω) (K : AV → Ups → Sto → O.Ω → Prop) : Prop
  | mk (r : AV) (h : CrA E fv xs σ r) (hK : K (upV r) [] σ ω) : drawA E O fv xs σ ω K
theorem drawA_callA {E : Env} {O : Outer E} {fv xs σ ω K} (h : drawA E O fv xs σ ω K) : callA E O fv xs σ ω K := by
  obtain ⟨r, ⟨k, first, cap, rfl, hp, hu, _⟩, hK⟩ := h
  exact .pure hp hu hK
def wants (i : AI) (A : Fm) (b : Bool) : Prop :=
  match i.guard with
  | none => b = true
  | some (t, want) => (∃ ep c, gt A t = .d ep (.bool c) ∧ b = (c == want)) ∨ (gt A t = .tup [] ∧ b = false)
def special : AOp → Bool
  | .ia .. => true
  | .call .. => true
  | .isnil .. => true
  | .mlk .. => true
  | _ => false
inductive Out (E : Env) (i : AI) (A : Fm) (σ : Sto) : Eff → Prop
  | skip (h : wants i A false) : Out E i A σ (.put (.tup []))
  | ia {x y sz ep es ep' n e} (h : wants i A true) (hop : i.op = .ia x y sz) (hX : rowOf (x.ev A) = some (ep, sz, es)) (hY : y.ev A = .d ep' (.int .i64 n)) (hg : std.dget es n = some e) : Out E i A σ (.put (.at ep e 0))
  | call {u f xs r} (h : wants i A true) (hop : i.op = .call u f xs) (hc : CrA E (f.ev A) (evs A xs) σ r) : Out E i A σ (callEff u i.dst (upV r))
  | op {q e} (h : wants i A true) (hn : special i.op = false) (he : effM (i.dst.getD 0) A σ i.op = some (q, e)) (hq : q) : Out E i A σ e
section
variable {E : Env} {O : Outer E} {A A1 : Fm} {σ σ1 : Sto} {T : List Nat} {i : AI}
theorem effM_eff {d : Nat} {op : AOp} {q : Prop} {e : Eff} (h : effM d A σ op = some (q, e)) : ∃ e0, eff std d A σ op = some (q, e0) ∧ e0.mild true = true ∧ e = e0.calm true := by
  unfold effM at h
  split at h
  · rename_i q' e' he
    split at h
    · rename_i hm
      cases h
      exact ⟨_, he, hm, rfl⟩
    · cases h
  · cases h
theorem hN_core {ω : O.Ω} {K : SK O.Ω} (h : stepA std true (drawA E O) i.dst A σ ω K i.op) (hw : wants i A true) : ∃ e, Out E i A σ e ∧ K (e.frame A σ i.dst) (e.store σ i.dst) ω := by
  obtain ⟨dst, op, g⟩ := i
  have gen : special op = false → (match eff std (dst.getD 0) A σ op with
          | some (q, e) => (match e.mild true with | true => q ∧ K ((e.calm true).frame A σ dst) ((e.calm true).store σ dst) ω | false => False)
          | none => False) → ∃ e, Out E ⟨dst, op, g⟩ A σ e ∧ K (e.frame A σ dst) (e.store σ dst) ω := by
    intro hs h
    split at h
    · rename_i q e he
      split at h
      · rename_i hm
        exact ⟨_, .op hw hs (by simp only [effM, he, hm]) h.1, h.2⟩
      · cases h
    · cases h
  cases op with
  | ia x y sz =>
    simp only [stepA] at h
    split at h
    · rename_i ep' n hY
      unfold iaA at h
      split at h
      · rename_i ep sz' es hX
        split at h
        · rename_i hsz
          rw [natEq_iff] at hsz
          subst hsz
          obtain ⟨e, hg, hK⟩ := h
          exact ⟨_, .ia hw rfl hX hY hg, hK⟩
        · cases h
      · cases h
    · cases h
  | call u f xs =>
    obtain ⟨r, hc, hK⟩ := h
    exact ⟨_, .call hw rfl hc, hK⟩
  | isnil neg x => cases h
  | mlk kk x k z ok => cases h
  | _ => exact gen rfl h
theorem hN_out {ω : O.Ω} {K : SK O.Ω} (h : hN std true (drawA E O) [i] A σ ω K) : ∃ e, Out E i A σ e ∧ K (e.frame A σ i.dst) (e.store σ i.dst) ω := by
  rw [hN] at h
  cases hg : i.guard with
  | none =>
    rw [hg] at h
    exact hN_core h (by simp [wants, hg])
  | some g =>
    obtain ⟨t, want⟩ := g
    rw [hg] at h
    simp only at h
    split at h
    · rename_i ep b hb
      cases want <;> cases b <;> simp only [cnd] at h
      · exact hN_core h (by simp only [wants, hg]; exact .inl ⟨ep, false, hb, rfl⟩)
      · exact ⟨_, .skip (by simp only [wants, hg]; exact .inl ⟨ep, true, hb, rfl⟩), h⟩
      · exact ⟨_, .skip (by simp only [wants, hg]; exact .inl ⟨ep, false, hb, rfl⟩), h⟩
      · exact hN_core h (by simp only [wants, hg]; exact .inl ⟨ep, true, hb, rfl⟩)
    · rename_i hb
      exact ⟨_, .skip (by simp only [wants, hg]; exact .inr ⟨hb, by first | rfl | trivial⟩), h⟩
    · cases h
theorem out_core {ω : O.Ω} {K : SK O.Ω} {e : Eff} (h : Out E i A σ e) (hK : K (e.frame A σ i.dst) (e.store σ i.dst) ω) (hw : wants i A true) (hno : ¬ wants i A false) : stepA std true (drawA E O) i.dst A σ ω K i.op := by
  obtain ⟨dst, op, g⟩ := i
  cases h with
  | skip h => exact absurd h hno
  | ia h hop hX hY hg =>
    simp only at hop
    subst hop
    simp only [stepA, hY, iaA, hX, natEq_iff.2 rfl]
    exact ⟨_, hg, hK⟩
  | call h hop hc =>
    simp only at hop
    subst hop
    exact ⟨_, hc, hK⟩
  | op h hn he hq =>
    simp only at he hn hK ⊢
    obtain ⟨e0, he0, hm, rfl⟩ := effM_eff he
    cases op <;> first
      | (cases hn; done)
      | (simp only [stepA, he0, hm]; exact ⟨hq, hK⟩)
theorem out_hN {ω : O.Ω} {K : SK O.Ω} {e : Eff} (h : Out E i A σ e) (hK : K (e.frame A σ i.dst) (e.store σ i.dst) ω) : hN std true (drawA E O) [i] A σ ω K := by
  rw [hN]
  have hww : wants i A true ∨ wants i A false := by cases h with
    | skip h => exact .inr h
    | ia h => exact .inl h
    | call h => exact .inl h
    | op h => exact .inl h
  cases hg : i.guard with
  | none => exact out_core h hK (by simp [wants, hg]) (by simp [wants, hg])
  | some g =>
    obtain ⟨t, want⟩ := g
    simp only [wants, hg] at hww
    have hcc : (∃ ep c, gt A t = .d ep (.bool c)) ∨ gt A t = .tup [] := by
      rcases hww with (⟨ep, c, h, _⟩ | ⟨h, _⟩) | (⟨ep, c, h, _⟩ | ⟨h, _⟩)
      · exact .inl ⟨ep, c, h⟩
      · exact .inr h
      · exact .inl ⟨ep, c, h⟩
      · exact .inr h
    rcases hcc with ⟨ep, c, hc⟩ | hc
    rotate_left
    · simp only [hc]
      have hf : ¬ wants i A true := by
        simp only [wants, hg]
        rintro (⟨ep', c', h1, h2⟩ | ⟨_, h2⟩)
        · rw [hc] at h1; cases h1
        · cases h2
      have he : e = .put (.tup []) := by
        cases h with
        | skip h => rfl
        | ia h => exact absurd h hf
        | call h => exact absurd h hf
        | op h => exact absurd h hf
      rw [he] at hK
      exact hK
    simp only [hc]
    have hyes : c = want → wants i A true ∧ ¬ wants i A false := by
      rintro rfl
      simp only [wants, hg]
      refine ⟨.inl ⟨ep, c, hc, by simp⟩, ?_⟩
      rintro (⟨ep', c', h1, h2⟩ | ⟨h1, _⟩)
      · rw [hc] at h1
        cases h1
        simp at h2
      · rw [hc] at h1
        cases h1
    have hno : c ≠ want → e = .put (.tup []) := by
      intro hne
      have hf : ¬ wants i A true := by
        simp only [wants, hg]
        rintro (⟨ep', c', h1, h2⟩ | ⟨_, h2⟩)
        · rw [hc] at h1
          cases h1
          have := h2.symm
          simp at this
          exact hne this
        · cases h2
      cases h with
      | skip h => rfl
      | ia h => exact absurd h hf
      | call h => exact absurd h hf
      | op h => exact absurd h hf
    cases want <;> cases c <;> simp only [cnd]
    · exact out_core h hK (hyes rfl).1 (hyes rfl).2
    · rw [hno (by simp)] at hK; exact hK
    · rw [hno (by simp)] at hK; exact hK
    · exact out_core h hK (hyes rfl).1 (hyes rfl).2
def okW (n : Nat) : AV → Prop
  | .fn _ a c => (∀ v ∈ a, okV n v) ∧ (∀ v ∈ c, okV n v)
  | v => okV n v
theorem okL_of {n : Nat} : ∀ {l : List AV}, (∀ v ∈ l, okV n v) → okL n l
  | [], _ => trivial
  | x :: l, h => by
    have ih := okL_of (l := l) fun v hv => h v (by simp [hv])
    cases x with
    | ptr id off => exact ⟨h (.ptr id off) (by simp), ih⟩
    | _ => exact ih
theorem okW_okV {n : Nat} {v : AV} (h : okW n v) : okV n v := by
  cases v with
  | fn f a c => exact ⟨okL_of h.1, okL_of h.2⟩
  | _ => exact h
theorem frz1_dem (hs : ∀ id, id < lenS σ → getS σ1 id = (getS σ id).map (SE.demote T)) {v : AV} (h : ∀ id off, v = .ptr id off → id < lenS σ) : frz1 [] σ1 v = frz1 [] σ v := by
  cases v with
  | ptr id off =>
    simp only [frz1, posN, hs id (h id off rfl)]
    cases getS σ id with
    | none => rfl
    | some s =>
      cases s with
      | bx cs => simp only [Option.map_some, SE.demote, wkL_demoteL]
      | _ => rfl
  | _ => rfl
theorem frz1_demote (v : AV) : frz1 [] σ (demote T v) = frz1 [] σ v := by
  cases v with
  | own t sz es ep => simp only [demote]; cases memN t T <;> rfl
  | _ => rfl
theorem frzL_dem (hs : ∀ id, id < lenS σ → getS σ1 id = (getS σ id).map (SE.demote T)) : ∀ {l : List AV}, okL (lenS σ) l → frzL [] σ1 l = frzL [] σ l
  | [], _ => rfl
  | x :: l, h => by
    have h2 : okL (lenS σ) l := by
      cases x with
      | ptr id off => exact h.2
      | _ => exact h
    have h1 : frz1 [] σ1 x = frz1 [] σ x := frz1_dem hs fun id off e => by subst e; exact h.1
    simp only [frzL, h1, frzL_dem hs h2]
theorem frzL_demoteL : ∀ l : List AV, frzL [] σ (demoteL T l) = frzL [] σ l
  | [] => rfl
  | x :: l => by simp only [demoteL, frzL, frz1_demote, frzL_demoteL l]
theorem frz_demote (v : AV) : frz [] σ (demote1 T v) = frz [] σ v := by
  cases v with
  | agg cs => simp only [demote1, frz, frzL_demoteL]
  | own t sz es ep => simp only [demote1, demote]; cases memN t T <;> rfl
  | _ => rfl
theorem frz_dem (hs : ∀ id, id < lenS σ → getS σ1 id = (getS σ id).map (SE.demote T)) {x : AV} (hx : okV (lenS σ) x) : frz [] σ1 x = frz [] σ x := by
  cases x with
  | fn f a c => simp only [frz, frzL_dem hs hx.1, frzL_dem hs hx.2]
  | ptr id off => exact frz1_dem (v := .ptr id off) hs fun id' off' e => by cases e; exact hx
  | agg cs => simp only [frz, frzL_dem hs hx]
  | _ => rfl
theorem frzs_dem (hs : ∀ id, id < lenS σ → getS σ1 id = (getS σ id).map (SE.demote T)) : ∀ {l : List AV}, (∀ v ∈ l, okV (lenS σ) v) → frzs [] σ1 l = frzs [] σ l
  | [], _ => rfl
  | x :: l, h => by
    have ih := frzs_dem hs (l := l) fun v hv => h v (by simp [hv])
    simp only [frzs, frz_dem hs (h x (by simp)), ih]
theorem frzs_evs : ∀ {xs : List AO}, (∀ x ∈ xs, x.ev A1 = demote1 T (x.ev A)) → frzs [] σ (evs A1 xs) = frzs [] σ (evs A xs)
  | [], _ => rfl
  | x :: xs, h => by simp only [evs, frzs, h x (by simp), frz_demote, frzs_evs (xs := xs) fun y hy => h y (by simp [hy])]
theorem frzs_app (l l' : List AV) : frzs [] σ (l ++ l') = frzs [] σ l ++ frzs [] σ l' := by
  induction l with
  | nil => rfl
  | cons x l ih => simp only [List.cons_append, frzs, ih]
theorem noUq1_demote (v : AV) : noUq1 (demote T v) = noUq1 v := by
  cases v with
  | own t sz es ep => simp only [demote]; cases memN t T <;> rfl
  | _ => rfl
theorem noUqL_demoteL : ∀ l : List AV, noUqL (demoteL T l) = noUqL l
  | [] => rfl
  | x :: l => by simp only [demoteL, noUqL, noUq1_demote, noUqL_demoteL l]
theorem noUqV_demote (v : AV) : noUqV (demote1 T v) = noUqV v := by
  cases v with
  | agg cs => simp only [demote1, noUqV, noUqL_demoteL]
  | own t sz es ep => simp only [demote1, demote]; cases memN t T <;> rfl
  | _ => rfl
theorem noUqs_evs : ∀ {xs : List AO}, (∀ x ∈ xs, x.ev A1 = demote1 T (x.ev A)) → noUqs (evs A1 xs) = noUqs (evs A xs)
  | [], _ => rfl
  | x :: xs, h => by simp only [evs, noUqs, h x (by simp), noUqV_demote, noUqs_evs (xs := xs) fun y hy => h y (by simp [hy])]
theorem okV_evs : ∀ {xs : List AO}, (∀ x ∈ xs, okV (lenS σ) (x.ev A)) → ∀ v ∈ evs A xs, okV (lenS σ) v
  | [], _, v, hv => by cases hv
  | x :: xs, h, v, hv => by
    simp only [evs, List.mem_cons] at hv
    rcases hv with rfl | hv
    · exact h x (by simp)
    · exact okV_evs (fun y hy => h y (by simp [hy])) v hv
theorem dem_bool {x : AV} {ep : Ep} {c : Bool} : demote1 T x = .d ep (.bool c) ↔ x = .d ep (.bool c) := by
  rcases dem_view T x with h | ⟨t, sz, es, ep', rfl, h, _⟩ | ⟨cs, rfl, h⟩ <;> rw [h] <;> simp
theorem dem_nil {x : AV} : demote1 T x = .tup [] ↔ x = .tup [] := by
  rcases dem_view T x with h | ⟨t, sz, es, ep', rfl, h, _⟩ | ⟨cs, rfl, h⟩ <;> rw [h] <;> simp
theorem dem_fn {x : AV} {k : Nat} {a c : List AV} : demote1 T x = .fn k a c ↔ x = .fn k a c := by
  rcases dem_view T x with h | ⟨t, sz, es, ep', rfl, h, _⟩ | ⟨cs, rfl, h⟩ <;> rw [h] <;> simp
theorem dem_int {x : AV} {ep : Ep} {k : IntKind} {n : Int} : demote1 T x = .d ep (.int k n) ↔ x = .d ep (.int k n) := by
  rcases dem_view T x with h | ⟨t, sz, es, ep', rfl, h, _⟩ | ⟨cs, rfl, h⟩ <;> rw [h] <;> simp
structure Near (i : AI) (A : Fm) (σ : Sto) (T : List Nat) (A1 : Fm) (σ1 : Sto) : Prop where
  plain : i.plain = true
  rd : ∀ t, i.readsT t = true → gt A1 t = demote1 T (gt A t)
  ok : ∀ t, okW (lenS σ) (gt A t)
  st : i.op.sees = true → ∀ id, id < lenS σ → getS σ1 id = (getS σ id).map (SE.demote T)
  fresh : tokFresh (i.dst.getD 0) T i.op
theorem plain_opnds (h : i.plain = true) : ∀ x ∈ i.op.opnds, x.plain = true := by
  simp only [AI.plain, Bool.and_eq_true, List.all_eq_true] at h
  exact h.1
theorem Near.ev (N : Near i A σ T A1 σ1) : ∀ x ∈ i.op.opnds, x.ev A1 = demote1 T (x.ev A) := by
  intro x hx
  cases x with
  | s t =>
    refine N.rd t ?_
    simp only [AI.readsT, Bool.or_eq_true, List.any_eq_true]
    exact .inl ⟨.s t, hx, natEq_iff.2 rfl⟩
  | c v =>
    have := plain_opnds N.plain _ hx
    simp only [AO.ev]
    unfold AO.plain at this
    split at this
    · rename_i h; cases h
    · rename_i h; cases h; rfl
    · rename_i h; cases h; rfl
    · cases this
theorem Near.okw (N : Near i A σ T A1 σ1) : ∀ x ∈ i.op.opnds, okW (lenS σ) (x.ev A) := by
  intro x hx
  cases x with
  | s t => exact N.ok t
  | c v =>
    have := plain_opnds N.plain _ hx
    simp only [AO.ev]
    unfold AO.plain at this
    split at this
    · rename_i h; cases h
    · rename_i h; cases h; trivial
    · rename_i h; cases h; exact ⟨fun v hv => by (cases hv), fun v hv => by (cases hv)⟩
    · cases this
theorem Near.rel (N : Near i A σ T A1 σ1) : Rel i.op.opnds i.op.sees A σ T A1 σ1 := ⟨N.ev, fun x hx => okW_okV (N.okw x hx), N.st⟩
theorem Near.wants (N : Near i A σ T A1 σ1) (b : Bool) : Ly.wants i A1 b ↔ Ly.wants i A b := by
  unfold Ly.wants
  cases hg : i.guard with
  | none => exact Iff.rfl
  | some g =>
    obtain ⟨t, want⟩ := g
    have := N.rd t (by simp [AI.readsT, hg, natEq_iff.2 rfl])
    simp only [this, dem_bool, dem_nil]
theorem Near.call (N : Near i A σ T A1 σ1) {u : Bool} {f : AO} {xs : List AO} (hop : i.op = .call u f xs) (r : AV) : CrA E (f.ev A1) (evs A1 xs) σ1 r ↔ CrA E (f.ev A) (evs A xs) σ r := by
  have hf : f ∈ i.op.opnds := by rw [hop]; simp [AOp.opnds]
  have hxs : ∀ x ∈ xs, x ∈ i.op.opnds := fun x hx => by rw [hop]; simp [AOp.opnds, hx]
  have he := N.ev f hf
  have hk := N.okw f hf
  have hev : ∀ x ∈ xs, x.ev A1 = demote1 T (x.ev A) := fun x hx => N.ev x (hxs x hx)
  have hst := N.st (by rw [hop]; rfl)
  have key : ∀ k first cap, f.ev A = .fn k first cap → frzs [] σ1 (appendL first (appendL (evs A1 xs) cap)) = frzs [] σ (appendL first (appendL (evs A xs) cap)) := by
    intro k first cap hfn
    rw [hfn] at hk
    rw [appendL_eq, appendL_eq, appendL_eq, appendL_eq, frzs_app, frzs_app, frzs_app, frzs_app, frzs_evs hev, frzs_dem hst hk.1, frzs_dem hst hk.2,
      frzs_dem hst (okV_evs fun x hx => okW_okV (N.okw x (hxs x hx)))]
  have key2 : ∀ first cap, noUqs (appendL first (appendL (evs A1 xs) cap)) = noUqs (appendL first (appendL (evs A xs) cap)) := by
    intro first cap
    rw [appendL_eq, appendL_eq, appendL_eq, appendL_eq, noUqs_app, noUqs_app, noUqs_app, noUqs_app, noUqs_evs hev]
  unfold CrA
  constructor
  · rintro ⟨k, first, cap, h1, h2, h3, h4⟩
    rw [he, dem_fn] at h1
    rw [key k first cap h1] at h2
    rw [key2] at h3
    exact ⟨k, first, cap, h1, h2, h3, h4⟩
  · rintro ⟨k, first, cap, h1, h2, h3, h4⟩
    refine ⟨k, first, cap, by rw [he, dem_fn]; exact h1, ?_, ?_, h4⟩
    · rw [key k first cap h1]
      exact h2
    · rw [key2]
      exact h3
theorem okR_up {r : AV} (h : okR r = true) : okR (upV r) = true := by
  cases r with
  | fresh => rfl
  | agg cs => exact noOwn_up (.agg cs) h
  | own => cases h
  | uq => cases h
  | up => cases h
  | pk => cases h
  | _ => rfl
theorem demE_call {u : Bool} {dst : Option Nat} {r : AV} (h : okR r = true) : demE T (callEff u dst r) = callEff u dst r := by
  cases r with
  | pk => cases h
  | uq => cases h
  | up => cases h
  | fresh sz es ep => cases dst <;> rfl
  | agg cs =>
    simp only [callEff, demE, Eff.put.injEq]
    exact dem_noOwn T _ h
  | own => cases h
  | _ => rfl
theorem effM_app {d : Nat} {x y : AO} {sz b : Nat} {q : Prop} {e : Eff} (h : effM d A σ (.app x y sz b) = some (q, e)) : ∃ t es ep ep' ys, x.ev A = .own t sz es ep ∧ rowR (y.ev A) = some (ep', sz, ys) ∧ q = std.room es ys ∧
    e = .ap t (.own t sz (std.dcat es ys) (Ep.meet .new (ep.meet ep'))) := by
  obtain ⟨e0, he, hm, rfl⟩ := effM_eff h
  clear h
  have h : (match x.ev A, rowR (y.ev A) with
    | .own t sz' es ep, some (ep', sz'', ys) =>
      match natEq sz sz' && natEq sz sz'' with
      | true => some (std.room es ys, .ap t (.own t sz (std.dcat es ys) (Ep.meet .new (ep.meet ep'))))
      | false => none
    | .uq t sz' es ep, some (ep', sz'', ys) =>
      match natEq sz sz' && natEq sz sz'' with
      | true => some (std.room es ys, .uc t (.uq t sz (std.dcat es ys) (Ep.meet .new (ep.meet ep'))))
      | false => none
    | .d .top (.row sz' []), some (ep', sz'', ys) =>
      match natEq sz sz' && natEq sz sz'' with
      | true => some (std.room [] ys, .un false (.own 96 sz (std.dcat [] ys) (Ep.meet .new (Ep.meet .top ep'))))
      | false => none
    | _, _ => none : Option (Prop × Eff)) = some (q, e0) := he
  split at h
  · rename_i t sz' es ep ep' sz'' ys hX hY
    split at h
    · rename_i hsz
      rw [Bool.and_eq_true, natEq_iff, natEq_iff] at hsz
      obtain ⟨rfl, rfl⟩ := hsz
      cases h
      exact ⟨t, es, ep, ep', ys, hX, hY, rfl, rfl⟩
    · cases h
  · split at h
    · cases h; cases hm
    · cases h
  · split at h
    · cases h; cases hm
    · cases h
  · cases h
theorem app_effM {d : Nat} {x y : AO} {sz b t : Nat} {es ys : List D} {ep ep' : Ep} (h1 : x.ev A = .own t sz es ep) (h2 : rowR (y.ev A) = some (ep', sz, ys)) :
    effM d A σ (.app x y sz b) = some (std.room es ys, .ap t (.own t sz (std.dcat es ys) (Ep.meet .new (ep.meet ep')))) := by
  have : natEq sz sz = true := natEq_iff.2 rfl
  simp only [effM, eff, h1, h2, this, Bool.and_self, Eff.mild, Eff.calm]
theorem out_to {e1 : Eff} (N : Near i A σ T A1 σ1) (h : Out E i A1 σ1 e1) : ∃ e, Out E i A σ e ∧ e1 = demE T e ∧ (i.op.apps = true → ∀ t v, e = .ap t v → memN t T = false) := by
  cases h with
  | skip h => exact ⟨_, .skip ((N.wants false).1 h), rfl, fun _ t v e => by cases e⟩
  | @ia x y sz ep es ep' n e h hop hX hY hg =>
    have hx := N.ev x (by rw [hop]; simp [AOp.opnds])
    have hy := N.ev y (by rw [hop]; simp [AOp.opnds])
    rw [hx, rowOf_dem] at hX
    rw [hy, dem_int] at hY
    exact ⟨_, .ia ((N.wants true).1 h) hop hX hY hg, rfl, fun _ t v e => by cases e⟩
  | @call u f xs r h hop hc =>
    have hc' := (N.call hop r).1 hc
    have hr : okR (upV r) = true := by obtain ⟨_, _, _, _, _, _, h⟩ := hc; exact okR_up h
    exact ⟨_, .call ((N.wants true).1 h) hop hc', (demE_call hr).symm, fun ha => by rw [hop] at ha; cases ha⟩
  | @op q e h hn he hq =>
    cases hap : i.op.apps with
    | false =>
      have := eff_dem (d := i.dst.getD 0) hap N.fresh N.rel
      rw [he] at this
      cases h2 : effM (i.dst.getD 0) A σ i.op with
      | none => rw [h2] at this; cases this
      | some q' =>
        obtain ⟨q', e'⟩ := q'
        rw [h2] at this
        simp only [Option.map_some, Option.some.injEq, Prod.mk.injEq] at this
        obtain ⟨rfl, hee⟩ := this
        exact ⟨_, .op ((N.wants true).1 h) hn h2 hq, hee, fun ha => by cases ha⟩
    | true =>
      cases hop : i.op with
      | app x y sz b =>
        have hx := N.ev x (by rw [hop]; simp [AOp.opnds])
        have hy := N.ev y (by rw [hop]; simp [AOp.opnds])
        rw [hop] at he
        obtain ⟨t, es, ep, ep', ys, hX, hY, rfl, rfl⟩ := effM_app he
        rw [hx] at hX
        rw [hy, rowR_dem] at hY
        have hX' : x.ev A = .own t sz es ep ∧ memN t T = false := by
          rcases dem_view T (x.ev A) with hv | ⟨t', sz', es', ep'', hv, hv', hm⟩ | ⟨cs, hv, hv'⟩
          · rw [hX] at hv
            refine ⟨hv.symm, ?_⟩
            rw [← hv] at hX
            simp only [demote1, demote] at hX
            cases hm : memN t T with
            | false => rfl
            | true => rw [hm] at hX; cases hX
          · rw [hv'] at hX; cases hX
          · rw [hv'] at hX; cases hX
        exact ⟨_, .op ((N.wants true).1 h) hn (by rw [hop]; exact app_effM hX'.1 hY) hq, rfl, fun _ t' v' e => by cases e; exact hX'.2⟩
      | _ => rw [hop] at hap; cases hap
theorem out_from {e : Eff} (N : Near i A σ T A1 σ1) (h : Out E i A σ e) (ha : i.op.apps = true → ∀ t v, e = .ap t v → memN t T = false) : Out E i A1 σ1 (demE T e) := by
  cases h with
  | skip h => exact .skip ((N.wants false).2 h)
  | @ia x y sz ep es ep' n e h hop hX hY hg =>
    have hx := N.ev x (by rw [hop]; simp [AOp.opnds])
    have hy := N.ev y (by rw [hop]; simp [AOp.opnds])
    exact .ia ((N.wants true).2 h) hop (by rw [hx, rowOf_dem]; exact hX) (by rw [hy, dem_int]; exact hY) hg
  | @call u f xs r h hop hc =>
    have hr : okR (upV r) = true := by obtain ⟨_, _, _, _, _, _, h⟩ := hc; exact okR_up h
    rw [demE_call hr]
    exact .call ((N.wants true).2 h) hop ((N.call hop r).2 hc)
  | @op q e h hn he hq =>
    cases hap : i.op.apps with
    | false =>
      have := eff_dem (d := i.dst.getD 0) hap N.fresh N.rel
      rw [he] at this
      cases h2 : effM (i.dst.getD 0) A1 σ1 i.op with
      | none => rw [h2] at this; cases this
      | some q' =>
        obtain ⟨q', e'⟩ := q'
        rw [h2] at this
        simp only [Option.map_some, Option.some.injEq, Prod.mk.injEq] at this
        obtain ⟨rfl, hee⟩ := this
        rw [← hee]
        exact .op ((N.wants true).2 h) hn h2 hq
    | true =>
      cases hop : i.op with
      | app x y sz b =>
        have hx := N.ev x (by rw [hop]; simp [AOp.opnds])
        have hy := N.ev y (by rw [hop]; simp [AOp.opnds])
        rw [hop] at he
        obtain ⟨t, es, ep, ep', ys, hX, hY, rfl, rfl⟩ := effM_app he
        have hm := ha hap t _ rfl
        have hd : demote1 T (.own t sz es ep) = .own t sz es ep := by simp only [demote1, demote, hm]
        exact .op ((N.wants true).2 h) hn (by rw [hop]; exact app_effM (by rw [hx, hX, hd]) (by rw [hy, rowR_dem, hY])) hq
      | _ => rw [hop] at hap; cases hap
end
end Go.Ly
end
section
namespace Go.Ly
def toks : Eff → List Nat
  | .ap t _ => [t]
  | _ => []
def effV (n : Nat) : Eff → AV
  | .put v => v
  | .ap _ v => v
  | .st _ _ _ => .any
  | .nw _ => .ptr n 0
  | _ => .any
theorem frame_eq {e : Eff} (hm : e.mild true = true) (A : Fm) (σ : Sto) (dst : Option Nat) : e.frame A σ dst = putA (demoteA (toks e) A) dst (effV (lenS σ) e) := by
  cases e <;> first
    | (cases hm; done)
    | simp [Eff.frame, toks, effV, demoteA_nil]
theorem demE_mild (T : List Nat) {e : Eff} (hm : e.mild true = true) : (demE T e).mild true = true := by cases e <;> first | (cases hm; done) | rfl
theorem store_dst {e : Eff} (hm : e.mild true = true) (σ : Sto) (d d' : Option Nat) : e.store σ d = e.store σ d' := by cases e <;> first | (cases hm; done) | rfl
theorem toks_demE (T : List Nat) (e : Eff) : toks (demE T e) = toks e := by cases e <;> rfl
theorem demote_comm (T U : List Nat) (x : AV) : demote T (demote U x) = demote U (demote T x) := by
  cases x with
  | own t sz es ep =>
    simp only [demote]
    cases h1 : memN t U <;> cases h2 : memN t T <;> simp [h1, h2]
  | _ => rfl
theorem demoteL_comm (T U : List Nat) : ∀ cs : List AV, demoteL T (demoteL U cs) = demoteL U (demoteL T cs)
  | [] => rfl
  | c :: cs => by simp [demoteL, demote_comm T U, demoteL_comm T U cs]
theorem demote1_comm (T U : List Nat) (x : AV) : demote1 T (demote1 U x) = demote1 U (demote1 T x) := by
  cases x with
  | agg cs => simp only [demote1, demoteL_comm T U]
  | own t sz es ep =>
    simp only [demote1, demote]
    cases h1 : memN t U <;> cases h2 : memN t T <;> simp [h1, h2]
  | _ => rfl
theorem demoteA_comm (T U : List Nat) : ∀ A : Fm, demoteA T (demoteA U A) = demoteA U (demoteA T A)
  | [] => rfl
  | c :: cs => by simp [demoteA, demote1_comm T U, demoteA_comm T U cs]
theorem demoteS_comm (T U : List Nat) : ∀ σ : Sto, demoteS T (demoteS U σ) = demoteS U (demoteS T σ)
  | [] => rfl
  | .bx cs :: σ => by simp [demoteS, SE.demote, demoteL_comm T U, demoteS_comm T U σ]
  | .md _ _ :: σ => by simp [demoteS, SE.demote, demoteS_comm T U σ]
  | .mf _ _ :: σ => by simp [demoteS, SE.demote, demoteS_comm T U σ]
theorem demoteA_upd (T : List Nat) : ∀ (A : Fm) (d : Nat) (v : AV), demoteA T (upd A d v) = upd (demoteA T A) d (demote1 T v)
  | [], _, _ => rfl
  | _ :: _, 0, _ => rfl
  | c :: cs, i + 1, v => by simp [upd, demoteA, demoteA_upd T cs i v]
theorem demoteA_putA (T : List Nat) (A : Fm) (dst : Option Nat) (v : AV) : demoteA T (putA A dst v) = putA (demoteA T A) dst (demote1 T v) := by
  cases dst with
  | none => rfl
  | some d => exact demoteA_upd T A d v
theorem upd_comm : ∀ (A : Fm) (i j : Nat) (u v : AV), i ≠ j → upd (upd A i u) j v = upd (upd A j v) i u
  | [], _, _, _, _, _ => rfl
  | _ :: _, 0, 0, _, _, h => absurd rfl h
  | _ :: _, 0, _ + 1, _, _, _ => rfl
  | _ :: _, _ + 1, 0, _, _, _ => rfl
  | c :: cs, i + 1, j + 1, u, v, h => by simp [upd, upd_comm cs i j u v (fun e => h (by rw [e]))]
theorem putA_comm (A : Fm) (x y : Option Nat) (u v : AV) (h : ∀ d, x = some d → y ≠ some d) : putA (putA A x u) y v = putA (putA A y v) x u := by
  cases x with
  | none => cases y <;> rfl
  | some i =>
    cases y with
    | none => rfl
    | some j => exact upd_comm A i j u v fun e => h i rfl (by rw [e])
theorem gt_demoteA (T : List Nat) : ∀ (A : Fm) (t : Nat), gt (demoteA T A) t = demote1 T (gt A t)
  | [], _ => rfl
  | _ :: _, 0 => rfl
  | c :: cs, t + 1 => by simp [demoteA, gt, gt_demoteA T cs t]
theorem gt_upd_other : ∀ (A : Fm) (d t : Nat) (v : AV), t ≠ d → gt (upd A d v) t = gt A t
  | [], _, _, _, _ => rfl
  | _ :: _, 0, 0, _, h => absurd rfl h
  | _ :: _, 0, _ + 1, _, _ => rfl
  | _ :: _, _ + 1, 0, _, _ => rfl
  | c :: cs, d + 1, t + 1, v, h => by simp [upd, gt, gt_upd_other cs d t v (fun e => h (by rw [e]))]
theorem gt_frame {e : Eff} (hm : e.mild true = true) (A : Fm) (σ : Sto) (dst : Option Nat) (t : Nat) (h : dst ≠ some t) : gt (e.frame A σ dst) t = demote1 (toks e) (gt A t) := by
  rw [frame_eq hm]
  cases dst with
  | none => exact gt_demoteA _ A t
  | some d =>
    simp only [putA]
    rw [gt_upd_other _ _ _ _ (fun e => h (by rw [e])), gt_demoteA]
theorem lenS_demoteS (T : List Nat) : ∀ σ : Sto, lenS (demoteS T σ) = lenS σ
  | [] => rfl
  | s :: σ => by simp [demoteS, lenS, lenS_demoteS T σ]
theorem lenS_setS : ∀ (σ : Sto) (id : Nat) (s : SE), lenS (setS σ id s) = lenS σ
  | [], _, _ => rfl
  | _ :: _, 0, _ => rfl
  | _ :: σ, id + 1, s => by simp [setS, lenS, lenS_setS σ id s]
theorem lenS_stCells (σ : Sto) (id off : Nat) (vs : List AV) : lenS (stCells σ id off vs) = lenS σ := by
  unfold stCells
  split
  · exact lenS_setS _ _ _
  · rfl
theorem getS_demoteS (T : List Nat) : ∀ (σ : Sto) (id : Nat), getS (demoteS T σ) id = (getS σ id).map (SE.demote T)
  | [], _ => rfl
  | _ :: _, 0 => rfl
  | _ :: σ, id + 1 => by simp [demoteS, getS, getS_demoteS T σ id]
theorem getS_addS : ∀ (σ : Sto) (s : SE) (id : Nat), id < lenS σ → getS (addS σ s) id = getS σ id
  | [], _, _, h => by simp [lenS] at h
  | _ :: _, _, 0, _ => rfl
  | _ :: σ, s, id + 1, h => by
    simp only [lenS] at h
    simp only [addS, getS]
    exact getS_addS σ s id (by omega)
theorem getS_lt : ∀ (σ : Sto) (id : Nat) (s : SE), getS σ id = some s → id < lenS σ
  | [], _, _, h => by simp [getS] at h
  | _ :: _, 0, _, _ => by simp [lenS]
  | _ :: σ, id + 1, s, h => by
    simp only [getS] at h
    have := getS_lt σ id s h
    simp only [lenS]
    omega
theorem demoteS_setS (T : List Nat) : ∀ (σ : Sto) (id : Nat) (s : SE), demoteS T (setS σ id s) = setS (demoteS T σ) id (s.demote T)
  | [], _, _ => rfl
  | _ :: _, 0, _ => rfl
  | _ :: σ, id + 1, s => by simp [demoteS, setS, demoteS_setS T σ id s]
theorem demoteS_stCells (T : List Nat) (σ : Sto) (id off : Nat) (vs : List AV) : demoteS T (stCells σ id off vs) = stCells (demoteS T σ) id off (demoteL T vs) := by
  simp only [stCells, getS_demoteS]
  cases getS σ id with
  | none => rfl
  | some s =>
    cases s with
    | bx cs => simp only [Option.map_some, SE.demote, demoteS_setS, demoteL_putCells]
    | _ => rfl
theorem demoteS_addS (T : List Nat) : ∀ (σ : Sto) (s : SE), demoteS T (addS σ s) = addS (demoteS T σ) (s.demote T)
  | [], _ => rfl
  | _ :: σ, s => by simp [demoteS, addS, demoteS_addS T σ s]
theorem setS_addS : ∀ (σ : Sto) (id : Nat) (s s' : SE), id < lenS σ → setS (addS σ s) id s' = addS (setS σ id s') s
  | [], _, _, _, h => by simp [lenS] at h
  | _ :: _, 0, _, _, _ => rfl
  | _ :: σ, id + 1, s, s', h => by
    simp only [lenS] at h
    simp only [addS, setS]
    rw [setS_addS σ id s s' (by omega)]
theorem stCells_addS (σ : Sto) (id off : Nat) (vs : List AV) (s : SE) (h : id < lenS σ) : stCells (addS σ s) id off vs = addS (stCells σ id off vs) s := by
  simp only [stCells, getS_addS σ s id h]
  split
  · exact setS_addS _ _ _ _ h
  · rfl
theorem store_dem (T : List Nat) {e : Eff} (hm : e.mild true = true) (σ : Sto) (d : Option Nat) : (demE T e).store (demoteS T σ) d = demoteS T (e.store σ d) := by
  cases e with
  | uc => cases hm
  | uw => cases hm
  | mo => cases hm
  | nm => cases hm
  | nu => cases hm
  | un => cases hm
  | put v => rfl
  | ap t v => simp only [demE, Eff.store, demoteS_comm]
  | st id off vs => simp only [demE, Eff.store, demoteS_stCells]
  | nw cs => simp only [demE, Eff.store, demoteS_addS, SE.demote]
theorem demE_nil (e : Eff) : demE [] e = e := by
  cases e <;> simp [demE, demote1_nil, demoteL_nil]
structure Apart (n : Nat) (e e0 : Eff) : Prop where
  ap : ∀ t v t0 v0, e = .ap t v → e0 = .ap t0 v0 → demote1 [t] v0 = v0 ∧ demote1 [t0] v = v
  stst : ∀ id off vs id0 off0 vs0, e = .st id off vs → e0 = .st id0 off0 vs0 → False
  nwnw : ∀ cs cs0, e = .nw cs → e0 = .nw cs0 → False
  st : ∀ id off vs, e = .st id off vs → id < n
  st0 : ∀ id off vs, e0 = .st id off vs → id < n
theorem effV_dem (T : List Nat) (n : Nat) (e : Eff) (h : ∀ t v, e = .ap t v → demote1 T v = v) : effV n (demE T e) = demote1 T (effV n e) := by
  cases e with
  | ap t v => exact (h t v rfl).symm
  | _ => rfl
theorem eff_comm {A : Fm} {σ : Sto} {e e0 : Eff} {dx dy : Option Nat} (me : e.mild true = true) (me0 : e0.mild true = true) (hd : ∀ d, dx = some d → dy ≠ some d) (H : Apart (lenS σ) e e0) :
    (demE (toks e0) e).frame (e0.frame A σ dy) (e0.store σ dy) dx = (demE (toks e) e0).frame (e.frame A σ dx) (e.store σ dx) dy ∧
    (demE (toks e0) e).store (e0.store σ dy) dx = (demE (toks e) e0).store (e.store σ dx) dy := by
  constructor
  · have hv0 : effV (lenS σ) (demE (toks e) e0) = demote1 (toks e) (effV (lenS σ) e0) := effV_dem _ _ _ fun t0 v0 h0 => by
      cases e with
      | ap t v => subst h0; exact (H.ap t v t0 v0 rfl rfl).1
      | _ => exact demote1_nil v0
    have hv : effV (lenS σ) (demE (toks e0) e) = demote1 (toks e0) (effV (lenS σ) e) := effV_dem _ _ _ fun t v h => by
      cases e0 with
      | ap t0 v0 => subst h; exact (H.ap t v t0 v0 rfl rfl).2
      | _ => exact demote1_nil v
    have hn0 : effV (lenS (e.store σ dx)) (demE (toks e) e0) = effV (lenS σ) (demE (toks e) e0) := by
      cases e0 with
      | nw cs0 =>
        cases e with
        | nw cs => exact (H.nwnw cs cs0 rfl rfl).elim
        | put v => rfl
        | ap t v => simp only [demE, effV, Eff.store, lenS_demoteS]
        | st id off vs => simp only [demE, effV, Eff.store, lenS_stCells]
        | _ => cases me
      | _ => rfl
    have hn : effV (lenS (e0.store σ dy)) (demE (toks e0) e) = effV (lenS σ) (demE (toks e0) e) := by
      cases e with
      | nw cs =>
        cases e0 with
        | nw cs0 => exact (H.nwnw cs cs0 rfl rfl).elim
        | put v => rfl
        | ap t v => simp only [demE, effV, Eff.store, lenS_demoteS]
        | st id off vs => simp only [demE, effV, Eff.store, lenS_stCells]
        | _ => cases me0
      | _ => rfl
    rw [frame_eq (demE_mild _ me), frame_eq (demE_mild _ me0), frame_eq me, frame_eq me0]
    simp only [toks_demE, demoteA_putA, hn, hn0, hv, hv0]
    rw [demoteA_comm, putA_comm _ dx dy _ _ hd]
  · rw [store_dst (demE_mild _ me) _ dx none, store_dst me0 _ dy none, store_dst (demE_mild _ me0) _ dy none, store_dst me _ dx none]
    have put0 : ∀ (f : Eff) (v : AV), (demE (toks (.put v)) f).store ((Eff.put v).store σ none) none = (demE (toks f) (.put v)).store (f.store σ none) none := by
      intro f v
      rw [show toks (.put v) = [] from rfl, demE_nil]
      rfl
    cases e with
    | put v => exact (put0 e0 v).symm
    | ap t v => exact (store_dem [t] me0 σ none).symm
    | st id off vs =>
      cases e0 with
      | put v => exact put0 _ v
      | ap t0 v0 => exact store_dem [t0] (e := .st id off vs) rfl σ none
      | st id0 off0 vs0 => exact (H.stst _ _ _ _ _ _ rfl rfl).elim
      | nw cs0 =>
        rw [show toks (.nw cs0) = [] from rfl, show toks (.st id off vs) = [] from rfl, demE_nil, demE_nil]
        exact stCells_addS _ _ _ _ _ (H.st id off vs rfl)
      | _ => cases me0
    | nw cs =>
      cases e0 with
      | put v => exact put0 _ v
      | ap t0 v0 => exact store_dem [t0] (e := .nw cs) rfl σ none
      | st id0 off0 vs0 =>
        rw [show toks (.nw cs) = [] from rfl, show toks (.st id0 off0 vs0) = [] from rfl, demE_nil, demE_nil]
        exact (stCells_addS _ _ _ _ _ (H.st0 _ _ _ rfl)).symm
      | nw cs0 => exact (H.nwnw _ _ rfl rfl).elim
      | _ => cases me0
    | _ => cases me
section
variable {E : Env} {A : Fm} {σ : Sto} {i x y : AI}
structure Kind (i : AI) (σ : Sto) (e : Eff) : Prop where
  mild : e.mild true = true
  st : ∀ id off vs, e = .st id off vs → i.op.writes = true ∧ id < lenS σ
  nw : ∀ cs, e = .nw cs → i.op.allocs = true
  ap : ∀ t v, e = .ap t v → (∃ sz es ep, v = .own t sz es ep) ∧ (i.op.apps = true ∨ (i.op.makes = true ∧ ∃ d, i.dst = some d ∧ (t = 100 * d + 97 ∨ t = 100 * d + 99)))
theorem Kind.put (v : AV) : Kind i σ (.put v) := ⟨rfl, fun _ _ _ h => by (cases h), fun _ h => by (cases h), fun _ _ h => by cases h⟩
theorem Kind.calm {e : Eff} (h : Kind i σ e) : Kind i σ (e.calm true) := by
  cases e with
  | put v => exact Kind.put _
  | _ => exact h
theorem out_kind {e : Eff} (hp : i.plain = true) (h : Out E i A σ e) : Kind i σ e := by
  cases h with
  | skip h => exact Kind.put _
  | ia h => exact Kind.put _
  | @call u f xs r h hop hc =>
    have hr : okR (upV r) = true := by obtain ⟨_, _, _, _, _, _, h⟩ := hc; exact okR_up h
    generalize upV r = r at *
    cases r with
    | fresh sz es ep =>
      cases hd : i.dst with
      | none => exact Kind.put _
      | some d => exact ⟨rfl, fun _ _ _ h => by (cases h), fun _ h => by (cases h), fun t v h => by cases h; exact ⟨⟨sz, es, ep, rfl⟩, .inr ⟨by rw [hop]; rfl, d, hd, .inl rfl⟩⟩⟩
    | pk => cases hr
    | _ => exact Kind.put _
  | @op q e h hn he hq =>
    have h5 := effM_eff he
    clear he
    obtain ⟨e, he, hm, rfl⟩ := h5
    apply Kind.calm
    have gen : (match evV std (i.dst.getD 0) A σ i.op with | some (q, v) => some (q, Eff.put v) | none => none : Option (Prop × Eff)) = some (q, e) → Kind i σ e := by
      intro h
      split at h
      · cases h; exact Kind.put _
      · cases h
    cases hop : i.op with
    | alloc zs =>
      rw [hop] at he
      cases he
      exact ⟨rfl, fun _ _ _ h => by (cases h), fun _ _ => by rw [hop]; rfl, fun _ _ h => by cases h⟩
    | box x =>
      rw [hop] at he
      simp only [eff] at he
      split at he
      · cases he
      · cases he
        exact ⟨rfl, fun _ _ _ h => by (cases h), fun _ _ => by rw [hop]; rfl, fun _ _ h => by cases h⟩
    | st a x sz =>
      rw [hop] at he
      simp only [eff] at he
      split at he
      · split at he
        · rename_i hs
          split at he
          · cases he
          · split at he
            · cases he
              exact ⟨rfl, fun id off vs h => by cases h; exact ⟨by rw [hop]; rfl, getS_lt _ _ _ hs⟩, fun _ h => by (cases h), fun _ _ h => by cases h⟩
            · cases he
        · cases he
      · repeat' split at he
        all_goals first
          | (cases he; done)
          | (cases he; cases hm; done)
      · cases he
    | app x y sz b =>
      rw [hop] at he
      obtain ⟨t, es, ep, ep', ys, _, _, rfl, he'⟩ := effM_app (show effM (i.dst.getD 0) A σ (.app x y sz b) = some (q, e.calm true) by simp only [effM, he, hm])
      have : e = .ap t (.own t sz (std.dcat es ys) (Ep.meet .new (ep.meet ep'))) := by
        cases e <;> simp_all [Eff.calm]
      subst this
      exact ⟨rfl, fun _ _ _ h => by (cases h), fun _ h => by (cases h), fun t v h => by cases h; exact ⟨⟨_, _, _, rfl⟩, .inl (by rw [hop]; rfl)⟩⟩
    | bslice ow sz xs =>
      match ow, hop with
      | 1, hop =>
        have hds : i.dst.isSome = true := by
          simp only [AI.plain, hop, Bool.and_eq_true] at hp
          exact hp.2
        obtain ⟨d, hd⟩ := Option.isSome_iff_exists.1 hds
        rw [hop, hd] at he
        simp only [eff] at he
        split at he
        · cases he
          exact ⟨rfl, fun _ _ _ h => by (cases h), fun _ h => by (cases h), fun t v h => by cases h; exact ⟨⟨_, _, _, rfl⟩, .inr ⟨by rw [hop]; rfl, d, hd, .inr rfl⟩⟩⟩
        · cases he
      | 0, hop => rw [hop] at he gen; exact gen he
      | 2, hop =>
        rw [hop] at he
        simp only [eff] at he
        split at he
        · cases he; cases hm
        · cases he
      | n + 3, hop => rw [hop] at he gen; exact gen he
    | nil u sz =>
      cases u with
      | true => rw [hop] at he; cases he; cases hm
      | false => rw [hop] at he gen; exact gen he
    | sl x lo hi sz =>
      by_cases hu : ∃ t sz' es ep, x.ev A = .uq t sz' es ep
      · obtain ⟨t, sz', es, ep, hX⟩ := hu
        have := effM_slu (d := i.dst.getD 0) (σ := σ) (lo := lo) (hi := hi) (sz := sz) hX
        rw [hop] at he
        simp only [effM, he, hm] at this
        cases this
      · rw [hop] at he gen
        rw [eff_sl fun t sz' es ep h => hu ⟨t, sz', es, ep, h⟩] at he
        exact gen he
    | mkm => rw [hop] at he; cases he; cases hm
    | allocu sz => rw [hop] at he; cases he; cases hm
    | mup kk x k v =>
      have := effM_mup (i.dst.getD 0) A σ kk x k v
      rw [hop] at he
      simp only [effM, he, hm] at this
      cases this
    | _ => rw [hop] at he gen; exact gen he
theorem memN_sole (t u : Nat) : memN t [u] = false ↔ t ≠ u := by
  simp only [memN]
  cases h : natEq t u with
  | true => rw [natEq_iff] at h; simp [h]
  | false =>
    simp only [true_iff]
    intro e
    rw [natEq_iff.2 e] at h
    cases h
theorem tokFresh_of {d : Nat} {T : List Nat} (hp : i.plain = true) (hd : d = i.dst.getD 0) (h : i.op.makes = true → ∀ t, T = [t] → t % 100 = 97 ∨ t % 100 = 99) (hT : T = [] ∨ ∃ t, T = [t]) : tokFresh d T i.op := by
  cases hop : i.op with
  | alloc zs =>
    intro j hj
    rcases hT with rfl | ⟨t, rfl⟩
    · rfl
    · have hl : zs.length < 96 := by
        simp only [AI.plain, hop, Bool.and_eq_true, decide_eq_true_eq] at hp
        exact hp.2
      rw [memN_sole]
      have := h (by rw [hop]; rfl) t rfl
      omega
  | nil u sz =>
    simp only [tokFresh]
    rcases hT with rfl | ⟨t, rfl⟩
    · rfl
    · rw [memN_sole]
      have := h (by rw [hop]; rfl) t rfl
      omega
  | slc x hi mx sz =>
    simp only [tokFresh]
    rcases hT with rfl | ⟨t, rfl⟩
    · rfl
    · rw [memN_sole]
      have := h (by rw [hop]; rfl) t rfl
      omega
  | _ => trivial
theorem toks_form (e : Eff) : toks e = [] ∨ ∃ t, toks e = [t] := by
  cases e with
  | ap t v => exact .inr ⟨t, rfl⟩
  | _ => exact .inl rfl
theorem diamond {e e1 : Eff} (hok : ∀ t, okW (lenS σ) (gt A t)) (px : x.plain = true) (py : y.plain = true) (hc : conf x y = false)
    (hx : Out E x A σ e) (hy : Out E y (e.frame A σ x.dst) (e.store σ x.dst) e1) :
    ∃ e0 e', Out E y A σ e0 ∧ Out E x (e0.frame A σ y.dst) (e0.store σ y.dst) e' ∧
      e'.frame (e0.frame A σ y.dst) (e0.store σ y.dst) x.dst = e1.frame (e.frame A σ x.dst) (e.store σ x.dst) y.dst ∧ e'.store (e0.store σ y.dst) x.dst = e1.store (e.store σ x.dst) y.dst := by
  simp only [conf, Bool.or_eq_false_iff, Bool.and_eq_false_iff] at hc
  obtain ⟨⟨⟨⟨⟨⟨⟨hdd, hxy⟩, hyx⟩, hax⟩, hay⟩, hwx⟩, hwy⟩, hal⟩ := hc
  have hd : ∀ d, x.dst = some d → y.dst ≠ some d := by
    intro d h1 h2
    rw [h1, h2] at hdd
    simp only at hdd
    rw [natEq_iff.2 rfl] at hdd
    cases hdd
  have rdy : ∀ t, y.readsT t = true → x.dst ≠ some t := by
    intro t ht h
    rw [h] at hxy
    simp only at hxy
    rw [ht] at hxy
    cases hxy
  have rdx : ∀ t, x.readsT t = true → y.dst ≠ some t := by
    intro t ht h
    rw [h] at hyx
    simp only at hyx
    rw [ht] at hyx
    cases hyx
  have Kx := out_kind px hx
  have stOf : ∀ (i : AI) (e : Eff), Kind i σ e → (∀ j : AI, (i.op.writes = false ∨ j.op.sees = false) → j.op.sees = true → ∀ id, id < lenS σ → getS (e.store σ i.dst) id = (getS σ id).map (SE.demote (toks e))) := by
    intro i e K j hw hs id hid
    have hwi : i.op.writes = false := hw.resolve_right (by rw [hs]; simp)
    cases e with
    | put v =>
      simp only [Eff.store, toks]
      cases getS σ id with
      | none => rfl
      | some s => rw [Option.map_some, SE.demote_nil]
    | ap t v => exact getS_demoteS _ _ _
    | st id off vs => rw [(K.st id off vs rfl).1] at hwi; cases hwi
    | nw cs =>
      simp only [Eff.store, toks, getS_addS σ _ id hid]
      cases getS σ id with
      | none => rfl
      | some s => rw [Option.map_some, SE.demote_nil]
    | _ => cases K.mild
  have residue : ∀ (i : AI) (e : Eff), Kind i σ e → i.op.apps = false → ∀ t, toks e = [t] → t % 100 = 97 ∨ t % 100 = 99 := by
    intro i e K ha t ht
    cases e with
    | ap t' v =>
      simp only [toks, List.cons.injEq, and_true] at ht
      subst ht
      rcases (K.ap t' v rfl).2 with h | ⟨_, d, _, h⟩
      · rw [ha] at h; cases h
      · omega
    | _ => cases ht
  have Ny : Near y A σ (toks e) (e.frame A σ x.dst) (e.store σ x.dst) := by
    refine ⟨py, fun t ht => gt_frame Kx.mild A σ x.dst t (rdy t ht), hok, stOf x e Kx y hwx, tokFresh_of py rfl (fun hm => residue x e Kx ?_) (toks_form e)⟩
    exact hax.resolve_right (by rw [hm]; simp)
  obtain ⟨e0, hy0, rfl, hya⟩ := out_to Ny hy
  have Ky := out_kind py hy0
  have Nx : Near x A σ (toks e0) (e0.frame A σ y.dst) (e0.store σ y.dst) := by
    refine ⟨px, fun t ht => gt_frame Ky.mild A σ y.dst t (rdx t ht), hok, stOf y e0 Ky x hwy, tokFresh_of px rfl (fun hm => residue y e0 Ky ?_) (toks_form e0)⟩
    exact hay.resolve_right (by rw [hm]; simp)
  have apart : ∀ t v t0 v0, e = .ap t v → e0 = .ap t0 v0 → t ≠ t0 := by
    rintro t v t0 v0 rfl rfl
    rcases (Kx.ap t v rfl).2 with h1 | ⟨h1, d, hd1, h1'⟩
    · rcases (Ky.ap t0 v0 rfl).2 with h2 | ⟨h2, _⟩
      · have := hya h2 t0 v0 rfl
        simp only [toks] at this
        rw [memN_sole] at this
        exact fun e => this e.symm
      · rcases hax with h | h
        · rw [h1] at h; cases h
        · rw [h2] at h; cases h
    · rcases (Ky.ap t0 v0 rfl).2 with h2 | ⟨h2, d', hd2, h2'⟩
      · rcases hay with h | h
        · rw [h2] at h; cases h
        · rw [h1] at h; cases h
      · have hne : d ≠ d' := fun e => hd d hd1 (by rw [e]; exact hd2)
        omega
  have hx' := out_from Nx hx (fun _ t v he => by
    cases e0 with
    | ap t0 v0 => simp only [toks]; rw [memN_sole]; exact apart t v t0 v0 he rfl
    | _ => rfl)
  have H : Apart (lenS σ) e e0 := by
    refine ⟨?_, ?_, ?_, fun id off vs h => (Kx.st id off vs h).2, fun id off vs h => (Ky.st id off vs h).2⟩
    · intro t v t0 v0 h h0
      have hne := apart t v t0 v0 h h0
      obtain ⟨⟨sz, es, ep, rfl⟩, _⟩ := Kx.ap t v h
      obtain ⟨⟨sz0, es0, ep0, rfl⟩, _⟩ := Ky.ap t0 v0 h0
      have m1 := (memN_sole t0 t).2 (fun e => hne e.symm)
      have m2 := (memN_sole t t0).2 hne
      simp only [demote1, demote, m1, m2, and_self]
    · intro id off vs id0 off0 vs0 h h0
      have h1 := (Kx.st id off vs h).1
      have h2 := (Ky.st id0 off0 vs0 h0).1
      rcases hwx with h | h
      · rw [h1] at h; cases h
      · cases hop : y.op <;> simp [hop, AOp.writes, AOp.sees] at h2 h
    · intro cs cs0 h h0
      rw [Kx.nw cs h, Ky.nw cs0 h0] at hal
      simp at hal
  obtain ⟨c1, c2⟩ := eff_comm (A := A) Kx.mild Ky.mild hd H
  exact ⟨e0, _, hy0, hx', c1, c2⟩
end
end Go.Ly
end
section
namespace Go.Ly
inductive Steps (E : Env) (f : Nat → Option AI) : List Nat → Fm × Sto → Fm × Sto → Prop
  | nil (s) : Steps E f [] s s
  | cons {k l i s e s'} (hk : f k = some i) (h : Out E i s.1 s.2 e) (hl : Steps E f l (e.frame s.1 s.2 i.dst, e.store s.2 i.dst) s') : Steps E f (k :: l) s s'
def Real (E : Env) (O : Outer E) (ω : O.Ω) (s : Fm × Sto) : Prop := ∃ S w a, Here E O S w ω s.2 s.1 a
section
variable {E : Env} {O : Outer E} {S S' : St} {w w' : World} {A : Fm} {σ : Sto} {ω : O.Ω} {a : Act} {f : Nat → Option AI} {ops : Array Oper} {ro : Option Nat} {Q : Exit → Act → World → Prop} {hs : List Nat}
theorem id_lt (R : Rep E S w σ) {id b : Nat} (hb : S.θ[id]? = some b) : id < lenS σ := by
  rw [lenS_eq', ← R.len]
  rcases Nat.lt_or_ge id S.θ.length with h' | h'
  · exact h'
  · rw [List.getElem?_eq_none h'] at hb; cases hb
theorem okL_as (R : Rep E S w σ) : ∀ {l : List AV} {vs : List Value}, RdAs E.φ S w l vs → okL (lenS σ) l
  | [], _, _ => trivial
  | y :: l, vs, h => by
    simp only [RdAs] at h
    obtain ⟨u', rest', _, _, k1, k2⟩ := h
    have := okL_as R k2
    cases y with
    | ptr id off =>
      simp only [RdA] at k1
      obtain ⟨b, hb, _⟩ := k1
      exact ⟨id_lt R hb, this⟩
    | _ => exact this
theorem okL_ns (R : Rep E S w σ) : ∀ {l : List AV} {vs : List Value}, RdNs E.φ S w l vs → okL (lenS σ) l
  | [], _, _ => trivial
  | y :: l, vs, h => by
    simp only [RdNs] at h
    obtain ⟨u', rest', _, _, k1, k2⟩ := h
    have := okL_ns R k2
    cases y with
    | ptr id off =>
      simp only [RdA] at k1
      obtain ⟨b, hb, _⟩ := k1
      exact ⟨id_lt R hb, this⟩
    | _ => exact this
theorem okV_of (R : Rep E S w σ) {x : AV} {v : Value} (h : RdA E.φ S w x v) : okV (lenS σ) x := by
  cases x with
  | ptr id off =>
    simp only [RdA] at h
    obtain ⟨b, hb, _⟩ := h
    exact id_lt R hb
  | mp id =>
    simp only [RdA] at h
    obtain ⟨b, hb, _⟩ := h
    exact id_lt R hb
  | cb cs off =>
    simp only [RdA] at h
    obtain ⟨_, _, _, _, _, h, _⟩ := h
    exact h
  | fb cs off =>
    simp only [RdA] at h
    obtain ⟨_, _, _, _, _, h, _⟩ := h
    exact h
  | agg cs =>
    simp only [RdA] at h
    obtain ⟨vs, _, h⟩ := h
    exact okL_as R h
  | tup vs =>
    simp only [RdA] at h
    obtain ⟨us, _, h⟩ := h
    have : ∀ (vs : List AV) (us : List Value), RdNs E.φ S w vs us → ∀ i, noOwn (gt vs i) = true := by
      intro vs
      induction vs with
      | nil => intro us _ i; rfl
      | cons c vs ih =>
        intro us h i
        simp only [RdNs] at h
        obtain ⟨v, rest, _, hn, _, h⟩ := h
        cases i with
        | zero => exact hn
        | succ i => exact ih rest h i
    exact this vs us h
  | fn f a c =>
    simp only [RdA] at h
    obtain ⟨va, vc, _, k1, k2⟩ := h
    exact ⟨okL_ns R k1, okL_ns R k2⟩
  | _ => trivial
theorem okList_of (R : Rep E S w σ) : ∀ {l : List AV} {vs : List Value}, RdNs E.φ S w l vs → ∀ v ∈ l, okV (lenS σ) v
  | [], _, _, v, hv => by cases hv
  | x :: l, vs, h, v, hv => by
    simp only [RdNs] at h
    obtain ⟨u, rest, _, _, h1, h2⟩ := h
    simp only [List.mem_cons] at hv
    rcases hv with rfl | hv
    · exact okV_of R h1
    · exact okList_of R h2 v hv
theorem okW_of (R : Rep E S w σ) {x : AV} {v : Value} (h : RdA E.φ S w x v) : okW (lenS σ) x := by
  have g := okV_of R h
  cases x with
  | fn f a c =>
    simp only [RdA] at h
    obtain ⟨va, vc, _, h1, h2⟩ := h
    exact ⟨okList_of R h1, okList_of R h2⟩
  | _ => exact g
theorem Real.ok {s : Fm × Sto} (h : Real E O ω s) (t : Nat) : okW (lenS s.2) (gt s.1 t) := by
  obtain ⟨S, w, a, H⟩ := h
  exact okW_of H.rep (RdF_get _ _ t H.fr)
theorem wpIn_exists {o : Oper} {next : Act → World → Prop} (h : o.wpIn (fence ro) 0 E.P a w next (fun _ _ _ => False)) : ∃ a' w', next a' w' := by
  have h2 := h.2
  generalize (o.semAt (fence ro).round a.eval).run E.P w = r at h2
  cases r with
  | ok n w' =>
    cases n with
    | value v => exact ⟨_, _, h2⟩
    | skip => exact ⟨_, _, h2⟩
    | defer d => exact ⟨_, _, h2⟩
    | enter g args =>
      obtain ⟨_, _, hc⟩ := h2
      obtain ⟨e, w2, fr, hR, _⟩ := hc [] (room_wide _)
      cases e with
      | returned v => exact ⟨_, _, hR⟩
      | panicked c => exact hR.elim
      | outgrown => obtain ⟨_, _, h⟩ := hR; exact h.elim
    | row r args =>
      obtain ⟨_, hc⟩ := h2
      obtain ⟨v, w2, hR, _⟩ := hc default [] (room_wide _)
      exact ⟨_, _, hR⟩
    | round l g tmps asg body =>
      obtain ⟨_, _, hc⟩ := h2
      obtain ⟨e, w2, hR, _⟩ := hc default [] (room_wide _)
      cases e with
      | returned v => exact ⟨_, _, hR⟩
      | panicked c => exact hR.elim
      | outgrown => obtain ⟨_, _, h⟩ := hR; exact h.elim
    | _ => exact h2.elim
  | halt x w' =>
    cases x with
    | panic v => exact h2.elim
    | _ => exact h2.elim
def Tells (E : Env) (hs : List Nat) (ops : Array Oper) (f : Nat → Option AI) : Prop := ∀ k i, f k = some i → ∃ o, ops[k]? = some o ∧ compI E.P E.ν hs ops o = some i ∧ i.plain = true
theorem Real.out (hf : Tells E hs ops f) {s : Fm × Sto} {k : Nat} {i : AI} {e : Eff} (hr : Real E O ω s) (hk : f k = some i) (h : Out E i s.1 s.2 e) : Real E O ω (e.frame s.1 s.2 i.dst, e.store s.2 i.dst) := by
  obtain ⟨S, w, a, H⟩ := hr
  obtain ⟨o, ho, hc, _⟩ := hf k i hk
  have hN := out_hN (O := O) (ω := ω) (K := fun A σ ω' => A = e.frame s.1 s.2 i.dst ∧ σ = e.store s.2 i.dst ∧ ω' = ω) h ⟨rfl, rfl, rfl⟩
  have := wp_one (ro := none) (Q := fun _ _ _ => False) (next := fun a' w' => ∃ S', Here E O S' w' ω (e.store s.2 i.dst) (e.frame s.1 s.2 i.dst) a') hc H hN drawA_callA
    (fun S' w' u A' σ' ω' hK H' _ => by obtain ⟨rfl, rfl, rfl⟩ := hK; exact ⟨S', H'⟩)
  split at this
  · obtain ⟨a', w', S', H'⟩ := wpIn_exists this
    exact ⟨S', w', a', H'⟩
  · obtain ⟨S', H'⟩ := this.2
    exact ⟨S', _, _, H'⟩
theorem front (hf : Tells E hs ops f) {k : Nat} {i : AI} (hk : f k = some i) : ∀ (pre : List Nat) {post : List Nat} {s s' : Fm × Sto}, Real E O ω s → (∀ j ∈ pre, ∀ x, f j = some x → conf x i = false) → Steps E f (pre ++ k :: post) s s' →
    ∃ e, Out E i s.1 s.2 e ∧ Steps E f (pre ++ post) (e.frame s.1 s.2 i.dst, e.store s.2 i.dst) s'
  | [], post, s, s', hr, _, h => by
    cases h with
    | cons hk' h hl =>
      rw [hk] at hk'
      cases hk'
      exact ⟨_, h, hl⟩
  | j :: pre, post, s, s', hr, hp, h => by
    cases h with
    | @cons _ _ x _ e _ hj hx hl =>
      obtain ⟨e1, hy, hl'⟩ := front hf hk pre (hr.out hf hj hx) (fun j' hj' => hp j' (by simp [hj'])) hl
      obtain ⟨_, _, _, px⟩ := hf j x hj
      obtain ⟨_, _, _, py⟩ := hf k i hk
      obtain ⟨e0, e', h0, h', c1, c2⟩ := diamond hr.ok px py (hp j (by simp) x hj) hx hy
      refine ⟨e0, h0, .cons hj h' ?_⟩
      simp only [c1, c2]
      exact hl'
def unl (n : Nat) (listed : Array Bool) : List Nat := (List.range n).filter fun i => !listed.getD i true
def Shut (ops : Array Oper) (listed : Array Bool) : Prop := ∀ k o, listed.getD k false = true → ops[k]? = some o → ∀ e ∈ o.after.toList, Region.binds .any e = true → listed.getD e.on false = true
inductive Rch (ops : Array Oper) : Nat → Nat → Prop
  | one {i o e} (ho : ops[i]? = some o) (he : e ∈ o.after.toList) (hb : Region.binds .any e = true) : Rch ops e.on i
  | more {i j o e} (ho : ops[i]? = some o) (he : e ∈ o.after.toList) (hb : Region.binds .any e = true) (h : Rch ops j e.on) : Rch ops j i
theorem Rch.shut {listed : Array Bool} (hs : Shut ops listed) {i j : Nat} (h : Rch ops j i) : (∀ o, ops[i]? = some o → ∀ e ∈ o.after.toList, Region.binds .any e = true → listed.getD e.on false = true) → listed.getD j false = true := by
  induction h with
  | one ho he hb => exact fun hi => hi _ ho _ he hb
  | more ho he hb h ih => exact fun hi => ih fun o' ho' e' he' hb' => hs _ o' (hi _ ho _ he hb) ho' e' he' hb'
theorem before_fold (i : Nat) (acc : Array Nat) : ∀ (es : List Edge) (s : Nat) (j : Nat), (es.foldl (fun s e => if Region.binds .any e then s ||| 2 ^ e.on ||| acc.getD e.on 0 else s) s).testBit j = true →
    s.testBit j = true ∨ ∃ e ∈ es, Region.binds .any e = true ∧ (j = e.on ∨ (acc.getD e.on 0).testBit j = true)
  | [], s, j, h => .inl h
  | e :: es, s, j, h => by
    rw [List.foldl_cons] at h
    rcases before_fold i acc es _ j h with h1 | ⟨e', he', hb, h1⟩
    · split at h1
      · rename_i hb
        simp only [Nat.testBit_or, Bool.or_eq_true] at h1
        rcases h1 with (h1 | h1) | h1
        · exact .inl h1
        · refine .inr ⟨e, by simp, hb, .inl ?_⟩
          rw [Nat.testBit_two_pow] at h1
          exact (of_decide_eq_true h1).symm
        · exact .inr ⟨e, by simp, hb, .inr h1⟩
      · exact .inl h1
    · exact .inr ⟨e', by simp [he'], hb, h1⟩
theorem before_list (ops : Array Oper) : ∀ (l : List Oper) (m : Nat) (acc : Array Nat), acc.size = m → (∀ k o, l[k]? = some o → ops[m + k]? = some o) → (∀ i j, (acc.getD i 0).testBit j = true → Rch ops j i) →
    ∀ i j, ((l.foldl (fun acc o => acc.push (o.after.foldl (fun s e => if Region.binds .any e then s ||| 2 ^ e.on ||| acc.getD e.on 0 else s) 0)) acc).getD i 0).testBit j = true → Rch ops j i
  | [], _, _, _, _, h, i, j, hb => h i j hb
  | o :: l, m, acc, hm, hl, h, i, j, hb => by
    rw [List.foldl_cons] at hb
    refine before_list ops l (m + 1) _ (by simp [hm]) (fun k o' hk => by have := hl (k + 1) o' hk; rwa [show m + (k + 1) = m + 1 + k by omega] at this) ?_ i j hb
    intro i j hb
    by_cases hi : i = m
    · subst hi
      have ho : ops[i]? = some o := by have := hl 0 o rfl; rwa [Nat.add_zero] at this
      rw [Array.getD_eq_getD_getElem?, ← hm, Array.getElem?_push_size] at hb
      simp only [Option.getD_some] at hb
      rw [← Array.foldl_toList] at hb
      rcases before_fold 0 acc _ _ j hb with h1 | ⟨e, he, hbd, h1⟩
      · simp at h1
      · rcases h1 with rfl | h1
        · exact .one ho he hbd
        · exact .more ho he hbd (h _ _ h1)
    · rw [Array.getD_eq_getD_getElem?, Array.getElem?_push] at hb
      rw [if_neg (by rw [hm]; exact hi), ← Array.getD_eq_getD_getElem?] at hb
      exact h i j hb
theorem before_sound {i j : Nat} (h : ((Region.before ops).getD i 0).testBit j = true) : Rch ops j i := by
  unfold Region.before at h
  rw [← Array.foldl_toList] at h
  exact before_list ops ops.toList 0 #[] rfl (fun k o hk => by rw [Nat.zero_add]; rwa [Array.getElem?_toList] at hk) (fun i j h => by simp at h) i j h
def Ranked (md : Region.Mode) (ops : Array Oper) (rk : Nat → Nat) : Prop := ∀ i o, ops[i]? = some o → ∀ e ∈ o.after.toList, Region.binds md e = true → rk e.on < rk i ∧ e.on < ops.size
theorem binds_any {md : Region.Mode} {e : Edge} (h : Region.binds .any e = true) : Region.binds md e = true := by
  unfold Region.binds at h ⊢
  cases he : e.ground <;> rw [he] at h <;> first
    | rfl
    | (exact Bool.noConfusion h)
theorem least_of (rk : Nat → Nat) : ∀ (l : List Nat), l ≠ [] → ∃ i ∈ l, ∀ j ∈ l, rk i ≤ rk j
  | [], h => absurd rfl h
  | [x], _ => ⟨x, by simp, fun j hj => by simp only [List.mem_singleton] at hj; subst hj; exact Nat.le_refl _⟩
  | x :: y :: l, _ => by
    obtain ⟨i, hi, hm⟩ := least_of rk (y :: l) (by simp)
    by_cases h : rk x ≤ rk i
    · refine ⟨x, by simp, fun j hj => ?_⟩
      simp only [List.mem_cons] at hj
      rcases hj with rfl | hj
      · exact Nat.le_refl _
      · exact Nat.le_trans h (hm j (by simp only [List.mem_cons]; exact hj))
    · refine ⟨i, by simp only [List.mem_cons] at hi ⊢; exact .inr hi, fun j hj => ?_⟩
      simp only [List.mem_cons] at hj
      rcases hj with rfl | hj
      · omega
      · exact hm j (by simp only [List.mem_cons]; exact hj)
theorem mem_unl {n : Nat} {listed : Array Bool} {i : Nat} : i ∈ unl n listed ↔ i < n ∧ listed.getD i true = false := by
  simp [unl]
theorem unl_set {n : Nat} {listed : Array Bool} (hs : listed.size = n) {k : Nat} (hk : k < n) : ∀ {pre post : List Nat}, unl n listed = pre ++ k :: post → unl n (listed.setIfInBounds k true) = pre ++ post := by
  intro pre post h
  have h1 : unl n (listed.setIfInBounds k true) = (unl n listed).filter (fun i => i != k) := by
    unfold unl
    rw [List.filter_filter]
    apply List.filter_congr
    intro i hi
    rw [List.mem_range] at hi
    by_cases hik : i = k
    · subst hik
      simp [Array.getD_eq_getD_getElem?, hs, hi]
    · have : (i != k) = true := by simpa using hik
      rw [this, Bool.true_and, Array.getD_eq_getD_getElem?, Array.getD_eq_getD_getElem?, Array.getElem?_setIfInBounds_ne (fun e => hik e.symm)]
  have hnd : (unl n listed).Nodup := (List.nodup_range).filter _
  rw [h1, h]
  rw [h] at hnd
  rw [List.nodup_append] at hnd
  obtain ⟨hp, hq, hd⟩ := hnd
  rw [List.nodup_cons] at hq
  rw [List.filter_append, List.filter_cons]
  have e1 : pre.filter (fun i => i != k) = pre := List.filter_eq_self.2 fun x hx => by
    have := hd x hx k (by simp)
    simpa using this
  have e2 : post.filter (fun i => i != k) = post := List.filter_eq_self.2 fun x hx => by
    have : x ≠ k := fun e => hq.1 (e ▸ hx)
    simpa using this
  rw [e1, e2]
  simp
theorem unl_sorted {n : Nat} {listed : Array Bool} {pre post : List Nat} {k : Nat} (h : unl n listed = pre ++ k :: post) : ∀ j ∈ pre, j < k := by
  have hs : (unl n listed).Pairwise (· < ·) := (List.pairwise_lt_range).filter _
  rw [h, List.pairwise_append] at hs
  exact fun j hj => hs.2.2 j hj k (by simp)
def Ordered (ops : Array Oper) (f : Nat → Option AI) : Prop := ∀ i j x y, f i = some x → f j = some y → i < j → conf x y = true → ((Region.before ops).getD j 0).testBit i = true
theorem go_steps (hf : Tells E hs ops f) (ho : Ordered ops f) {md : Region.Mode} {rk : Nat → Nat} (hrk : Ranked md ops rk) : ∀ (fuel t : Nat) (listed : Array Bool) {s s' : Fm × Sto}, Real E O ω s → listed.size = ops.size → Shut ops listed →
    (unl ops.size listed).length ≤ fuel → (∀ k, k < ops.size → ∃ i, f k = some i) → Steps E f (unl ops.size listed) s s' → Steps E f (Region.linearise.go md ops fuel t listed []) s s'
  | 0, t, listed, s, s', hr, hs, hsh, hl, hall, h => by
    have : unl ops.size listed = [] := List.eq_nil_of_length_eq_zero (by omega)
    rw [this] at h
    exact h
  | fuel + 1, t, listed, s, s', hr, hs, hsh, hl, hall, h => by
    simp only [Region.linearise.go]
    change Steps E f (match (Region.ready md ops listed)[t % (Region.ready md ops listed).length]? with
      | some i => Region.linearise.go md ops fuel (t / (Region.ready md ops listed).length) (listed.setIfInBounds i true) [i]
      | none => [].reverse) s s'
    have hready : ∀ i, i ∈ Region.ready md ops listed ↔ i < ops.size ∧ listed.getD i true = false ∧ ∃ o, ops[i]? = some o ∧ ∀ e ∈ o.after.toList, Region.binds md e = true → listed.getD e.on false = true := by
      intro i
      simp only [Region.ready, List.mem_filter, List.mem_range, Bool.and_eq_true, Bool.not_eq_true']
      refine and_congr_right fun hi => and_congr_right fun _ => ?_
      rw [Array.getElem?_eq_getElem hi]
      simp only [Option.map_some, Option.getD_some, Option.some.injEq, exists_eq_left']
      rw [← Array.all_toList, List.all_eq_true]
      refine forall_congr' fun e => forall_congr' fun _ => ?_
      cases Region.binds md e <;> simp
    cases hi : (Region.ready md ops listed)[t % (Region.ready md ops listed).length]? with
    | none =>
      have hnil : Region.ready md ops listed = [] := by
        cases hr' : Region.ready md ops listed with
        | nil => rfl
        | cons x xs =>
          rw [hr'] at hi
          have hlt : t % (x :: xs).length < (x :: xs).length := Nat.mod_lt _ (by simp)
          rw [List.getElem?_eq_none_iff] at hi
          omega
      have hu : unl ops.size listed = [] := by
        by_cases hne : unl ops.size listed = []
        · exact hne
        · obtain ⟨i, hi', hm⟩ := least_of rk _ hne
          obtain ⟨h1, h2⟩ := mem_unl.1 hi'
          have : i ∈ Region.ready md ops listed := by
            refine (hready i).2 ⟨h1, h2, ops[i], Array.getElem?_eq_getElem h1, fun e he hb => ?_⟩
            obtain ⟨g1, g2⟩ := hrk i _ (Array.getElem?_eq_getElem h1) e he hb
            cases hc : listed.getD e.on false with
            | true => rfl
            | false =>
              have : e.on ∈ unl ops.size listed := mem_unl.2 ⟨g2, by
                rw [Array.getD_eq_getD_getElem?, Array.getElem?_eq_getElem (by omega)] at hc ⊢
                exact hc⟩
              have := hm _ this
              omega
          rw [hnil] at this
          cases this
      rw [hu] at h
      exact h
    | some k =>
      simp only []
      rw [linearise_go_acc, List.reverse_singleton, List.singleton_append]
      obtain ⟨h1, h2, o, hko, hedges⟩ := (hready k).1 (List.mem_of_getElem? hi)
      have hku := mem_unl.2 ⟨h1, h2⟩
      obtain ⟨pre, post, hsplit⟩ := List.append_of_mem hku
      obtain ⟨i, hki⟩ := hall k h1
      have hlt := unl_sorted hsplit
      rw [hsplit] at h
      obtain ⟨e, hout, hrest⟩ := front hf hki pre hr (fun j hj x hx => by
        cases hc : conf x i with
        | false => rfl
        | true =>
          have hrch := before_sound (ho j k x i hx hki (hlt j hj) hc)
          have := hrch.shut hsh fun o' ho' e he hb => by
            rw [hko] at ho'
            cases ho'
            exact hedges e he (binds_any hb)
          have hju : j ∈ unl ops.size listed := by rw [hsplit]; simp [hj]
          obtain ⟨g1, g2⟩ := mem_unl.1 hju
          rw [Array.getD_eq_getD_getElem?, Array.getElem?_eq_getElem (by omega)] at this g2
          simp only [Option.getD_some] at this g2
          rw [this] at g2
          cases g2) h
      refine .cons hki hout ?_
      have hset := unl_set hs h1 hsplit
      refine go_steps hf ho hrk fuel _ _ (hr.out hf hki hout) (by simp [hs]) ?_ ?_ hall (by rw [hset]; exact hrest)
      · intro k' o' hk' ho' e he hb
        by_cases hkk : k' = k
        · subst hkk
          rw [hko] at ho'
          cases ho'
          have := hedges e he (binds_any hb)
          rw [Array.getD_eq_getD_getElem?] at this ⊢
          rw [Array.getElem?_setIfInBounds]
          split
          · split <;> simp_all
          · exact this
        · rw [Array.getD_eq_getD_getElem?, Array.getElem?_setIfInBounds_ne (fun e => hkk e.symm), ← Array.getD_eq_getD_getElem?] at hk'
          have := hsh k' o' hk' ho' e he hb
          rw [Array.getD_eq_getD_getElem?] at this ⊢
          rw [Array.getElem?_setIfInBounds]
          split
          · split <;> simp_all
          · exact this
      · rw [hset]
        rw [hsplit] at hl
        simp only [List.length_append, List.length_cons] at hl ⊢
        omega
theorem hN_steps {K : SK O.Ω} : ∀ (l : List Nat) (is : List AI) {A : Fm} {σ : Sto}, All2 (fun k i => f k = some i) l is → hN std true (drawA E O) is A σ ω K → ∃ s', Steps E f l (A, σ) s' ∧ K s'.1 s'.2 ω
  | [], _, A, σ, .nil, h => ⟨(A, σ), .nil _, h⟩
  | k :: l, i :: is, A, σ, .cons hk hl, h => by
    have h' : hN std true (drawA E O) [i] A σ ω fun A σ ω' => ω' = ω ∧ hN std true (drawA E O) is A σ ω' K := by
      obtain ⟨e, ho, hK⟩ := hN_out (show hN std true (drawA E O) [i] A σ ω fun A σ ω' => hN std true (drawA E O) is A σ ω' K from h)
      exact out_hN ho ⟨rfl, hK⟩
    obtain ⟨e, ho, _, hK⟩ := hN_out h'
    obtain ⟨s', hs, hK'⟩ := hN_steps l is hl hK
    exact ⟨s', .cons hk ho hs, hK'⟩
theorem steps_hN {K : SK O.Ω} : ∀ {l : List Nat} {s s' : Fm × Sto}, Steps E f l s s' → K s'.1 s'.2 ω → ∃ is, All2 (fun k i => f k = some i) l is ∧ hN std true (drawA E O) is s.1 s.2 ω K
  | [], s, _, .nil _, h => ⟨[], .nil, h⟩
  | k :: l, s, s', .cons (i := i) (e := e) hk ho hl, h => by
    obtain ⟨is, hall, hN⟩ := steps_hN hl h
    exact ⟨i :: is, .cons hk hall, out_hN (K := fun A σ ω => Ly.hN std true (drawA E O) is A σ ω K) ho hN⟩
theorem All2.mono {α β : Type} {R R' : α → β → Prop} : ∀ {l : List α} {l' : List β}, All2 R l l' → (∀ x y, R x y → R' x y) → All2 R' l l'
  | [], _, .nil, _ => .nil
  | _ :: _, _ :: _, .cons h hl, hr => .cons (hr _ _ h) (hl.mono hr)
theorem all2_range : ∀ (m : Nat) (l : List AI) (g : Nat → Option AI), (∀ k, g (m + k) = l[k]?) → All2 (fun k i => g k = some i) (List.range' m l.length) l
  | _, [], _, _ => .nil
  | m, x :: l, g, h => by
    simp only [List.length_cons, List.range'_succ]
    exact .cons (by have := h 0; simpa using this) (all2_range (m + 1) l g fun k => by
      have := h (k + 1)
      rwa [show m + (k + 1) = m + 1 + k by omega] at this)
theorem here_same (H : Here E O S w ω σ A a) (ho : SameOs w w') (h : w'.heap = w.heap) : Here E O S w' ω σ A a ∧ Ev S w S w' := by
  have hs : w.heap.size ≤ w'.heap.size := by rw [h]; exact Nat.le_refl _
  obtain ⟨K, R', hx⟩ := foreign_step (w' := w') H.rep hs fun b _ => .inl (by rw [h])
  have V : Ev S w S w' := ⟨fun _ _ h => h, ⟨rfl, rfl, rfl⟩, fun _ h => h, rfl, rfl, hs, fun b _ _ _ _ _ => ⟨by rw [h], rfl⟩, fun _ _ => Nat.le_refl _, K.imm.weak fun _ _ => trivial, fun _ h => .inl h, fun t _ h => .inl ⟨t, h⟩, fun _ h => .inl h, ho⟩
  refine ⟨⟨R', ?_, H.marks.ev V, O.stable H.out ho rfl rfl hs hx K.imm (fun _ => Nat.le_refl _) R'.Gnew⟩, V⟩
  have := RdF_keep K A _ H.fr
  rwa [demoteA_nil] at this
theorem drawRule : DrawRule E O (drawA E O) := by
  intro hcs ro ops is id K S w A σ ω a Q hc H h hn
  simp only [compRegion] at hc
  split at hc
  · rename_i is' his
    split at hc
    · cases hc
    · rename_i hok
      simp only [Option.some.injEq, AC.rg.injEq, true_and] at hc
      subst hc
      have hok' : regionOk ops is' = true := by
        cases hr : regionOk ops is' with
        | true => rfl
        | false => rw [hr] at hok; simp at hok
      simp only [regionOk, Bool.and_eq_true, List.all_eq_true] at hok'
      obtain ⟨⟨hpl, hord⟩, hedge⟩ := hok'
      have hcomp := comp_ops his
      have hlen : is'.length = ops.size := by
        have : ∀ {α β : Type} {R : α → β → Prop} {l : List α} {l' : List β}, All2 R l l' → l.length = l'.length := by
          intro α β R l l' h
          induction h with
          | nil => rfl
          | cons _ _ ih => simp [ih]
        have := this hcomp
        simpa using this.symm
      let f : Nat → Option AI := fun k => is'[k]?
      have hall2 : All2 (fun k i => f k = some i) (List.range ops.size) is' := by
        have := all2_range 0 is' f (fun k => by simp [f])
        rwa [hlen, ← List.range_eq_range'] at this
      have hf : Tells E hcs ops f := by
        intro k i hk
        have hmem : i ∈ is' := List.mem_of_getElem? hk
        have get : ∀ (l : List Nat) (l' : List AI) (m : Nat), All2 (fun k i => ∃ o, ops[k]? = some o ∧ compI E.P E.ν hcs ops o = some i) l l' → ∀ (k' : Nat) (i : AI), l'[k']? = some i → ∃ k'' : Nat, l[k']? = some k'' ∧ ∃ o, ops[k'']? = some o ∧ compI E.P E.ν hcs ops o = some i := by
          intro l l' m h
          induction h with
          | nil => intro k' i h; simp at h
          | cons h1 h2 ih =>
            intro k' i h
            cases k' with
            | zero => simp only [List.getElem?_cons_zero, Option.some.injEq] at h; subst h; exact ⟨_, rfl, h1⟩
            | succ k' => exact ih k' i h
        obtain ⟨k'', h1, o, h2, h3⟩ := get _ _ 0 hcomp k i hk
        have hkk : k'' = k := by
          have hk1 : k < ops.size := by
            rcases Nat.lt_or_ge k ops.size with h' | h'
            · exact h'
            · rw [List.getElem?_eq_none (by simpa using h')] at h1; cases h1
          rw [List.getElem?_range hk1] at h1
          cases h1
          rfl
        subst hkk
        exact ⟨o, h2, h3, hpl i hmem⟩
      have ho : Ordered ops f := by
        intro i j x y hx hy hij hcf
        have hjm : (y, j) ∈ is'.zipIdx := by rw [List.mem_zipIdx_iff_getElem?]; exact hy
        have him : (x, i) ∈ is'.zipIdx := by rw [List.mem_zipIdx_iff_getElem?]; exact hx
        have := hord _ hjm _ him
        simp only [hcf, Bool.and_true, Bool.or_eq_true, Bool.not_eq_true'] at this
        rcases this with h1 | h1
        · rw [natLe_iff.2 hij] at h1; cases h1
        · exact h1
      have hedge' : ∀ i o, ops[i]? = some o → ∀ e ∈ o.after.toList, ((!(Region.binds .any e) || natLe (e.on + 1) i) && (!(Region.binds .text e) || natLe (e.on + 1) i) &&
          (!(Region.binds .gc e) || (natLe (e.on + 1) ops.size && natLe ((Region.linearise .gc ops 0).idxOf e.on + 1) ((Region.linearise .gc ops 0).idxOf i)))) = true := by
        intro i o hi e he
        have hm : (o, i) ∈ ops.toList.zipIdx := by rw [List.mem_zipIdx_iff_getElem?]; rw [Array.getElem?_toList]; exact hi
        have := hedge _ hm e he
        simp only [Bool.and_eq_true]
        exact this
      have lt_of : ∀ i o, ops[i]? = some o → i < ops.size := fun i o h => by
        rcases Nat.lt_or_ge i ops.size with h' | h'
        · exact h'
        · rw [Array.getElem?_eq_none h'] at h; cases h
      have rkAny : Ranked .any ops (fun i => i) := by
        intro i o hi e he hb
        have := hedge' i o hi e he
        simp only [Bool.and_eq_true, hb, Bool.not_true, Bool.false_or, natLe_iff] at this
        have hlt := lt_of i o hi
        exact ⟨this.1.1, by have := this.1.1; omega⟩
      have rkText : Ranked .text ops (fun i => i) := by
        intro i o hi e he hb
        have := hedge' i o hi e he
        simp only [Bool.and_eq_true, hb, Bool.not_true, Bool.false_or, natLe_iff] at this
        have hlt := lt_of i o hi
        exact ⟨this.1.2, by have := this.1.2; omega⟩
      have rkGc : Ranked .gc ops (fun i => (Region.linearise .gc ops 0).idxOf i) := by
        intro i o hi e he hb
        have := hedge' i o hi e he
        simp only [Bool.and_eq_true, hb, Bool.not_true, Bool.false_or, natLe_iff] at this
        exact ⟨this.2.2, this.2.1⟩
      refine wpIn_region_draw fun t => ?_
      obtain ⟨H1, V1⟩ := here_same (w' := { w with drawn := w.drawn + 1 }) H (.heap rfl rfl fun _ _ => rfl) rfl
      obtain ⟨s', hs, hK⟩ := hN_steps _ _ hall2 h
      have hreal : Real E O ω (A, σ) := ⟨S, w, a, H⟩
      have hu0 : unl ops.size (Array.replicate ops.size false) = List.range ops.size := by
        unfold unl
        refine List.filter_eq_self.2 fun i hi => ?_
        rw [List.mem_range] at hi
        simp [Array.getD_eq_getD_getElem?, hi]
      have any : ∀ (md : Region.Mode) (rk : Nat → Nat) (t : Nat), Ranked md ops rk → Steps E f (Region.linearise md ops t) (A, σ) s' := fun md rk t hrk =>
        go_steps hf ho hrk ops.size t _ hreal (by simp) (fun k o hk => by
          rw [Array.getD_eq_getD_getElem?, Array.getElem?_replicate] at hk
          split at hk <;> simp at hk) (by rw [hu0]; simp) (fun k hk => ⟨is'[k]'(by omega), List.getElem?_eq_getElem _⟩) (by rw [hu0]; exact hs)
      have hsch : Steps E f (Region.schedule (E.P.follows .mixedOrders) ops t) (A, σ) s' := by
        unfold Region.schedule
        split
        · exact any .any (fun i => i) t rkAny
        · split
          · exact any .text (fun i => i) _ rkText
          · exact any .gc _ _ rkGc
      obtain ⟨is2, hall3, hN2⟩ := steps_hN (K := K) hsch hK
      refine wp_ops (hs := hcs) drawA_callA _ _ (hall3.mono fun k i hk => ?_) H1 hN2 fun S' w' a' A' σ' ω' hK' H' V' => hn S' w' a' A' σ' ω' hK' H' (V1.trans V')
      obtain ⟨o, h1, h2, _⟩ := hf k i hk
      exact ⟨o, h1, h2⟩
  · cases hc
end
end Go.Ly
end
section
namespace Go.Ly
def mkF : Nat → List (Nat × AV) → Fm
  | n, [] => anyN n
  | n, (t, v) :: l => upd (mkF n l) t v
section
variable {E : Env} {O : Outer E}
def loopF (E : Env) (O : Outer E) (b : AC) (K : XK O.Ω) (m : Nat) : Nat → Fm → Sto → O.Ω → Prop
  | 0, _, _, _ => False
  | n + 1, A, σ, ω => AWP E O b (fun x A' σ' ω' => match x with
      | .norm => ∃ A2 σ2, low A' σ' A2 σ2 ∧ lenS σ2 = m ∧ loopF E O b K m n A2 σ2 ω'
      | x => K x A' σ' ω') A σ ω
structure LoopSt (E : Env) (O : Outer E) (b : AC) (K : XK O.Ω) (m : Nat) where
  n : Nat
  A : Fm
  σ : Sto
  ω : O.Ω
  len : lenS σ = m
  ok : loopF E O b K m n A σ ω
theorem fun_by {k : Nat} {af : AF} {args : List AV} {σ0 : Sto} {ω : O.Ω} {K : AV → Sto → O.Ω → Prop} (hH : Has E k af)
    (h : hC std (callA E O) (drawA E O) (loopA E O) (rfA E O) af.body (retK (lenS σ0) af.results K) (frame0 args af.ntmps) σ0 ω) : Fun E O k args σ0 ω K :=
  fun_of hH (hC_sound drawRule _ _ _ _ _ h)
theorem pure_by {k : Nat} {af : AF} {args : List AV} {r : AV} (hH : Has E k af)
    (h : hC std (callA E (alone E)) (drawA E (alone E)) (loopA E (alone E)) (rfA E (alone E)) af.body (retK 0 af.results fun r' _ _ => r' = r) (frame0 args af.ntmps) [] ()) : Pure E k args r :=
  fun_by hH h
theorem loopA_inv {ι : Type} {b : AC} {K : XK O.Ω} {A0 : Fm} {σ0 : Sto} {ω0 : O.Ω} (P : ι → Prop) (μ : ι → Nat) (Af : ι → Fm) (σf : ι → Sto) (ωf : ι → O.Ω) (i0 : ι) (hP : P i0)
    (h0 : low A0 σ0 (Af i0) (σf i0)) (hω : ω0 = ωf i0) (hn : ∀ i, lenS (σf i) = lenS σ0)
    (step : ∀ i, P i → hC std (callA E O) (drawA E O) (loopA E O) (rfA E O) b (thenK (fun A' σ' ω' => ∃ j, P j ∧ μ j < μ i ∧ low A' σ' (Af j) (σf j) ∧ ω' = ωf j) K) (Af i) (σf i) (ωf i)) :
    loopA E O b K A0 σ0 ω0 := by
  refine .mk ?_
  refine awp_loop (ι := { i : ι // P i }) (fun i => μ i.1) (fun i => Af i.1) (fun i => σf i.1) (fun i => ωf i.1) ⟨i0, hP⟩ h0 hω (fun i => hn i.1) ?_
  rintro ⟨i, hi⟩
  refine AWP.mono (hC_sound drawRule _ _ _ _ _ (step i hi)) fun x A' σ' ω' hx => ?_
  cases x with
  | norm =>
    obtain ⟨j, h1, h2, h3, h4⟩ := hx
    exact ⟨⟨j, h1⟩, h2, h3, h4⟩
  | exit id => exact hx
  | ret => exact hx
theorem loopA_list {α : Type} {b : AC} {K : XK O.Ω} {A0 : Fm} {σ0 : Sto} {ω0 : O.Ω} (es : List α) (Af : List α → List α → Fm) (σf : List α → List α → Sto) (ωf : List α → List α → O.Ω)
    (h0 : low A0 σ0 (Af [] es) (σf [] es)) (hω : ω0 = ωf [] es) (hn : ∀ d r, lenS (σf d r) = lenS σ0)
    (nil : hC std (callA E O) (drawA E O) (loopA E O) (rfA E O) b (thenK (fun _ _ _ => False) K) (Af es []) (σf es []) (ωf es []))
    (cons : ∀ d e r d', es = d ++ e :: r → d' = d ++ [e] → hC std (callA E O) (drawA E O) (loopA E O) (rfA E O) b (thenK (fun A' σ' ω' => low A' σ' (Af d' r) (σf d' r) ∧ ω' = ωf d' r) K) (Af d (e :: r)) (σf d (e :: r)) (ωf d (e :: r))) :
    loopA E O b K A0 σ0 ω0 := by
  refine .mk ?_
  refine awp_loop (ι := { i : List α × List α // es = i.1 ++ i.2 }) (fun i => i.1.2.length) (fun i => Af i.1.1 i.1.2) (fun i => σf i.1.1 i.1.2) (fun i => ωf i.1.1 i.1.2) ⟨([], es), rfl⟩ h0 hω (fun i => hn _ _) ?_
  rintro ⟨⟨d, r⟩, hi⟩
  simp only at hi
  cases r with
  | nil =>
    rw [List.append_nil] at hi
    subst hi
    refine AWP.mono (hC_sound drawRule _ _ _ _ _ nil) fun x A' σ' ω' hx => ?_
    cases x with
    | norm => exact hx.elim
    | exit id => exact hx
    | ret => exact hx
  | cons e r =>
    refine AWP.mono (hC_sound drawRule _ _ _ _ _ (cons d e r _ hi rfl)) fun x A' σ' ω' hx => ?_
    cases x with
    | norm => exact ⟨⟨(d ++ [e], r), by simp [hi]⟩, by simp, hx.1, hx.2⟩
    | exit id => exact hx
    | ret => exact hx
theorem at_lt {p : Prims} (hp : std = p) {es d r : List D} {e : D} (h : es = d ++ e :: r) : p.lt (p.dlen d) (p.dlen es) = true := by
  subst hp h
  simp [std]
  omega
theorem end_lt {p : Prims} (hp : std = p) (es : List D) : p.lt (p.dlen es) (p.dlen es) = false := by
  subst hp
  simp [std]
theorem at_get {p : Prims} (hp : std = p) {es d r : List D} {e : D} (h : es = d ++ e :: r) : p.dget es (p.dlen d) = some e := by
  subst hp h
  simp [std]
theorem cnd_intro {b : Bool} {X Y : Unit → Prop} (h1 : b = true → X ()) (h2 : b = false → Y ()) : cnd b X Y := by
  cases b
  · exact h2 rfl
  · exact h1 rfl
end
end Go.Ly
end
section
namespace Go.Ly
structure RSt (Ω : Type) where
  j : Option Ex
  σ : Sto
  ω : Ω
def setPs : Fm → List Nat → List AV → Fm
  | A, p :: ps, v :: vs => setPs (upd A p v) ps vs
  | A, _, _ => A
def allD : List AV → Bool
  | [] => true
  | .d _ _ :: l => allD l
  | _ :: _ => false
def jumpOf : Ex → Option Code
  | .ret => some .ret
  | .exit id => some (.exit id)
  | .norm => none
def pend : Option Ex → Option Code
  | none => none
  | some x => jumpOf x
def wkF : Fm → Fm
  | [] => []
  | v :: l => wk v :: wkF l
def calmF : Fm → Bool
  | [] => true
  | v :: l => noOwn v && calmF l
def roundA (E : Env) (O : Outer E) (a1 b1 : AC) (ps : List Nat) (A : Fm) (xs : List AV) (σ : Sto) (ω : O.Ω) (K : Option Ex → Sto → O.Ω → Prop) : Prop :=
  AWP E O a1 (fun x A1 σ1 ω1 => match x with
    | .norm => AWP E O b1 (fun x _ σ2 ω2 => ∃ σ3, leS (lenS σ3) σ2 σ3 ∧ lenS σ3 = lenS σ ∧ (match x with | .norm => K none σ3 ω2 | .exit id => K (some (.exit id)) σ3 ω2 | .ret => K (some .ret) σ3 ω2)) A1 σ1 ω1
    | _ => False) (setPs A ps xs) σ ω
structure Rng where
  hs : List Nat
  l : Nat
  ca : Code
  cb : Code
  a1 : AC
  b1 : AC
  ps : Array Tmp
  A : Fm
  tmps : Array Value
  fn : FuncId
  df : Nat
  S0 : St
  w0 : World
structure Rng.ok (E : Env) (O : Outer E) (R : Rng) : Prop where
  ca : compC E.P E.ν R.hs R.ca = some R.a1
  cb : compC E.P E.ν R.hs R.cb = some R.b1
  A : calmF R.A = true
  lt : R.l < R.w0.heap.size
  θ : R.l ∉ R.S0.θ
  β : ∀ t, R.S0.β t ≠ some R.l
  X : ¬ R.S0.X R.l
  n0 : R.S0.n0 ≤ R.l
def Rng.entry (R : Rng) (busy : Bool) (j : Option Ex) : Loop :=
  { state := if busy then .busy else if j.isNone then .ready else .done, pending := pend j, fn := R.fn, tmps := R.tmps, params := R.ps, assign := R.ca, body := R.cb, defers := R.df }
def Rng.back (R : Rng) (w : World) : World := w.putObj R.l (.loop (R.entry false none))
def Rng.J {E : Env} (O : Outer E) (R : Rng) (rs : RSt O.Ω) (S : St) (w : World) : Prop :=
  ∃ Sc : St, Rep E Sc w rs.σ ∧ RdF E.φ Sc w R.A R.tmps.toList ∧ O.J rs.ω Sc w ∧ Ev R.S0 R.w0 Sc (R.back w) ∧ w.heap[R.l]? = some (.loop (R.entry false rs.j)) ∧
    Sc.G = S.G ∧ S.xv = [.func (.yield R.l) #[] #[]] ∧ (∀ b, b < R.w0.heap.size → S.X b) ∧ (∀ b, b ∈ Sc.θ → S.X b) ∧ (∀ t b, Sc.β t = some b → S.X b) ∧ (∀ b, Sc.X b → S.X b)
section
variable {E : Env} {O : Outer E} {R : Rng} {rs : RSt O.Ω} {S S' : St} {w w' : World}
theorem back_size : (R.back w).heap.size = w.heap.size := World.putObj_size
theorem back_other {b : Nat} (h : b ≠ R.l) : (R.back w).heap[b]? = w.heap[b]? := World.putObj_heap_other h
theorem back_l (h : R.l < w.heap.size) : (R.back w).heap[R.l]? = some (.loop (R.entry false none)) := World.putObj_heap_same h
theorem back_cell {b i : Nat} {v : Value} (h : (R.back w).cell? ⟨b, i, none⟩ = some v) : b ≠ R.l ∧ w.cell? ⟨b, i, none⟩ = some v := by
  by_cases hb : b = R.l
  · subst hb
    have hlt := cell_lt h
    rw [back_size] at hlt
    simp [World.cell?, back_l hlt] at h
  · exact ⟨hb, by rw [← cell_same (back_other (w := w) hb)]; exact h⟩
theorem cell_back {b i : Nat} {v : Value} (hb : b ≠ R.l) (h : w.cell? ⟨b, i, none⟩ = some v) : (R.back w).cell? ⟨b, i, none⟩ = some v := by
  rw [cell_same (back_other (w := w) hb)]; exact h
theorem back_map {b : Nat} {es : Array MapEntry} {k : Nat} (h : (R.back w).heap[b]? = some (.map es k)) : b ≠ R.l ∧ w.heap[b]? = some (.map es k) := by
  by_cases hb : b = R.l
  · subst hb
    have hlt := heap_lt h
    rw [back_size] at hlt
    rw [back_l hlt] at h
    cases h
  · exact ⟨hb, by rw [← back_other (w := w) hb]; exact h⟩
theorem map_back {b : Nat} {es : Array MapEntry} {k : Nat} (hb : b ≠ R.l) (h : w.heap[b]? = some (.map es k)) : (R.back w).heap[b]? = some (.map es k) := by
  rw [back_other hb]; exact h
theorem back_os (ho : SameOs w w') (hs : w.heap.size ≤ w'.heap.size) : SameOs (R.back w) (R.back w') := ⟨ho.1, ho.2.1, fun b o e => by
  by_cases hb : b = R.l
  · subst hb
    have hlt := heap_lt e
    rw [back_size] at hlt
    rw [back_l hlt] at e
    cases e
    exact ⟨_, back_l (by omega), .refl _⟩
  · rw [back_other hb] at e
    obtain ⟨o', e', h⟩ := ho.2.2 b o e
    exact ⟨o', by rw [back_other hb]; exact e', h⟩⟩
theorem back_imm {Q : Nat → Prop} {G : Nat → Nat} (h : Imm Q w G w') : Imm Q (R.back w) G (R.back w') :=
  ⟨fun b i v hQ hi hc => by
    obtain ⟨hb, hc⟩ := back_cell hc
    exact cell_back hb (h.cell b i v hQ hi hc), fun b es k hQ hi hc => by
    obtain ⟨hb, hc⟩ := back_map hc
    exact map_back hb (h.map b es k hQ hi hc)⟩
theorem imm_back {Q : Nat → Prop} {G : Nat → Nat} (hl : NoC w R.l) (h : Imm Q (R.back w) G (R.back w')) : Imm Q w G w' :=
  ⟨fun b i v hQ hi hc => by
    have hb : b ≠ R.l := fun e => by subst e; rw [hl.1 i] at hc; cases hc
    exact (back_cell (h.cell b i v hQ hi (cell_back hb hc))).2, fun b es k hQ hi hc => by
    have hb : b ≠ R.l := fun e => by subst e; exact hl.2 es k hc
    exact (back_map (h.map b es k hQ hi (map_back hb hc))).2⟩
end
section
variable {E : Env} {O : Outer E} {R : Rng} {rs : RSt O.Ω} {S S' : St} {w w' : World}
theorem Rng.stable (hok : R.ok E O) (h : R.J O rs S w) (ho : SameOs w w') (hX : S'.X = S.X) (hxv : S'.xv = S.xv) (hs : w.heap.size ≤ w'.heap.size) (same : ∀ b, b < w.heap.size → S.X b → w'.heap[b]? = w.heap[b]? ∧ S'.G b = S.G b)
    (imm : Imm All w S.G w') (hG : ∀ b, S.G b ≤ S'.G b) (hN : ∀ b, w'.heap.size ≤ b → S'.G b = 0) : R.J O rs S' w' := by
  obtain ⟨Sc, Rc, Fc, Jc, Vc, hl, eG, exv, x0, xθ, xβ, xX⟩ := h
  have hn0 : Sc.n0 ≤ R.w0.heap.size := by rw [Vc.n0.1]; exact Nat.le_of_lt (Nat.lt_of_le_of_lt hok.n0 hok.lt)
  have K : Keeps [] [] Sc w { Sc with G := S'.G } w' := by
    refine ⟨⟨fun _ _ h => h, rfl, rfl, fun b => by rw [eG]; exact hG b, hs, by rw [eG]; exact imm, fun t b _ hb => ?_, fun _ _ h => h, fun _ _ => rfl⟩, fun b h1 h2 h3 h4 => ⟨⟨h1, h2, h3, h4⟩, ?_⟩⟩
    · obtain ⟨g1, g2⟩ := same b (Rc.βlt t b hb).1 (xβ t b hb)
      exact ⟨hb, by rw [eG]; exact g2, g1⟩
    · exact (same b (by have := Vc.size; rw [back_size] at this; omega) (x0 b (by omega))).1
  refine ⟨{ Sc with G := S'.G }, ?_, ?_, ?_, ?_, ?_, rfl, hxv.trans exv, fun b hb => by rw [hX]; exact x0 b hb, fun b hb => by rw [hX]; exact xθ b hb, fun t b hb => by rw [hX]; exact xβ t b hb,
    fun b hb => by rw [hX]; exact xX b hb⟩
  · refine ⟨Rc.len, Rc.nodup, ?_, ?_, Rc.θX, ?_, Rc.βown, Rc.βinj, hN, Nat.le_trans Rc.E hs, Nat.le_trans Rc.n0 hs, trivial, fun b hb => ⟨Nat.lt_of_lt_of_le (Rc.X b hb).1 hs, (Rc.X b hb).2⟩⟩
    · intro id b s hb hc
      have hm := List.mem_of_getElem? hb
      have := RepE_keep K (same b (Rc.θlt b hm).1 (xθ b hm)).1 (Rc.box id b s hb hc)
      rwa [SE.demote_nil] at this
    · intro b hb
      obtain ⟨h1, h2⟩ := Rc.θlt b hb
      exact ⟨Nat.lt_of_lt_of_le h1 hs, by rw [(same b h1 (xθ b hb)).2, ← eG]; exact h2⟩
    · intro t b hb
      obtain ⟨h1, h2, h3⟩ := Rc.βlt t b hb
      exact ⟨Nat.lt_of_lt_of_le h1 hs, h2, h3⟩
  · have := RdF_keep K R.A _ Fc
    rwa [demoteA_nil] at this
  · exact O.stable Jc ho rfl rfl hs (fun b hb hXc => by rw [eG]; exact same b hb (xX b hXc)) K.imm K.G hN
  · have hsz := Vc.size
    rw [back_size] at hsz
    refine ⟨Vc.θ, Vc.n0, Vc.X, Vc.E, Vc.xv, by rw [back_size]; exact Nat.le_trans hsz hs, fun b hb h1 h2 h3 h4 => ?_, fun b hb => Nat.le_trans (Vc.G b hb) (K.G b), Vc.imm.trans (Imm.weak (back_imm K.imm) fun _ _ => trivial) Vc.G, fun b hb => Vc.newθ b hb, Vc.newβ, Vc.newX, Vc.os.trans (back_os ho hs)⟩
    · obtain ⟨g1, g2⟩ := Vc.frame b hb h1 h2 h3 h4
      obtain ⟨g3, g4⟩ := same b (Nat.lt_of_lt_of_le hb hsz) (x0 b hb)
      refine ⟨?_, g4.trans (by rw [← eG]; exact g2)⟩
      by_cases hbl : b = R.l
      · subst hbl
        rw [back_l (Nat.lt_of_lt_of_le hb (Nat.le_trans hsz hs)), ← g1, back_l (Nat.lt_of_lt_of_le hb hsz)]
      · rw [back_other hbl] at g1 ⊢
        exact g3.trans g1
  · have hsz := Vc.size
    rw [back_size] at hsz
    rw [(same R.l (Nat.lt_of_lt_of_le hok.lt hsz) (x0 R.l hok.lt)).1]
    exact hl
end
end Go.Ly
end
section
namespace Go.Ly
def unkL : List AV → List AV
  | [] => []
  | .d _ x :: l => .d .unk x :: unkL l
  | v :: l => v :: unkL l
def Rng.call {E : Env} (O : Outer E) (R : Rng) (_i : Nat) (args : List AV) (rs : RSt O.Ω) (K : AV → RSt O.Ω → Prop) : Prop :=
  rs.j = none ∧ allD args = true ∧ len args = R.ps.size ∧ roundA E O R.a1 R.b1 R.ps.toList R.A (unkL args) rs.σ rs.ω fun j σ ω => K (.d .top (.bool j.isNone)) ⟨j, σ, ω⟩
theorem roundA.mono {E : Env} {O : Outer E} {a1 b1 : AC} {ps : List Nat} {A : Fm} {xs : List AV} {σ : Sto} {ω : O.Ω} {K K' : Option Ex → Sto → O.Ω → Prop} (h : roundA E O a1 b1 ps A xs σ ω K) (hk : ∀ j σ ω, K j σ ω → K' j σ ω) :
    roundA E O a1 b1 ps A xs σ ω K' := by
  refine AWP.mono h fun x A1 σ1 ω1 hx => ?_
  cases x with
  | norm =>
    refine AWP.mono hx fun x _ σ2 ω2 hx => ?_
    obtain ⟨σ3, h1, h2, hx⟩ := hx
    refine ⟨σ3, h1, h2, ?_⟩
    cases x <;> exact hk _ _ _ hx
  | exit id => exact hx
  | ret => exact hx
section
variable {E : Env} {O : Outer E} {R : Rng} {S S' Sc : St} {w w' : World} {A : Fm} {σ : Sto} {ω : O.Ω} {a : Act}
structure Lasts (S : St) (w : World) (S' : St) (w' : World) : Prop where
  E : S'.E = S.E
  xv : S'.xv = S.xv
  θ : ∀ (id b : Nat), S.θ[id]? = some b → S'.θ[id]? = some b
  G : ∀ b, S.G b ≤ S'.G b
  size : w.heap.size ≤ w'.heap.size
  imm : Imm All w S.G w'
  fb : ∀ b, b < S.n0 → ¬ S.X b → b ∉ S.θ → (∀ t, S.β t ≠ some b) → (b < S'.n0 ∧ ¬ S'.X b ∧ b ∉ S'.θ ∧ ∀ t, S'.β t ≠ some b) ∧ w'.heap[b]? = w.heap[b]?
theorem Lasts.grow (L : Lasts S w S' w') (ep : Ep) : Grow w S.G (epB S.E ep) w' S'.G (epB S'.E ep) := ⟨L.imm, L.G, L.size, fun b _ hb => by rw [L.E]; exact hb⟩
theorem Lasts.d (L : Lasts S w S' w') {ep : Ep} {x : D} {v : Value} (h : RdD w S.G (epB S.E ep) x v) : RdD w' S'.G (epB S'.E ep) x v :=
  RdD_mono (L.grow ep) x v h
mutual
theorem RdA_last (L : Lasts S w S' w') : ∀ (x : AV) (v : Value), noOwn x = true → RdA E.φ S w x v → RdA E.φ S' w' x v
  | .any, _, _, _ => trivial
  | .d ep x, v, _, h => L.d h
  | .at ep x off, v, _, h => by
    simp only [RdA] at h ⊢
    obtain ⟨b, o, y, e, hy, hc, hg⟩ := h
    exact ⟨b, o, y, e, L.d hy, cellsAt_mono hc (by simpa using hg) L.imm, Nat.le_trans hg (L.G b)⟩
  | .ext i, v, _, h => by
    simp only [RdA] at h ⊢
    rw [L.xv]; exact h
  | .agg cs, v, hx, h => by
    simp only [noOwn] at hx
    simp only [RdA] at h ⊢
    obtain ⟨vs, e, h⟩ := h
    exact ⟨vs, e, RdAs_last L cs vs hx h⟩
  | .tup cs, v, _, h => by
    simp only [RdA] at h ⊢
    obtain ⟨vs, e, h⟩ := h
    exact ⟨vs, e, RdNs_last L cs vs h⟩
  | .cb cs off, v, _, h => by
    simp only [RdA] at h ⊢
    obtain ⟨b, vs, e, hc, hg, ho, hn⟩ := h
    exact ⟨b, vs, e, cellsAt_mono hc (by omega) L.imm, Nat.le_trans hg (L.G b), ho, RdAs_last L cs vs ho hn⟩
  | .fb cs off, v, _, h => by
    simp only [RdA] at h ⊢
    obtain ⟨b, vs, e, hc, ⟨h1, h2, h3, h4⟩, ho, hn⟩ := h
    obtain ⟨g1, g2⟩ := L.fb b h1 h2 h3 h4
    exact ⟨b, vs, e, cellsAt_same hc g2, g1, ho, RdAs_last L cs vs ho hn⟩
  | .sb sz n cs, v, _, h => by
    simp only [RdA] at h ⊢
    obtain ⟨b, cap, vs, e, h1, h2, hc, hg, ho, hn⟩ := h
    exact ⟨b, cap, vs, e, h1, h2, cellsAt_mono hc (by omega) L.imm, Nat.le_trans hg (L.G b), ho, RdAs_last L cs vs ho hn⟩
  | .mp id, v, _, h => by
    simp only [RdA] at h ⊢
    obtain ⟨b, hb, e⟩ := h
    exact ⟨b, L.θ id b hb, e⟩
  | .cmd ep m, v, _, h => by
    simp only [RdA] at h ⊢
    obtain ⟨b, es, k, e, hb, hg, hm⟩ := h
    exact ⟨b, es, k, e, L.imm.map b es k trivial hg hb, Nat.lt_of_lt_of_le hg (L.G b), RdM_mono (L.grow ep) m _ hm⟩
  | .cm ks cs, v, _, h => by
    simp only [RdA] at h ⊢
    obtain ⟨b, es, k, e, hb, hg, hm⟩ := h
    exact ⟨b, es, k, e, L.imm.map b es k trivial hg hb, Nat.lt_of_lt_of_le hg (L.G b), RdKs_last L cs ks _ hm⟩
  | .ptr id off, v, _, h => by
    simp only [RdA] at h ⊢
    obtain ⟨b, hb, e⟩ := h
    exact ⟨b, L.θ id b hb, e⟩
  | .fn f x c, v, _, h => by
    simp only [RdA] at h ⊢
    obtain ⟨va, vc, e, h1, h2⟩ := h
    exact ⟨va, vc, e, RdNs_last L x va h1, RdNs_last L c vc h2⟩
  | .own _ _ _ _, _, hx, _ => by cases hx
  | .uq _ _ _ _, _, hx, _ => by cases hx
  | .up _ _ _ _ _ _, _, hx, _ => by cases hx
  | .fresh _ _ _, _, hx, _ => by cases hx
  | .pk _, _, hx, _ => by cases hx
theorem RdAs_last (L : Lasts S w S' w') : ∀ (xs : List AV) (vs : List Value), noOwn.noOwnL xs = true → RdAs E.φ S w xs vs → RdAs E.φ S' w' xs vs
  | [], vs, _, h => by simp only [RdAs] at h ⊢; exact h
  | x :: xs, vs, hx, h => by
    simp only [RdAs] at h ⊢
    obtain ⟨v, rest, e, hn, h1, h2⟩ := h
    have hx2 : noOwn.noOwnL xs = true := by cases x <;> first | exact hx | cases hx
    have hx1 : noOwn x = true := by cases x <;> first | rfl | cases hx | cases hn
    exact ⟨v, rest, e, hn, RdA_last L x v hx1 h1, RdAs_last L xs rest hx2 h2⟩
theorem RdNs_last (L : Lasts S w S' w') : ∀ (xs : List AV) (vs : List Value), RdNs E.φ S w xs vs → RdNs E.φ S' w' xs vs
  | [], vs, h => by simp only [RdNs] at h ⊢; exact h
  | x :: xs, vs, h => by
    simp only [RdNs] at h ⊢
    obtain ⟨v, rest, e, hn, h1, h2⟩ := h
    exact ⟨v, rest, e, hn, RdA_last L x v hn h1, RdNs_last L xs rest h2⟩
theorem RdKs_last (L : Lasts S w S' w') : ∀ (xs : List AV) (ks : List D) (es : List MapEntry), RdKs E.φ S w xs ks es → RdKs E.φ S' w' xs ks es
  | [], ks, es, h => by simp only [RdKs] at h ⊢; exact h
  | x :: xs, ks, es, h => by
    simp only [RdKs] at h ⊢
    obtain ⟨k, ks', e, rest, e1, e2, hk, h0, hn, h1, h2⟩ := h
    exact ⟨k, ks', e, rest, e1, e2, hk, RdD_mono (L.grow .top) k _ h0, hn, RdA_last L x _ hn h1, RdKs_last L xs ks' rest h2⟩
end
theorem RdF_last (L : Lasts S w S' w') : ∀ (A : Fm) (vs : List Value), calmF A = true → RdF E.φ S w A vs → RdF E.φ S' w' A vs
  | [], _, _, h => h
  | x :: A, vs, hx, h => by
    simp only [calmF, Bool.and_eq_true] at hx
    obtain ⟨v, rest, e, h1, h2⟩ := h
    exact ⟨v, rest, e, RdA_last L x v hx.1 h1, RdF_last L A rest hx.2 h2⟩
theorem here_foreign (H : Here E O S w ω σ A a) (ho : SameOs w w') (hs : w.heap.size ≤ w'.heap.size) (h : ∀ b, b < w.heap.size → w'.heap[b]? = w.heap[b]? ∨ (Foreign S w b ∧ markOf b ∉ a.defers)) : Here E O S w' ω σ A a := by
  obtain ⟨K, R', hx⟩ := foreign_step H.rep hs fun b hb => (h b hb).imp id And.left
  refine ⟨R', ?_, ?_, O.stable H.out ho rfl rfl hs hx K.imm (fun _ => Nat.le_refl _) R'.Gnew⟩
  · have := RdF_keep K A _ H.fr
    rwa [demoteA_nil] at this
  · obtain ⟨ms, hds, hnd, hms⟩ := H.marks
    refine ⟨ms, hds, hnd, fun r hr => ?_⟩
    obtain ⟨h1, h2⟩ := hms r hr
    refine ⟨?_, h2⟩
    rcases h r (heap_lt h1) with h' | ⟨_, h'⟩
    · exact h'.trans h1
    · exact absurd (by rw [hds]; exact List.mem_map_of_mem hr) h'
theorem setPs_sound : ∀ (ps : List Nat) (xs : List AV) (A : Fm) (tmps : Array Value) (vs : List Value), RdF E.φ S w A tmps.toList → All2 (RdA E.φ S w) xs vs →
    RdF E.φ S w (setPs A ps xs) ((ps.zip vs).foldl (fun t p => t.setIfInBounds p.1 p.2) tmps).toList
  | [], _, A, tmps, vs, h, _ => by simpa [setPs] using h
  | p :: ps, [], A, tmps, _, h, .nil => by simpa [setPs] using h
  | p :: ps, x :: xs, A, tmps, v :: vs, h, .cons h1 h2 => by
    simp only [setPs, List.zip_cons_cons, List.foldl_cons]
    refine setPs_sound ps xs _ _ vs ?_ h2
    rw [Array.toList_setIfInBounds]
    exact RdF_set h1 A _ p h
theorem allD_sound (eG : Sc.G = S.G) : ∀ {xs : List AV} {vs : List Value}, allD xs = true → RdNs E.φ S w xs vs → All2 (RdA E.φ Sc w) (unkL xs) vs
  | [], vs, _, h => by simp only [RdNs] at h; subst h; exact .nil
  | x :: xs, vs, ha, h => by
    cases x with
    | d ep x =>
      simp only [RdNs] at h
      obtain ⟨v, rest, rfl, _, h1, h2⟩ := h
      refine .cons ?_ (allD_sound eG ha h2)
      simp only [RdA] at h1 ⊢
      rw [eG]
      exact RdD_weak (fun b h => trivial) h1
    | _ => cases ha
theorem Rng.apart (hok : R.ok E O) (Vc : Ev R.S0 R.w0 Sc (R.back w)) : R.l ∉ Sc.θ ∧ (∀ t, Sc.β t ≠ some R.l) ∧ ¬ Sc.X R.l ∧ Sc.n0 ≤ R.l ∧ R.l < w.heap.size := by
  refine ⟨fun h => ?_, fun t h => ?_, fun h => ?_, by rw [Vc.n0.1]; exact hok.n0, ?_⟩
  · exact (Vc.newθ _ h).elim hok.θ (fun hge => by have := hok.lt; omega)
  · exact (Vc.newβ t _ h).elim (fun ⟨t', h'⟩ => hok.β t' h') (fun hge => by have := hok.lt; omega)
  · exact (Vc.newX _ h).elim hok.X (fun hge => by have := hok.lt; omega)
  · have := Vc.size
    rw [back_size] at this
    exact Nat.lt_of_lt_of_le hok.lt this
theorem ev_back {w1 w2 : World} (V : Ev Sc w S' w') (h1 : ∀ b, b ≠ R.l → w.heap[b]? = w1.heap[b]?) (h2 : ∀ b, b ≠ R.l → w'.heap[b]? = w2.heap[b]?) (o1 : w1.os = w.os ∧ w1.output = w.output) (o2 : w2.os = w'.os ∧ w2.output = w'.output) (s1 : w.heap.size = w1.heap.size) (s2 : w'.heap.size = w2.heap.size) (hl : R.l < w.heap.size) (hN : NoC w R.l) :
    Ev Sc (R.back w1) S' (R.back w2) := by
  refine ⟨V.θ, V.n0, V.X, V.E, V.xv, by rw [back_size, back_size, ← s1, ← s2]; exact V.size, fun b hb g1 g2 g3 g4 => ?_, V.G, ⟨fun b i v hQ hi hc => ?_, fun b es k hQ hi hc => ?_⟩, fun b hb => by rw [back_size, ← s1]; exact V.newθ b hb,
    fun t b hb => by rw [back_size, ← s1]; exact V.newβ t b hb, fun b hb => by rw [back_size, ← s1]; exact V.newX b hb, ⟨o2.1.trans (V.os.1.trans o1.1.symm), o2.2.trans (V.os.2.1.trans o1.2.symm), fun b o e => by
      by_cases hbl : b = R.l
      · subst hbl
        rw [back_l (by omega)] at e
        have := V.size
        exact ⟨_, back_l (by omega), by cases e; exact .refl _⟩
      · rw [back_other hbl, ← h1 b hbl] at e
        obtain ⟨o', e', hs⟩ := V.os.2.2 b o e
        exact ⟨o', by rw [back_other hbl, ← h2 b hbl]; exact e', hs⟩⟩⟩
  · rw [back_size, ← s1] at hb
    have g5 : b < Sc.D ∨ NoC w b := by
      by_cases hbl : b = R.l
      · subst hbl; exact .inr hN
      · exact g4.imp id fun h => h.same (by rw [back_other hbl, h1 b hbl])
    obtain ⟨k1, k2⟩ := V.frame b hb g1 g2 g3 g5
    refine ⟨?_, k2⟩
    by_cases hbl : b = R.l
    · subst hbl
      have := V.size
      rw [back_l (by omega), back_l (by omega)]
    · rw [back_other hbl, back_other hbl, ← h1 b hbl, ← h2 b hbl]
      exact k1
  · obtain ⟨hbl, hc'⟩ := back_cell hc
    refine cell_back hbl ?_
    rw [← cell_same (h2 b hbl) i]
    exact V.imm.cell b i v hQ hi (by rw [cell_same (h1 b hbl) i]; exact hc')
  · obtain ⟨hbl, hc'⟩ := back_map hc
    refine map_back hbl ?_
    rw [← h2 b hbl]
    exact V.imm.map b es k hQ hi (by rw [h1 b hbl]; exact hc')
theorem ev_low {D : Nat} {w : World} (V : Ev { Sc with D := w.heap.size } w S' w') (hG : ∀ b, w.heap.size ≤ b → Sc.G b = 0) (hD : D = Sc.D) : Ev Sc w { S' with D := D } w' := by
  subst hD
  refine ⟨V.θ, ⟨V.n0.1, rfl, V.n0.2.2⟩, V.X, V.E, V.xv, V.size, fun b hb g1 g2 g3 _ => V.frame b hb g1 g2 g3 (.inl hb), fun b _ => ?_, ⟨fun b i v _ hi hc => V.imm.cell b i v (cell_lt hc) hi hc, fun b es k _ hi hc => V.imm.map b es k (heap_lt hc) hi hc⟩, V.newθ, V.newβ, V.newX, V.os⟩
  rcases Nat.lt_or_ge b w.heap.size with h | h
  · exact V.G b h
  · rw [hG b h]; exact Nat.zero_le _
theorem Rng.sound (hok : R.ok E O) {i : Nat} {args : List AV} {rs : RSt O.Ω} {K : AV → RSt O.Ω → Prop} {vs : List Value} {v : Value} (hcall : R.call O i args rs K) (hJ : R.J O rs S w) (B : Begins E S w [] args vs) (hv : S.xv[i]? = some v) :
    Invokes E v vs w fun e w' => ∃ u r ω' S', e = .returned u ∧ K r ω' ∧ R.J O ω' S' w' ∧ Left E S w S' w' [] r u := by
  obtain ⟨Sc, Rc, Fc, Jc, Vc, hl, eG, exv, x0, xθ, xβ, xX⟩ := hJ
  obtain ⟨hj, had, hlen, hround⟩ := hcall
  have hv' : v = .func (.yield R.l) #[] #[] := by
    rw [exv] at hv
    cases i with
    | zero => simpa using hv.symm
    | succ i => simp at hv
  subst hv'
  obtain ⟨a1, a2, a3, a4, a5⟩ := Rng.apart hok Vc
  have hvlen : vs.length = R.ps.size := by
    rw [← hlen, appendL_len]
    exact RdF_len _ _ (RdNs_F B.args)
  rw [hj] at hl
  refine ⟨.yield R.l, #[], #[], rfl, .inr ⟨R.l, R.fn, (R.ps.zip ⟨vs⟩).foldl (fun tmps (t, a) => tmps.setIfInBounds t a) R.tmps, R.ca, R.cb, ?_, ?_⟩⟩
  · have := run_yield (P := E.P) (args := (⟨vs⟩ : Array Value)) hl (show vs.length = R.ps.size from hvlen)
    simp only [invoke, Array.empty_append]
    exact this
  refine roundIn_of_wpIn (F := Fence.wide) trivial ?_
  have hargs := allD_sound eG had B.args
  have hfr := setPs_sound R.ps.toList (unkL args) R.A R.tmps vs Fc hargs
  have htm : ((R.ps.zip (⟨vs⟩ : Array Value)).foldl (fun tmps (t, a) => tmps.setIfInBounds t a) R.tmps) = (R.ps.toList.zip vs).foldl (fun t p => t.setIfInBounds p.1 p.2) R.tmps := by
    rw [← Array.foldl_toList, Array.toList_zip]
  rw [htm]
  have hsz : w.heap.size = (R.back w).heap.size := back_size.symm
  have hSd : ∃ Sd : St, Sd = { Sc with D := w.heap.size } := ⟨_, rfl⟩
  obtain ⟨Sd, hSd⟩ := hSd
  have Rd : Rep E Sd w rs.σ := by
    subst hSd
    refine ⟨Rc.len, Rc.nodup, fun id b s hb hs => ?_, Rc.θlt, Rc.θX, Rc.βlt, Rc.βown, Rc.βinj, Rc.Gnew, Rc.E, Rc.n0, trivial, Rc.X⟩
    have := RepE_keep (E := E) (T := []) (S := Sc) (w := w) (S' := { Sc with D := w.heap.size }) (w' := w) ⟨⟨fun _ _ h => h, rfl, rfl, fun _ => Nat.le_refl _, Nat.le_refl _, .refl _ _, fun _ _ _ h => ⟨h, rfl, rfl⟩, fun _ _ h => h, fun _ _ => rfl⟩, fun _ h1 h2 h3 h4 => ⟨⟨h1, h2, h3, h4⟩, rfl⟩⟩ rfl (Rc.box id b s hb hs)
    rwa [SE.demote_nil] at this
  have Fd : RdF E.φ Sd w (setPs R.A R.ps.toList (unkL args)) ((R.ps.toList.zip vs).foldl (fun t p => t.setIfInBounds p.1 p.2) R.tmps).toList := by
    subst hSd
    have := RdF_keep (φ := E.φ) (T := []) (S := Sc) (w := w) (S' := { Sc with D := w.heap.size }) (w' := w) ⟨⟨fun _ _ h => h, rfl, rfl, fun _ => Nat.le_refl _, Nat.le_refl _, .refl _ _, fun _ _ _ h => ⟨h, rfl, rfl⟩, fun _ _ h => h, fun _ _ => rfl⟩, fun _ h1 h2 h3 h4 => ⟨⟨h1, h2, h3, h4⟩, rfl⟩⟩ _ _ hfr
    rwa [demoteA_nil] at this
  have Jd : O.J rs.ω Sd w := by
    subst hSd
    exact O.stable Jc (.refl _) rfl rfl (Nat.le_refl _) (fun _ _ _ => ⟨rfl, rfl⟩) (.refl _ _) (fun _ => Nat.le_refl _) Rc.Gnew
  have d1 : R.l ∉ Sd.θ := by subst hSd; exact a1
  have d2 : ∀ t, Sd.β t ≠ some R.l := by subst hSd; exact a2
  have d3 : ¬ Sd.X R.l := by subst hSd; exact a3
  have d4 : Sd.n0 ≤ R.l := by subst hSd; exact a4
  have H0 : Here E O Sd w rs.ω rs.σ (setPs R.A R.ps.toList (unkL args)) { tmps := (R.ps.toList.zip vs).foldl (fun t p => t.setIfInBounds p.1 p.2) R.tmps, defers := [] } := ⟨Rd, Fd, ⟨[], rfl, List.nodup_nil, fun r hr => by cases hr⟩, Jd⟩
  have hro : RoundAt (some R.l) Sd w := fun l h => by cases h; exact ⟨⟨_, hl⟩, d1, d2, d3⟩
  refine wpIn_mono (hround R.hs (some R.l) R.ca Sd w _ hok.ca hro H0) ?_
  rintro e t w1 ⟨x, A1, σ1, ω1, S1, rfl, hK, H1, V1⟩
  cases x with
  | exit id => exact hK.elim
  | ret => exact hK.elim
  | norm =>
    have hl1 : w1.heap[R.l]? = some (.loop (R.entry false none)) := (V1.frame R.l a5 d1 d2 d3 (.inr (noC_loop hl))).1.trans hl
    refine ⟨w1.putObj R.l (.loop (R.entry true none)), run_beginRound hl1 rfl, ?_⟩
    have ap1 : R.l ∉ S1.θ ∧ (∀ t, S1.β t ≠ some R.l) ∧ ¬ S1.X R.l ∧ S1.n0 ≤ R.l := by
      refine ⟨fun h => (V1.newθ _ h).elim d1 (fun hge => by omega), fun t h => (V1.newβ t _ h).elim (fun ⟨t', h'⟩ => d2 t' h') (fun hge => by omega), fun h => (V1.newX _ h).elim d3 (fun hge => by omega), by rw [V1.n0.1]; exact d4⟩
    have hF1 : Foreign S1 w1 R.l := ⟨ap1.1, ap1.2.1, ap1.2.2.1, ap1.2.2.2, noC_loop hl1⟩
    have hnm : ∀ (S : St) (w : World) (a : Act) (r : Loop), w.heap[R.l]? = some (.loop r) → Marks S w a.defers → markOf R.l ∉ a.defers := by
      rintro S w a r hr ⟨ms, hds, _, hms⟩ hm
      rw [hds, List.mem_map] at hm
      obtain ⟨m, hm, he⟩ := hm
      have : m = R.l := by simpa [markOf] using he
      subst this
      rw [(hms _ hm).1] at hr
      cases hr
    have H2 := here_foreign (w' := w1.putObj R.l (.loop (R.entry true none))) H1 (.putObj hl1 fun _ _ _ e => by cases e) (by simp) (fun b hb => by
      by_cases hbl : b = R.l
      · exact .inr ⟨hbl ▸ hF1, hbl ▸ hnm S1 w1 t _ hl1 H1.marks⟩
      · exact .inl (World.putObj_heap_other hbl))
    have hlt1 : R.l < w1.heap.size := heap_lt hl1
    have hl2 : (w1.putObj R.l (.loop (R.entry true none))).heap[R.l]? = some (.loop (R.entry true none)) := World.putObj_heap_same hlt1
    have hro2 : RoundAt (some R.l) S1 (w1.putObj R.l (.loop (R.entry true none))) := fun l h => by cases h; exact ⟨⟨_, hl2⟩, ap1.1, ap1.2.1, ap1.2.2.1⟩
    refine wpIn_mono (hK R.hs (some R.l) R.cb S1 _ _ hok.cb hro2 H2) ?_
    rintro e t2 w3 ⟨x, A3, σ2, ω3, S3, rfl, ⟨σ3, hle, hln, hK3⟩, H3, V3⟩
    have hlt2 : R.l < (w1.putObj R.l (.loop (R.entry true none))).heap.size := by simpa using hlt1
    have hl3 : w3.heap[R.l]? = some (.loop (R.entry true none)) := (V3.frame R.l hlt2 ap1.1 ap1.2.1 ap1.2.2.1 (.inr (noC_loop hl2))).1.trans hl2
    have hlt3 : R.l < w3.heap.size := heap_lt hl3
    have hlt : w.heap.size ≤ w3.heap.size := by
      have h1 := V1.size
      have h3 := V3.size
      simp only [World.putObj_size] at h3
      omega
    have ap3 : R.l ∉ S3.θ ∧ (∀ t, S3.β t ≠ some R.l) ∧ ¬ S3.X R.l ∧ S3.n0 ≤ R.l := by
      refine ⟨fun h => (V3.newθ _ h).elim ap1.1 (fun hge => by omega), fun t h => (V3.newβ t _ h).elim (fun ⟨t', h'⟩ => ap1.2.1 t' h') (fun hge => by omega), fun h => (V3.newX _ h).elim ap1.2.2.1 (fun hge => by omega), by rw [V3.n0.1]; exact ap1.2.2.2⟩
    have hF3 : Foreign S3 w3 R.l := ⟨ap3.1, ap3.2.1, ap3.2.2.1, ap3.2.2.2, noC_loop hl3⟩
    have Vb : Ev Sd (R.back w) S3 (R.back w3) := (ev_back V1 (fun _ _ => rfl) (fun _ _ => rfl) ⟨rfl, rfl⟩ ⟨rfl, rfl⟩ rfl rfl a5 (noC_loop hl)).trans
      (ev_back (w1 := w1) (w2 := w3) V3 (fun b hb => World.putObj_heap_other hb) (fun _ _ => rfl) ⟨rfl, rfl⟩ ⟨rfl, rfl⟩ World.putObj_size rfl hlt2 (noC_loop hl2))
    have fin : ∀ (j : Option Ex), (pend j).isNone = j.isNone → K (.d .top (.bool j.isNone)) ⟨j, σ3, ω3⟩ → ∃ v w', (Instr.endRound R.l (pend j)).run E.P w3 = .ok v w' ∧
        ∃ u r ω' S', Ending.returned v = .returned u ∧ K r ω' ∧ R.J O ω' S' w' ∧ Left E S w S' w' [] r u := by
      intro j hpj hKj
      have hrun : (Instr.endRound R.l (pend j)).run E.P w3 = .ok (.bool j.isNone) (w3.putObj R.l (.loop (R.entry false j))) := by
        rw [run_endRound _ hl3, hpj]
        rfl
      obtain ⟨w4, hw4⟩ : ∃ w4, w4 = w3.putObj R.l (.loop (R.entry false j)) := ⟨_, rfl⟩
      rw [← hw4] at hrun
      have s4 : w4.heap.size = w3.heap.size := by rw [hw4, World.putObj_size]
      have o4 : ∀ b, b ≠ R.l → w4.heap[b]? = w3.heap[b]? := fun b hb => by rw [hw4]; exact World.putObj_heap_other hb
      have hl4 : w4.heap[R.l]? = some (.loop (R.entry false j)) := by rw [hw4]; exact World.putObj_heap_same hlt3
      have H4 := here_foreign (w' := w4) H3 (by rw [hw4]; exact .putObj hl3 fun _ _ _ e => by cases e) (by omega) (fun b hb => by
        by_cases hbl : b = R.l
        · exact .inr ⟨hbl ▸ hF3, hbl ▸ hnm S3 w3 t2 _ hl3 H3.marks⟩
        · exact .inl (o4 b hbl))
      have Vb4 : Ev Sd (R.back w) S3 (R.back w4) := Vb.trans (ev_back (Ev.refl S3 w3) (fun _ _ => rfl) (fun b hb => (o4 b hb).symm) ⟨rfl, rfl⟩ (by rw [hw4]; exact ⟨rfl, rfl⟩) rfl s4.symm hlt3 (noC_loop hl3))
      obtain ⟨S4, hS4⟩ : ∃ S4 : St, S4 = { drop S3 (lenS σ3) with D := Sc.D } := ⟨_, rfl⟩
      have V5 : Ev Sc (R.back w) { S3 with D := Sc.D } (R.back w4) := by
        refine ev_low (w := R.back w) ?_ (fun b hb => Rc.Gnew b (by rw [back_size] at hb; exact hb)) rfl
        rw [back_size, ← hSd]
        exact Vb4
      have V4 : Ev Sc (R.back w) S4 (R.back w4) := by
        rw [hS4]
        refine ⟨fun id b hb => ?_, V5.n0, V5.X, V5.E, V5.xv, V5.size, V5.frame, V5.G, V5.imm, fun b hb => V5.newθ b (List.mem_of_mem_take hb), V5.newβ, V5.newX, V5.os⟩
        have hlt : id < Sc.θ.length := by
          rcases Nat.lt_or_ge id Sc.θ.length with h' | h'
          · exact h'
          · rw [List.getElem?_eq_none h'] at hb; cases hb
        have hid : id < lenS σ3 := by rw [hln, lenS_eq', ← Rc.len]; exact hlt
        simp only [drop, List.getElem?_take]
        rw [if_pos hid]
        exact V5.θ id b hb
      have g34 : S4.G = S3.G := by rw [hS4]; rfl
      have hGall : ∀ b, Sc.G b ≤ S3.G b := fun b => by
        rcases Nat.lt_or_ge b w.heap.size with h | h
        · have := Vb4.G b (by rw [hSd]; exact h)
          rw [hSd] at this
          exact this
        · rw [Rc.Gnew b h]; exact Nat.zero_le _
      have imm : Imm All w Sc.G w4 := by
        refine imm_back (R := R) (noC_loop hl) ?_
        have := Vb4.imm
        rw [hSd] at this
        exact ⟨fun b i v _ hi hc => this.cell b i v (by have := cell_lt hc; rw [back_size] at this; exact this) hi hc, fun b es k _ hi hc => this.map b es k (by have := heap_lt hc; rw [back_size] at this; exact this) hi hc⟩
      have frame : ∀ b, b < w.heap.size → b ≠ R.l → b ∉ Sc.θ → (∀ t, Sc.β t ≠ some b) → ¬ Sc.X b → w4.heap[b]? = w.heap[b]? ∧ S3.G b = Sc.G b := by
        intro b hb hbl h1 h2 h3
        have := Vb4.frame b (by rw [back_size]; exact hb)
        rw [hSd] at this
        obtain ⟨g1, g2⟩ := this h1 h2 h3 (.inl hb)
        rw [back_other hbl, back_other hbl] at g1
        exact ⟨g1, g2⟩
      have hsz4 : w.heap.size ≤ w4.heap.size := by omega
      have newθ : ∀ b, b ∈ S4.θ → b ∈ Sc.θ ∨ w.heap.size ≤ b := fun b hb => by have := V4.newθ b hb; rwa [back_size] at this
      have newβ : ∀ t b, S4.β t = some b → (∃ t', Sc.β t' = some b) ∨ w.heap.size ≤ b := fun t b hb => by have := V4.newβ t b hb; rwa [back_size] at this
      have newX : ∀ b, S4.X b → Sc.X b ∨ w.heap.size ≤ b := fun b hb => by have := V4.newX b hb; rwa [back_size] at this
      have L : Lasts Sc w S4 w4 := ⟨V4.E, V4.xv, V4.θ, fun b => by rw [g34]; exact hGall b, hsz4, imm, fun b h1 h2 h3 h4 => by
        have hlt' : b < w.heap.size := Nat.lt_of_lt_of_le h1 Rc.n0
        exact ⟨⟨by rw [V4.n0.1]; exact h1, fun h => (newX b h).elim h2 (fun hge => by omega), fun h => (newθ b h).elim h3 (fun hge => by omega), fun t h => (newβ t b h).elim (fun ⟨t', h'⟩ => h4 t' h') (fun hge => by omega)⟩,
          (frame b hlt' (fun e => by omega) h3 h4 h2).1⟩⟩
      have R5 := H4.rep.low hle
      have R4 : Rep E S4 w4 σ3 := by
        rw [hS4]
        refine ⟨R5.len, R5.nodup, fun id b s hb hs => ?_, R5.θlt, R5.θX, R5.βlt, R5.βown, R5.βinj, R5.Gnew, R5.E, R5.n0, trivial, R5.X⟩
        have := RepE_keep (E := E) (T := []) (S := drop S3 (lenS σ3)) (w := w4) (S' := { drop S3 (lenS σ3) with D := Sc.D }) (w' := w4) ⟨⟨fun _ _ h => h, rfl, rfl, fun _ => Nat.le_refl _, Nat.le_refl _, .refl _ _, fun _ _ _ h => ⟨h, rfl, rfl⟩, fun _ _ h => h, fun _ _ => rfl⟩, fun _ h1 h2 h3 h4 => ⟨⟨h1, h2, h3, h4⟩, rfl⟩⟩ rfl (R5.box id b s hb hs)
        rwa [SE.demote_nil] at this
      have J4 : O.J ω3 S4 w4 := by
        rw [hS4]
        exact O.stable H4.out (.refl _) rfl rfl (Nat.le_refl _) (fun _ _ _ => ⟨rfl, rfl⟩) (.refl _ _) (fun _ => Nat.le_refl _) H4.rep.Gnew
      have hθ0 : S.θ = [] := List.eq_nil_of_length_eq_zero B.rep.len
      refine ⟨.bool j.isNone, w4, hrun, .bool j.isNone, .d .top (.bool j.isNone), ⟨j, σ3, ω3⟩, { S with G := S3.G, X := fun b => S.X b ∨ (w.heap.size ≤ b ∧ b < w4.heap.size) }, rfl, hKj, ?_, ⟨?_, rfl, by rw [hθ0]; rfl, ⟨rfl, rfl⟩, ?_⟩⟩
      · refine ⟨S4, R4, RdF_last L _ _ hok.A Fc, J4, Vc.trans V4, hl4, g34, exv, fun b hb => .inl (x0 b hb), fun b hb => ?_, fun t b hb => ?_, fun b hb => ?_⟩
        · exact (newθ b hb).elim (fun h => .inl (xθ b h)) (fun h => .inr ⟨h, (R4.θlt b hb).1⟩)
        · exact (newβ t b hb).elim (fun ⟨t', h⟩ => .inl (xβ t' b h)) (fun h => .inr ⟨h, (R4.βlt t b hb).1⟩)
        · exact (newX b hb).elim (fun h => .inl (xX b h)) (fun h => .inr ⟨h, (R4.X b hb).1⟩)
      · refine ⟨B.rep.len, B.rep.nodup, fun id b s hb hs => by simp at hs, fun b hb => ?_, fun b hb => ?_, fun t b hb => by (rw [B.β] at hb; cases hb), fun t b hb => by (rw [B.β] at hb; cases hb), B.rep.βinj, H4.rep.Gnew, Nat.le_trans B.rep.E hsz4, Nat.le_trans B.rep.n0 hsz4, trivial, fun b hb => ⟨?_, fun t => by rw [B.β]; simp⟩⟩
        · rw [hθ0] at hb; cases hb
        · rw [hθ0] at hb; cases hb
        · rcases hb with hb | hb
          · exact Nat.lt_of_lt_of_le (B.rep.X b hb).1 hsz4
          · exact hb.2
      · refine ⟨fun _ _ h => h, ⟨rfl, rfl, rfl⟩, fun _ h => .inl h, rfl, rfl, hsz4, fun b hb h1 h2 h3 _ => ?_, fun b _ => by rw [← eG]; exact hGall b, Imm.weak (by rw [← eG]; exact imm) fun _ _ => trivial, fun _ h => .inl h, fun t _ h => .inl ⟨t, h⟩, fun b hb => hb.imp id And.left, ⟨Vb4.os.1, Vb4.os.2.1, fun b o e => by
          by_cases hb : b = R.l
          · subst hb
            rw [hl] at e
            cases e
            exact ⟨_, hl4, fun _ _ _ e => by cases e⟩
          · have e' := e
            rw [← back_other (R := R) hb] at e'
            obtain ⟨o', e1, hs⟩ := Vb4.os.2.2 b o e'
            exact ⟨o', by rw [back_other hb] at e1; exact e1, hs⟩⟩⟩
        have hbl : b ≠ R.l := fun e => h3 (e ▸ x0 R.l hok.lt)
        obtain ⟨g1, g2⟩ := frame b hb hbl (fun h => h3 (xθ b h)) (fun t h => h3 (xβ t b h)) (fun h => h3 (xX b h))
        exact ⟨g1, g2.trans (by rw [eG])⟩
    cases x with
    | norm => exact fin none rfl hK3
    | ret => exact fin (some .ret) rfl hK3
    | exit id => exact fin (some (.exit id)) rfl hK3
def roundOuter (E : Env) (O : Outer E) (R : Rng) (hok : R.ok E O) : Outer E where
  Ω := RSt O.Ω
  J := R.J O
  call := R.call O
  glob := fun ⟨_, _, _, Jc, _, _, eG, _⟩ p hp => by
    have := O.glob Jc p hp
    exact ⟨this.1, by rw [← eG]; exact this.2.1, this.2.2⟩
  mono := fun h hk => ⟨h.1, h.2.1, h.2.2.1, h.2.2.2.mono fun _ _ _ h => hk _ _ h⟩
  stable := Rng.stable hok
  sound := Rng.sound hok
end
end Go.Ly
end
section
namespace Go.Ly
def ys {E : Env} (O : Outer E) (i : Nat) : List (List AV) → O.Ω → (O.Ω → Prop) → Prop
  | [], ω, K => K ω
  | x :: xs, ω, K => O.call i x ω fun r ω' => (r = .d .top (.bool true) ∧ ys O i xs ω' K) ∨ (r = .d .top (.bool false) ∧ K ω')
def IterOK (E : Env) (k : Nat) (first cap : List AV) (items : List (List AV)) : Prop :=
  ∀ (O : Outer E) (i : Nat) (ω : O.Ω) (K : O.Ω → Prop), ys O i items ω K → Fun E O k (appendL first (.ext i :: cap)) [] ω fun _ _ ω' => K ω'
def rangeItems (E : Env) (O : Outer E) (a1 b1 : AC) (ps : List Nat) (A : Fm) : List (List AV) → Sto → O.Ω → (Option Ex → Sto → O.Ω → Prop) → Prop
  | [], σ, ω, K => K none σ ω
  | x :: xs, σ, ω, K => roundA E O a1 b1 ps A x σ ω fun j σ' ω' => match j with
    | none => rangeItems E O a1 b1 ps A xs σ' ω' K
    | some e => K (some e) σ' ω'
mutual
def pureV : AV → Bool
  | .any => true
  | .d _ _ => true
  | .at _ _ _ => true
  | .ext _ => false
  | .agg cs => pureL cs
  | .tup cs => pureL cs
  | .cb cs _ => pureL cs
  | .fb _ _ => false
  | .sb _ _ cs => pureL cs
  | .cmd _ _ => true
  | .cm _ vs => pureL vs
  | .fn _ a c => pureL a && pureL c
  | .own _ _ _ _ => false
  | .uq _ _ _ _ => false
  | .up _ _ _ _ _ _ => false
  | .fresh _ _ _ => false
  | .pk _ => false
  | .mp _ => false
  | .ptr _ _ => false
def pureL : List AV → Bool
  | [] => true
  | v :: vs => pureV v && pureL vs
end
def endK {Ω : Type} (A : Fm) (K : XK Ω) (j : Option Ex) (σ : Sto) (ω : Ω) : Prop :=
  match j with
  | none => K .norm A σ ω
  | some x => K x A σ ω
section
variable {E : Env} {O : Outer E} {S S' Sc : St} {w w' w1 : World} {A : Fm} {σ : Sto} {ω : O.Ω} {a : Act}
structure SeesP (S S' : St) (w : World) : Prop where
  E : S'.E = w.heap.size
  G : ∀ b, S.G b ≤ S'.G b
theorem SeesP.grow (V : SeesP S S' w) (ep : Ep) : Grow w S.G (epB S.E ep) w S'.G (epB S'.E .old) := ⟨.refl _ _, V.G, Nat.le_refl _, fun b hb _ => by rw [V.E]; exact hb⟩
mutual
theorem pure_sees (V : SeesP S S' w) : ∀ (x : AV) (v : Value), pureV x = true → RdA E.φ S w x v → RdA E.φ S' w (oldV x) v
  | .any, _, _, _ => trivial
  | .d ep x, v, _, h => RdD_mono (V.grow ep) x v h
  | .at ep x off, v, _, h => by
    simp only [RdA, oldV] at h ⊢
    obtain ⟨b, o, y, e, hy, hc, hg⟩ := h
    exact ⟨b, o, y, e, RdD_mono (V.grow ep) x y hy, hc, Nat.le_trans hg (V.G b)⟩
  | .ext i, v, hx, _ => by simp [pureV] at hx
  | .agg cs, v, hx, h => by
    simp only [pureV] at hx
    simp only [RdA, oldV] at h ⊢
    obtain ⟨vs, e, h⟩ := h
    exact ⟨vs, e, pureAs_sees V cs vs hx h⟩
  | .tup cs, v, hx, h => by
    simp only [pureV] at hx
    simp only [RdA, oldV] at h ⊢
    obtain ⟨vs, e, h⟩ := h
    exact ⟨vs, e, pureNs_sees V cs vs hx h⟩
  | .cb cs off, v, hx, h => by
    simp only [pureV] at hx
    simp only [RdA, oldV] at h ⊢
    obtain ⟨b, vs, e, hc, hg, ho, hn⟩ := h
    exact ⟨b, vs, e, hc, Nat.le_trans hg (V.G b), noOwnL_old cs ho, pureAs_sees V cs vs hx hn⟩
  | .fb cs off, v, hx, _ => by simp [pureV] at hx
  | .sb sz n cs, v, hx, h => by
    simp only [pureV] at hx
    simp only [RdA, oldV] at h ⊢
    obtain ⟨b, cap, vs, e, h1, h2, hc, hg, ho, hn⟩ := h
    exact ⟨b, cap, vs, e, h1, by rw [oldL_len]; exact h2, hc, Nat.le_trans hg (V.G b), noOwnL_old cs ho, pureAs_sees V cs vs hx hn⟩
  | .cmd ep m, v, _, h => by
    simp only [RdA, oldV] at h ⊢
    obtain ⟨b, es, k, e, hb, hg, hm⟩ := h
    exact ⟨b, es, k, e, hb, Nat.lt_of_lt_of_le hg (V.G b), RdM_mono (V.grow ep) m _ hm⟩
  | .cm ks cs, v, hx, h => by
    simp only [pureV] at hx
    simp only [RdA, oldV] at h ⊢
    obtain ⟨b, es, k, e, hb, hg, hm⟩ := h
    exact ⟨b, es, k, e, hb, Nat.lt_of_lt_of_le hg (V.G b), pureKs_sees V cs ks _ hx hm⟩
  | .fn f x c, v, hx, h => by
    simp only [pureV, Bool.and_eq_true] at hx
    simp only [RdA, oldV] at h ⊢
    obtain ⟨va, vc, e, h1, h2⟩ := h
    exact ⟨va, vc, e, pureNs_sees V x va hx.1 h1, pureNs_sees V c vc hx.2 h2⟩
  | .own _ _ _ _, _, hx, _ => by simp [pureV] at hx
  | .uq _ _ _ _, _, hx, _ => by simp [pureV] at hx
  | .up _ _ _ _ _ _, _, hx, _ => by simp [pureV] at hx
  | .fresh _ _ _, _, hx, _ => by simp [pureV] at hx
  | .pk _, _, hx, _ => by simp [pureV] at hx
  | .mp _, _, hx, _ => by simp [pureV] at hx
  | .ptr _ _, _, hx, _ => by simp [pureV] at hx
theorem pureAs_sees (V : SeesP S S' w) : ∀ (xs : List AV) (vs : List Value), pureL xs = true → RdAs E.φ S w xs vs → RdAs E.φ S' w (oldL xs) vs
  | [], vs, _, h => by simp only [RdAs, oldL] at h ⊢; exact h
  | x :: xs, vs, hx, h => by
    simp only [pureL, Bool.and_eq_true] at hx
    simp only [RdAs, oldL] at h ⊢
    obtain ⟨v, rest, e, hn, h1, h2⟩ := h
    exact ⟨v, rest, e, notAgg_old x hn, pure_sees V x v hx.1 h1, pureAs_sees V xs rest hx.2 h2⟩
theorem pureNs_sees (V : SeesP S S' w) : ∀ (xs : List AV) (vs : List Value), pureL xs = true → RdNs E.φ S w xs vs → RdNs E.φ S' w (oldL xs) vs
  | [], vs, _, h => by simp only [RdNs, oldL] at h ⊢; exact h
  | x :: xs, vs, hx, h => by
    simp only [pureL, Bool.and_eq_true] at hx
    simp only [RdNs, oldL] at h ⊢
    obtain ⟨v, rest, e, hn, h1, h2⟩ := h
    exact ⟨v, rest, e, noOwn_old x hn, pure_sees V x v hx.1 h1, pureNs_sees V xs rest hx.2 h2⟩
theorem pureKs_sees (V : SeesP S S' w) : ∀ (xs : List AV) (ks : List D) (es : List MapEntry), pureL xs = true → RdKs E.φ S w xs ks es → RdKs E.φ S' w (oldL xs) ks es
  | [], ks, es, _, h => by simp only [RdKs, oldL] at h ⊢; exact h
  | x :: xs, ks, es, hx, h => by
    simp only [pureL, Bool.and_eq_true] at hx
    simp only [RdKs, oldL] at h ⊢
    obtain ⟨k, ks', e, rest, e1, e2, hk, h0, hn, h1, h2⟩ := h
    exact ⟨k, ks', e, rest, e1, e2, hk, RdD_key hk h0, noOwn_old x hn, pure_sees V x _ hx.1 h1, pureKs_sees V xs ks' rest hx.2 h2⟩
end
theorem calmF_wkF : ∀ A : Fm, calmF (wkF A) = true
  | [] => rfl
  | v :: l => by simp [wkF, calmF, wk_noOwn, calmF_wkF l]
theorem wkF_sound : ∀ {A : Fm} {vs : List Value}, RdF E.φ S w A vs → RdF E.φ S w (wkF A) vs
  | [], _, h => h
  | x :: A, vs, h => by
    obtain ⟨v, rest, e, h1, h2⟩ := h
    exact ⟨v, rest, e, wk_sound h1, wkF_sound h2⟩
structure Laid (ro : Option Nat) (S : St) (w : World) (l : Nat) (mark : List Deferred) (w1 : World) (r : Loop) : Prop where
  os : SameOs w w1
  old : ∀ b, b < w.heap.size → w1.heap[b]? = w.heap[b]?
  size : w.heap.size ≤ w1.heap.size
  ge : w.heap.size ≤ l
  rc : w1.heap[l]? = some (.loop r)
  mark : mark = [] ∨ ∃ d, mark = [markOf d] ∧ w.heap.size ≤ d ∧ w1.heap[d]? = some (.deferred (some []))
theorem enter_laid {P : Program} {ro : Option Nat} (hr : RoundAt ro S w) (fn : FuncId) (tmps : Array Value) (ps : Array Tmp) (ca cb : Code) :
    ∃ l mark w1 df, (Instr.enterLoop fn tmps ps ca cb ro).run P w = .ok (l, mark) w1 ∧ Laid ro S w l mark w1 { state := .ready, pending := none, fn, tmps, params := ps, assign := ca, body := cb, defers := df } := by
  cases ro with
  | none =>
    refine ⟨_, _, _, w.heap.size, run_enterLoop_outer fn tmps ps ca cb, ?_⟩
    generalize hr0 : (Loop.mk _ _ _ _ _ _ _ _) = r
    have h1 : ∀ b, b < w.heap.size → ((w.alloc (.deferred (some []))).alloc (.loop r)).heap[b]? = w.heap[b]? := fun b hb => by
      show ((w.heap.push _).push _)[b]? = _
      rw [Array.getElem?_push_lt (by simp; omega), Array.getElem_push_lt hb, Array.getElem?_eq_getElem hb]
    have h2 : ((w.alloc (.deferred (some []))).alloc (.loop r)).heap[w.heap.size + 1]? = some (.loop r) := by
      show ((w.heap.push _).push _)[w.heap.size + 1]? = _
      have : w.heap.size + 1 = (w.heap.push (Obj.deferred (some []))).size := by simp
      rw [this, Array.getElem?_push_size]
    have h3 : ((w.alloc (.deferred (some []))).alloc (.loop r)).heap[w.heap.size]? = some (.deferred (some [])) := by
      show ((w.heap.push _).push _)[w.heap.size]? = _
      rw [Array.getElem?_push_lt (by simp), Array.getElem_push_eq]
    exact ⟨.heap rfl rfl h1, h1, by rw [World.size_alloc, World.size_alloc]; omega, by omega, h2, .inr ⟨_, rfl, Nat.le_refl _, h3⟩⟩
  | some l0 =>
    obtain ⟨⟨r0, hr0⟩, _⟩ := hr l0 rfl
    refine ⟨_, _, _, r0.defers, run_enterLoop_inner hr0 fn tmps ps ca cb, ?_⟩
    generalize hr0 : (Loop.mk _ _ _ _ _ _ _ _) = r
    have h1 : ∀ b, b < w.heap.size → (w.alloc (.loop r)).heap[b]? = w.heap[b]? := fun b hb => by
      show (w.heap.push _)[b]? = _
      rw [Array.getElem?_push_lt hb, Array.getElem?_eq_getElem hb]
    exact ⟨.heap rfl rfl h1, h1, by rw [World.size_alloc]; omega, Nat.le_refl _, World.alloc_heap_new w _, .inl rfl⟩
theorem ys_of {R : Rng} (hok : R.ok E O) : ∀ (items : List (List AV)) (σ : Sto) (ω : O.Ω) {K : Option Ex → Sto → O.Ω → Prop}, (∀ x ∈ items, allD x = true ∧ len x = R.ps.toList.length) →
    rangeItems E O R.a1 R.b1 R.ps.toList R.A (items.map unkL) σ ω K → ys (roundOuter E O R hok) 0 items ⟨none, σ, ω⟩ fun rs => K rs.j rs.σ rs.ω
  | [], σ, ω, K, _, h => h
  | x :: xs, σ, ω, K, hi, h => by
    obtain ⟨h1, h2⟩ := hi x (by simp)
    refine ⟨rfl, h1, by simpa using h2, roundA.mono h fun j σ' ω' hj => ?_⟩
    cases j with
    | none => exact .inl ⟨rfl, ys_of hok xs σ' ω' (fun y hy => hi y (by simp [hy])) hj⟩
    | some e => exact .inr ⟨rfl, hj⟩
theorem put_self {l : Nat} {o : Obj} (h : w.heap[l]? = some o) : w.putObj l o = w := by
  have : w.heap.setIfInBounds l o = w.heap := by
    apply Array.ext_getElem?
    intro i
    rw [Array.getElem?_setIfInBounds]
    split
    · rename_i e
      subst e
      rw [if_pos (heap_lt h), h]
    · rfl
  simp only [World.putObj, this]
theorem rf_sound {f : AO} {ps : List Nat} {a1 b1 : AC} {K : XK O.Ω} {k : Nat} {first cap : List AV} {items : List (List AV)} (hf : f.ev A = .fn k first cap) (hp1 : pureL first = true) (hp2 : pureL cap = true)
    (hI : IterOK E k (oldL first) (oldL cap) items) (hi : ∀ x ∈ items, allD x = true ∧ len x = ps.length) (h : rangeItems E O a1 b1 ps (wkF A) (items.map unkL) σ ω (endK (wkF A) K)) : rfA E O f ps a1 b1 K A σ ω := by
  refine .mk ?_
  intro hs ro c S w a hc hr H
  cases c with
  | rangeFunc g ps' ca cb =>
    simp only [compC] at hc
    split at hc
    · rename_i f1 x1 y1 hg hca hcb
      simp only [Option.some.injEq, AC.rf.injEq] at hc
      obtain ⟨rfl, rfl, rfl, rfl⟩ := hc
      refine wpIn_rangeFunc fun fn hfn => ?_
      obtain ⟨l, mark, w1, df, hent, L⟩ := enter_laid (P := E.P) hr fn a.tmps ps' ca cb
      have hF := opnd_sound hg H.fr
      rw [hf] at hF
      simp only [RdA] at hF
      obtain ⟨va, vc, hfe, r1, r2⟩ := hF
      have H1 : Here E O S w1 ω σ A a := here_foreign H L.os L.size fun b hb => .inl (L.old b hb)
      have hlt : l < w1.heap.size := heap_lt L.rc
      obtain ⟨R, hR⟩ : ∃ R : Rng, R = { hs := hs, l := l, ca := ca, cb := cb, a1 := x1, b1 := y1, ps := ps', A := wkF A, tmps := a.tmps, fn := fn, df := df, S0 := S, w0 := w1 } := ⟨_, rfl⟩
      have hok : R.ok E O := by
        subst hR
        exact ⟨hca, hcb, calmF_wkF A, hlt, fun hm => by have := (H.rep.θlt l hm).1; have := L.ge; omega, fun t ht => by have := (H.rep.βlt t l ht).1; have := L.ge; omega, fun hX => by have := (H.rep.X l hX).1; have := L.ge; omega, Nat.le_trans H.rep.n0 L.ge⟩
      have hback : R.back w1 = w1 := by
        subst hR
        exact put_self L.rc
      have hJ : R.J O ⟨none, σ, ω⟩ { θ := [], β := fun _ => none, ln := S.ln, G := S.G, E := w1.heap.size, D := w1.heap.size, L := fun _ => False, n0 := w1.heap.size, X := fun b => b < w1.heap.size, xv := [.func (.yield l) #[] #[]] } w1 := by
        refine ⟨S, H1.rep, ?_, H1.out, ?_, ?_, rfl, ?_, ?_, fun b hb => (H1.rep.θlt b hb).1, fun t b hb => (H1.rep.βlt t b hb).1, fun b hb => (H1.rep.X b hb).1⟩
        · subst hR; exact wkF_sound H1.fr
        · rw [hback]; subst hR; exact Ev.refl S w1
        · subst hR; exact L.rc
        · subst hR; rfl
        · subst hR; exact fun b hb => hb
      have V : SeesP S { θ := [], β := fun _ => none, ln := S.ln, G := S.G, E := w1.heap.size, D := w1.heap.size, L := fun _ => False, n0 := w1.heap.size, X := fun b => b < w1.heap.size, xv := [.func (.yield l) #[] #[]] } w1 := ⟨rfl, fun _ => Nat.le_refl _⟩
      have hF1 := opnd_sound hg H1.fr
      rw [hf] at hF1
      simp only [RdA] at hF1
      obtain ⟨va', vc', hfe', q1, q2⟩ := hF1
      rw [hfe] at hfe'
      cases hfe'
      have hB : Begins E { θ := [], β := fun _ => none, ln := S.ln, G := S.G, E := w1.heap.size, D := w1.heap.size, L := fun _ => False, n0 := w1.heap.size, X := fun b => b < w1.heap.size, xv := [.func (.yield l) #[] #[]] } w1 []
          (appendL (oldL first) (.ext 0 :: oldL cap)) (va ++ .func (.yield l) #[] #[] :: vc) := by
        refine ⟨⟨rfl, List.nodup_nil, fun id b s hb _ => (by simp at hb), fun b hb => (by simp at hb), fun b hb => (by simp at hb), fun t b hb => (by cases hb), fun t b hb => (by cases hb), fun t t' b hb => (by cases hb), H1.rep.Gnew, Nat.le_refl _, Nat.le_refl _, trivial, fun b hb => ⟨hb, fun t => by simp⟩⟩,
          fun _ => rfl, rfl, rfl, rfl, ?_⟩
        rw [appendL_eq]
        refine RdNs_append (pureNs_sees V first va hp1 q1) ?_
        simp only [RdNs]
        exact ⟨_, _, rfl, rfl, by simp only [RdA]; exact ⟨rfl, _, _, _, rfl⟩, pureNs_sees V cap vc hp2 q2⟩
      have hys := ys_of hok items σ ω (K := endK (wkF A) K) (by subst hR; exact hi) (by subst hR; exact h)
      obtain ⟨hb, hcall⟩ := hI (roundOuter E O R hok) 0 ⟨none, σ, ω⟩ (fun rs => endK (wkF A) K rs.j rs.σ rs.ω) hys
      have hcalls := hcall _ w1 _ hB hJ
      have hround : (fence ro).round = ro := rfl
      refine ⟨l, mark, w1, { target := .fn (.func (E.φ k)) ⟨vc⟩, args := ⟨va⟩ ++ #[.func (.yield l) #[] #[]] }, w1, E.φ k, ⟨va ++ .func (.yield l) #[] #[] :: vc⟩, w1, by rw [hround]; exact hent, ?_, fun _ _ => trivial, ?_, fun h => (by cases h), ?_⟩
      · simp only [resolve, rangeCall, hfe]
        simp [Deferred.ofValue, Sem.run_pure, Act.eval]
      · simp only [invoke]
        rw [run_callFunc hb]
        congr 2
        apply Array.ext'
        simp
      · refine (calls_fence (ro := ro) hcalls).mono ?_
        rintro e w3 ⟨v, r, σ', rs', S', rfl, hK, hJ', hL⟩
        obtain ⟨Sc, Rc, Fc, Jc, Vc, hl, eG, exv, x0, xθ, xβ, xX⟩ := hJ'
        obtain ⟨a1', a2', a3', a4', a5'⟩ := Rng.apart hok Vc
        have el : R.l = l := by subst hR; rfl
        rw [el] at hl a1' a2' a3' a4' a5'
        have hnb : (R.entry false rs'.j).state ≠ .busy := by
          simp only [Rng.entry]
          cases rs'.j <;> simp
        have hpend : (R.entry false rs'.j).pending = pend rs'.j := rfl
        obtain ⟨w4, hw4⟩ : ∃ w4, w4 = w3.putObj l (.loop { R.entry false rs'.j with state := .exhausted }) := ⟨_, rfl⟩
        have o4 : ∀ b, b ≠ l → w4.heap[b]? = w3.heap[b]? := fun b hb => by rw [hw4]; exact World.putObj_heap_other hb
        have s4 : w4.heap.size = w3.heap.size := by rw [hw4, World.putObj_size]
        have ob : ∀ b, b ≠ l → (R.back w3).heap[b]? = w4.heap[b]? := fun b hb => by rw [o4 b hb]; exact back_other (by rw [el]; exact hb)
        have hfo : Foreign Sc w3 l := ⟨a1', a2', a3', a4', noC_loop hl⟩
        obtain ⟨K4, R4, hx4⟩ := foreign_step (w' := w4) Rc (by omega) fun b hb => by
          by_cases hbl : b = l
          · exact .inr (hbl ▸ hfo)
          · exact .inl (o4 b hbl)
        have e1 : R.S0 = S := by subst hR; rfl
        have e2 : R.w0 = w1 := by subst hR; rfl
        have e3 : R.A = wkF A := by subst hR; rfl
        have e4 : R.tmps = a.tmps := by subst hR; rfl
        rw [e1, e2] at Vc
        rw [e3, e4] at Fc
        have F4 : RdF E.φ Sc w4 (wkF A) a.tmps.toList := by
          have := RdF_keep K4 _ _ Fc
          rwa [demoteA_nil] at this
        have J4 : O.J rs'.ω Sc w4 := O.stable Jc (by rw [hw4]; exact .putObj hl fun _ _ _ e => by cases e) rfl rfl (by omega) hx4 K4.imm (fun _ => Nat.le_refl _) R4.Gnew
        have M1 : Marks S w1 (mark ++ a.defers) := by
          obtain ⟨ms, hds, hnd, hms⟩ := H.marks
          have old : ∀ r ∈ ms, w1.heap[r]? = some (.deferred (some [])) ∧ r ∉ S.θ ∧ (∀ t, S.β t ≠ some r) ∧ ¬ S.X r ∧ S.n0 ≤ r := fun r hr => by
            obtain ⟨g1, g2⟩ := hms r hr
            exact ⟨(L.old r (heap_lt g1)).trans g1, g2⟩
          rcases L.mark with hm | ⟨d, hm, hd, hh⟩
          · rw [hm, List.nil_append]
            exact ⟨ms, hds, hnd, old⟩
          · refine ⟨d :: ms, by rw [hm, hds]; rfl, List.nodup_cons.2 ⟨fun h => by have := heap_lt (hms d h).1; omega, hnd⟩, fun r hr => ?_⟩
            simp only [List.mem_cons] at hr
            rcases hr with rfl | hr
            · exact ⟨hh, fun hm => by have := (H.rep.θlt _ hm).1; omega, fun t ht => by have := (H.rep.βlt t _ ht).1; omega, fun hX => by have := (H.rep.X _ hX).1; omega, Nat.le_trans H.rep.n0 hd⟩
            · exact old r hr
        have M4 : Marks Sc w4 (mark ++ a.defers) := by
          obtain ⟨ms, hds, hnd, hms⟩ := M1.ev Vc
          refine ⟨ms, hds, hnd, fun r hr => ?_⟩
          obtain ⟨g1, g2⟩ := hms r hr
          have hne : r ≠ l := fun e => by
            subst e
            have hx : (R.back w3).heap[r]? = some (.loop (R.entry false none)) := by
              have := back_l (R := R) (w := w3) (by rw [el]; exact a5')
              rwa [el] at this
            rw [hx] at g1
            cases g1
          exact ⟨(ob r hne).symm.trans g1, g2⟩
        have H4 : Here E O Sc w4 rs'.ω rs'.σ (wkF A) { a with defers := mark ++ a.defers } := ⟨R4, F4, M4, J4⟩
        have sz3 : w1.heap.size ≤ w3.heap.size := by
          have := Vc.size
          rwa [back_size] at this
        have V4 : Ev S w Sc w4 := by
          refine ⟨Vc.θ, Vc.n0, Vc.X, Vc.E, Vc.xv, by have := L.size; omega, fun b hb g1 g2 g3 g4 => ?_, Vc.G, ?_, fun b hb => (Vc.newθ b hb).imp id fun h => Nat.le_trans L.size h, fun t b hb => (Vc.newβ t b hb).imp id fun h => Nat.le_trans L.size h,
            fun b hb => (Vc.newX b hb).imp id fun h => Nat.le_trans L.size h, L.os.trans (SameOs.trans Vc.os (.turn (b := l) (by rw [hw4]; rfl) (by rw [hw4]; rfl) (by have := back_l (R := R) (w := w3) (by rw [el]; exact a5'); rwa [el] at this) (by rw [hw4]; exact World.putObj_heap_same a5') (fun _ _ _ e => by cases e) fun c _ hc => (ob c hc).symm))⟩
          · have hbl : b ≠ l := fun e => by have := L.ge; omega
            obtain ⟨k1, k2⟩ := Vc.frame b (Nat.lt_of_lt_of_le hb L.size) g1 g2 g3 (g4.imp id fun h => h.same (L.old b hb))
            exact ⟨(ob b hbl).symm.trans (k1.trans (L.old b hb)), k2⟩
          · have i1 : Imm (· < S.D) w S.G w1 := imm_old L.old
            have i2 := i1.trans Vc.imm fun b _ => Nat.le_refl _
            refine ⟨fun b i v hQ hi hc => ?_, fun b es k' hQ hi hc => ?_⟩
            · have hbl : b ≠ l := fun e => by have := L.ge; have := cell_lt hc; omega
              have := i2.cell b i v hQ hi hc
              rw [cell_same (ob b hbl).symm]
              exact this
            · have hbl : b ≠ l := fun e => by have := L.ge; have := heap_lt hc; omega
              have := i2.map b es k' hQ hi hc
              rw [← ob b hbl]
              exact this
        refine ⟨pend rs'.j, w4, ?_, ?_⟩
        · rw [hw4, ← hpend]
          exact run_endLoop hl hnb
        · generalize rs'.j = j at hK
          cases j with
          | none => exact ⟨.norm, wkF A, rs'.σ, rs'.ω, Sc, rfl, hK, H4, V4⟩
          | some x =>
            cases x with
            | norm => exact ⟨.norm, wkF A, rs'.σ, rs'.ω, Sc, rfl, hK, H4, V4⟩
            | ret => exact wpIn_ret ⟨.ret, wkF A, rs'.σ, rs'.ω, Sc, rfl, hK, H4, V4⟩
            | exit id => exact wpIn_exit ⟨.exit id, wkF A, rs'.σ, rs'.ω, Sc, rfl, hK, H4, V4⟩
    · cases hc
  | region id ops d =>
    simp only [compC, compRegion] at hc
    repeat' split at hc
    all_goals simp at hc
  | _ =>
    simp only [compC] at hc
    repeat' split at hc
    all_goals simp at hc
end
end Go.Ly
end
section
namespace Go.Ly
open Classical
def elD (P : Program) (e : TypeId) (ds : List D) : D :=
  match P.underlying e with
  | some (.struct _) => .agg ds
  | _ => ds.headD .np
def Fits (P : Program) : Nat → TypeId → List D → Prop
  | 0, _, _ => False
  | n + 1, t, ds =>
    match P.underlying t with
    | some .bool => ∃ b, ds = [.bool b]
    | some (.int k) => ∃ m, ds = [.int k m] ∧ (Lit.int k m).wf = true
    | some .string => ∃ s, ds = [.str s] ∧ s.length ≤ maxLen
    | some (.slice e) => ∃ es : List (List D), ds = [.row (P.cellsOf e) (es.map (elD P e))] ∧ es.length ≤ maxLen ∧ ∀ x ∈ es, Fits P n e x
    | some (.struct fs) => ∃ xs : List (List D), ds = xs.flatten ∧ xs.length = fs.size ∧ ∀ (i : Nat) (f : Field) (x : List D), fs[i]? = some f → xs[i]? = some x → Fits P n f.type x
    | _ => False
def inOrd (P : Program) : List Field → Nat → Nat → Bool
  | [], k, m => k == m
  | f :: fs, k, m => (f.offset == k) && inOrd P fs (k + P.cellsOf f.type) m
def okTs (P : Program) (Ts : List TypeId) : Bool :=
  Ts.all fun t =>
    match P.underlying t with
    | some .bool => true
    | some (.int _) => true
    | some .string => true
    | some (.slice e) => Ts.contains e && decide (0 < P.cellsOf e)
    | some (.struct fs) => inOrd P fs.toList 0 (P.cellsOf t) && fs.toList.all fun f => Ts.contains f.type
    | _ => false
theorem RdDs_cat {w : World} {G : Nat → Nat} {B : Nat → Prop} : ∀ {a b : List D} {u v : List Value}, RdDs w G B a u → RdDs w G B b v → RdDs w G B (a ++ b) (u ++ v)
  | [], _, _, _, h, h' => by
    simp only [RdDs] at h
    subst h
    exact h'
  | x :: a, b, u, v, h, h' => by
    simp only [RdDs] at h
    obtain ⟨y, rest, rfl, h1, h2⟩ := h
    simp only [List.cons_append, RdDs]
    exact ⟨y, rest ++ v, rfl, h1, RdDs_cat h2 h'⟩
theorem dOnes_cat : ∀ {a b : List D}, dOnes a = true → dOnes b = true → dOnes (a ++ b) = true
  | [], _, _, h' => h'
  | x :: a, b, h, h' => by
    simp only [dOnes] at h
    split at h
    · rename_i hx
      simp only [List.cons_append, dOnes, hx]
      exact dOnes_cat h h'
    · cases h
section
variable {H : Type} {enc : TypeId × Value → H} {P : Program} {w w' : World} {sp : Nat → Bool} {held : Bool} {Ts : List TypeId}
theorem okTs_at (h : okTs P Ts = true) {t : TypeId} (ht : t ∈ Ts) : (match P.underlying t with
    | some .bool => true
    | some (.int _) => true
    | some .string => true
    | some (.slice e) => Ts.contains e && decide (0 < P.cellsOf e)
    | some (.struct fs) => inOrd P fs.toList 0 (P.cellsOf t) && fs.toList.all fun f => Ts.contains f.type
    | _ => false) = true := by
  unfold okTs at h
  rw [List.all_eq_true] at h
  exact h t ht
theorem cells_get {a : Addr} {n : Nat} {cs : List Value} (h : w.cells? 0 a n = some cs) : cs.length = n ∧ ∀ i, i < n → w.cell? (a.add i) = cs[i]? := by
  unfold World.cells? at h
  rw [if_pos (Nat.zero_le _)] at h
  exact ⟨by simpa using mapM_some_length h, fun i hi => mapM_some_get h i i (by simp [hi])⟩
theorem mapM_congr {α β : Type} {f g : α → Option β} : ∀ {l : List α}, (∀ x ∈ l, f x = g x) → l.mapM f = l.mapM g
  | [], _ => rfl
  | x :: l, h => by
    rw [List.mapM_cons, List.mapM_cons, h x (by simp), mapM_congr fun y hy => h y (by simp [hy])]
theorem cells_same {a : Addr} {n : Nat} {cs : List Value} (hs : ∀ b, b < w.heap.size → w'.heap[b]? = w.heap[b]?) (h : w.cells? 0 a n = some cs) : w'.cells? 0 a n = some cs := by
  unfold World.cells? at h ⊢
  rw [if_pos (Nat.zero_le _)] at h ⊢
  rw [← h]
  refine mapM_congr fun i hi => ?_
  have h1 : ∃ v, w.cell? (a.add i) = some v := by
    obtain ⟨k, hk, he⟩ := List.getElem_of_mem hi
    have := mapM_some_get h k i (by rw [List.getElem?_eq_getElem hk, he])
    rw [List.getElem?_eq_getElem (by rw [mapM_some_length h]; exact hk)] at this
    exact ⟨_, this⟩
  obtain ⟨v, hv⟩ := h1
  have hb : (a.add i).block < w.heap.size := by
    unfold World.cell? at hv
    split at hv
    · rename_i hh
      exact heap_lt hh
    · cases hv
  unfold World.cell?
  rw [hs _ hb]
theorem trod_same (hT : okTs P Ts = true) (hs : ∀ b, b < w.heap.size → w'.heap[b]? = w.heap[b]?) (hsp : ∀ b, b < w.heap.size → sp b = true) : ∀ (fuel : Nat) (t : TypeId) (cs : List Value) (x : DataW H × List MemPlace), t ∈ Ts →
    DataW.trod enc P w 0 (fun _ => true) held fuel t cs = some x → DataW.trod enc P w' 0 sp held fuel t cs = some x
  | 0, t, cs, x, _, h => by simp [DataW.trod] at h
  | fuel + 1, t, cs, x, ht, h => by
    have ho := okTs_at hT ht
    split at ho
    · rename_i hu
      obtain ⟨b, rfl, rfl⟩ := DataW.trod_bool hu h
      simp [DataW.trod, hu]
    · rename_i k hu
      obtain ⟨m, rfl, rfl, hw⟩ := DataW.trod_int hu h
      simp [DataW.trod, hu, hw]
    · rename_i hu
      obtain ⟨s, rfl, rfl, hl⟩ := DataW.trod_string hu h
      simp [DataW.trod, hu, hl]
    · rename_i e hu
      simp only [Bool.and_eq_true, decide_eq_true_eq, List.contains_iff_mem] at ho
      obtain ⟨he, hsz⟩ := ho
      rcases DataW.trod_slice hu h with ⟨rfl, rfl⟩ | ⟨a, len, cap, elems, rest, n, hn, rfl, rfl, hb, hlc, hcm, hel, hget, hrest, _⟩
      · simp [DataW.trod, hu]
      · simp only [Nat.add_right_cancel_iff] at hn
        subst hn
        obtain ⟨hrl, hrg⟩ := hrest rfl
        have step : ∀ (i : Nat) (y : DataW H × List MemPlace), (w.cells? 0 (a.add (i * P.cellsOf e)) (P.cellsOf e)).bind (DataW.trod enc P w 0 (fun _ => true) held fuel e) = some y →
            (w'.cells? 0 (a.add (i * P.cellsOf e)) (P.cellsOf e)).bind (DataW.trod enc P w' 0 sp held fuel e) = some y := by
          intro i y hy
          rw [Option.bind_eq_some_iff] at hy
          obtain ⟨cs, h1, h2⟩ := hy
          rw [cells_same hs h1, Option.bind_some]
          exact trod_same hT hs hsp fuel e cs y he h2
        have m1 : (List.range len).mapM (fun i => (w'.cells? 0 (a.add (i * P.cellsOf e)) (P.cellsOf e)).bind (DataW.trod enc P w' 0 sp held fuel e)) = some elems := by
          have := mapM_of_get (f := fun i => (w'.cells? 0 (a.add (i * P.cellsOf e)) (P.cellsOf e)).bind (DataW.trod enc P w' 0 sp held fuel e)) (l := List.range len) (r := elems) (by simp [hel]) fun i x hx y hy => by
            rw [List.getElem?_range (by have := (List.getElem?_eq_some_iff.1 hx).1; simpa using this), Option.some.injEq] at hx
            subst hx
            have hi : i < len := by rw [← hel]; exact (List.getElem?_eq_some_iff.1 hy).1
            exact step i y ((hget i hi).trans hy)
          exact this
        have m2 : (if sp a.block then (List.range (cap - len)).mapM (fun j => (w'.cells? 0 (a.add ((len + j) * P.cellsOf e)) (P.cellsOf e)).bind (DataW.trod enc P w' 0 sp held fuel e)) else some []) = some rest := by
          have m3 : (List.range (cap - len)).mapM (fun j => (w'.cells? 0 (a.add ((len + j) * P.cellsOf e)) (P.cellsOf e)).bind (DataW.trod enc P w' 0 sp held fuel e)) = some rest :=
            mapM_of_get (by simp [hrl]) fun i x hx y hy => by
              rw [List.getElem?_range (by have := (List.getElem?_eq_some_iff.1 hx).1; simpa using this), Option.some.injEq] at hx
              subst hx
              have hi : i < cap - len := by rw [← hrl]; exact (List.getElem?_eq_some_iff.1 hy).1
              exact step (len + i) y ((hrg i hi).trans hy)
          split
          · exact m3
          · rename_i hns
            rcases Nat.eq_zero_or_pos (cap - len) with hz | hp
            · rw [hz] at hrl
              rw [List.eq_nil_of_length_eq_zero hrl]
            · have hg := hrg 0 hp
              rw [List.getElem?_eq_getElem (by omega), Option.bind_eq_some_iff] at hg
              obtain ⟨cs, h1, _⟩ := hg
              have hlt := World.cells?_block h1 hsz
              have hbl : (a.add ((len + 0) * P.cellsOf e)).block = a.block := by unfold Addr.add; split <;> rfl
              rw [hbl] at hlt
              rw [hsp _ hlt] at hns
              exact absurd rfl hns
        unfold DataW.trod
        simp only [hu, if_pos (⟨hb, hlc, hcm⟩ : 0 ≤ a.block ∧ len ≤ cap ∧ cap ≤ maxLen), m1, Option.bind_some, m2, Option.map_some]
    · rename_i fs hu
      simp only [Bool.and_eq_true, List.all_eq_true, List.contains_iff_mem] at ho
      obtain ⟨hord, hin⟩ := ho
      obtain ⟨xs, n, hn, rfl, hl, hxl, hget⟩ := DataW.trod_struct hu h
      simp only [Nat.add_right_cancel_iff] at hn
      subst hn
      have m1 : fs.toList.mapM (fun f => DataW.trod enc P w' 0 sp held fuel f.type ((cs.drop f.offset).take (P.cellsOf f.type))) = some xs :=
        mapM_of_get (by simpa using hxl) fun i f hf y hy => by
          have hfm := List.mem_of_getElem? hf
          rw [Array.getElem?_toList] at hf
          exact trod_same hT hs hsp fuel f.type _ y (hin f hfm) ((hget i f hf).trans hy)
      unfold DataW.trod
      simp only [hu]
      rw [if_pos hl, m1]
      rfl
    · cases ho
where
  mapM_of_get {α β : Type} {f : α → Option β} : ∀ {l : List α} {r : List β}, r.length = l.length → (∀ (i : Nat) (x : α), l[i]? = some x → ∀ y, r[i]? = some y → f x = some y) → l.mapM f = some r
  | [], [], _, _ => rfl
  | x :: l, y :: r, hl, h => by
    rw [List.mapM_cons, h 0 x rfl y rfl, mapM_of_get (by simpa using hl) fun i x' hx y' hy => h (i + 1) x' hx y' hy]
    rfl
  | [], _ :: _, hl, _ => by simp at hl
  | _ :: _, [], hl, _ => by simp at hl
end
end Go.Ly
end
section
namespace Go.Ly
open Classical Go.WideShapes
def ArgsFit (P : Program) : List TypeId → List D → Prop
  | [], [] => True
  | t :: ts, x :: xs => (∃ n ds, Fits P n t ds ∧ x = elD P t ds) ∧ ArgsFit P ts xs
  | _, _ => False
def oldD1 (x : D) : AV := .d .old x
section
variable {H : Type} {enc : TypeId × Value → H} {P : Program} {w w' : World} {sp : Nat → Bool} {held : Bool} {Ts : List TypeId}
theorem fits_one {n : Nat} {t : TypeId} {ds : List D} (h : Fits P n t ds) (hns : ∀ fs, P.underlying t ≠ some (.struct fs)) : ∃ d, ds = [d] := by
  cases n with
  | zero => exact h.elim
  | succ n =>
    unfold Fits at h
    split at h
    · obtain ⟨_, rfl⟩ := h; exact ⟨_, rfl⟩
    · obtain ⟨_, rfl, _⟩ := h; exact ⟨_, rfl⟩
    · obtain ⟨_, rfl, _⟩ := h; exact ⟨_, rfl⟩
    · obtain ⟨_, rfl, _⟩ := h; exact ⟨_, rfl⟩
    · rename_i fs hu; exact absurd hu (hns fs)
    · exact h.elim
theorem args_same (hT : okTs P Ts = true) (hs : ∀ b, b < w.heap.size → w'.heap[b]? = w.heap[b]?) (hsp : ∀ b, b < w.heap.size → sp b = true) : ∀ {ts : List TypeId} {vs : List Value} {ds : List (DataW H)} {ps : List MemPlace}, (∀ t ∈ ts, t ∈ Ts) →
    DataW.TrodAll enc P w 0 (fun _ => true) held ts vs ds ps → DataW.TrodAll enc P w' 0 sp held ts vs ds ps
  | [], [], [], _, _, h => h
  | t :: ts, v :: vs, d :: ds, ps, hts, h => by
    obtain ⟨p, q, ⟨fuel, h1⟩, h2, h3⟩ := h
    exact ⟨p, q, ⟨fuel, trod_same hT hs hsp fuel t _ _ (hts t (by simp)) h1⟩, args_same hT hs hsp (fun t ht => hts t (by simp [ht])) h2, h3⟩
  | [], _ :: _, _, _, _, h => by simp [DataW.TrodAll] at h
  | [], [], _ :: _, _, _, h => by simp [DataW.TrodAll] at h
  | _ :: _, [], _, _, _, h => by simp [DataW.TrodAll] at h
  | _ :: _, _ :: _, [], _, _, h => by simp [DataW.TrodAll] at h
theorem cells_size {b : Nat} {vs : List Value} (h : cellsAt w b 0 vs) : vs.length ≤ sizeAt w b := by
  rcases Nat.eq_zero_or_pos vs.length with hz | hp
  · omega
  · have hc := h (vs.length - 1) _ (List.getElem?_eq_getElem (by omega))
    unfold World.cell? at hc
    unfold sizeAt
    split at hc
    · rename_i c _ _ hh
      simp only at hh
      rw [hh]
      simp only [Option.isSome_none, Bool.false_eq_true, if_false] at hc
      rcases Nat.lt_or_ge (0 + (vs.length - 1)) c.size with h' | h'
      · simp only; omega
      · rw [Array.getElem?_eq_none h'] at hc; cases hc
    · cases hc
theorem kept_of (ho : SameOs w w') (hs : ∀ b, b < w.heap.size → w'.heap[b]? = w.heap[b]?) (may : MemPlace → Prop) : w.keptBut w' may := by
  refine ⟨ho.1, ho.2.1, fun i hi => ?_⟩
  rw [hs i hi]
  split
  · rename_i h1 h2
    rw [h1] at h2
    cases h2
    exact ⟨rfl, rfl, rfl, fun _ _ => rfl⟩
  · rename_i h1 h2
    rw [h1] at h2
    cases h2
    exact .inr ⟨rfl, rfl⟩
  · rfl
end
end Go.Ly
end
section
namespace Go.Ly.Tr
noncomputable def E : Env := ⟨Go.Proofs.Tryz.prog, fun k => k, some, fun f k h => by cases h; rfl, [(0, Lib.pow10Tab.map fun z => Value.int .u64 z)]⟩
def qi (d : Nat) (o : AOp) : AI := ⟨some d, o, none⟩
def qg (d g : Nat) (o : AOp) : AI := ⟨some d, o, some (g, false)⟩
def qh (d g : Nat) (o : AOp) : AI := ⟨some d, o, some (g, true)⟩
def qm (d t : Nat) : AI := ⟨some d, .mv (.s t), none⟩
def qk (d f : Nat) (xs : List AO) : AI := ⟨some d, .call false (.c (.fn f [] [])) xs, none⟩
def ql (d t n : Nat) : AI := ⟨some d, .ld (.s t) n true, none⟩
def qv (d t : Nat) : AI := ⟨some d, .ld (.s t) 1 false, none⟩
def qf (d x o : Nat) : AI := ⟨some d, .fa (.s x) o, none⟩
def qa (d x y n : Nat) : AI := ⟨some d, .ia (.s x) (.s y) n, none⟩
def qe (d x k : Nat) : AI := ⟨some d, .ext (.s x) k, none⟩
def qt (a x n : Nat) : AI := ⟨none, .st (.s a) (.s x) n, none⟩
def qr (l : List AI) : AC := .rg false l
def qd (l : List AI) : AC := .rg true l
def qz (n : Int) : AO := .c (.d .top (.int .i64 n))
def qu (n : Int) : AO := .c (.d .top (.int .u8 n))
def qs (l : List UInt8) : AO := .c (.d .top (.str l))
def qT : AO := .c (.d .top (.bool true))
def qF : AO := .c (.d .top (.bool false))
def qA : AOp := .alloc [.int .u8 0, .str [], .row 3 [], .row 4 []]
def qB : AOp := .alloc [.bool false, .str [], .row 3 []]
end Go.Ly.Tr
end
section
namespace Go.Ly.Tr
abbrev Nm := List UInt8
def opI (o : UInt8) : Int := o.toNat
inductive Tm where
  | mk (var : Bool) (name : Nm) (args : List Tm)
inductive Frm where
  | mk (op : UInt8) (name : Nm) (args : List Tm) (sub : List Frm)
mutual
def Tm.d : Tm → D
  | .mk v n us => .agg [.bool v, .str n, .row 3 (Tm.ds us)]
def Tm.ds : List Tm → List D
  | [] => []
  | t :: ts => t.d :: Tm.ds ts
end
mutual
def Frm.d : Frm → D
  | .mk o n us fs => .agg [.int .u8 (opI o), .str n, .row 3 (Tm.ds us), .row 4 (Frm.ds fs)]
def Frm.ds : List Frm → List D
  | [] => []
  | t :: ts => t.d :: Frm.ds ts
end
theorem Tm.ds_eq : ∀ l : List Tm, Tm.ds l = l.map Tm.d
  | [] => rfl
  | t :: ts => by simp [Tm.ds, Tm.ds_eq ts]
theorem Frm.ds_eq : ∀ l : List Frm, Frm.ds l = l.map Frm.d
  | [] => rfl
  | t :: ts => by simp [Frm.ds, Frm.ds_eq ts]
def Tm.size : Tm → Nat
  | .mk _ _ us => sizes us + 1
where sizes : List Tm → Nat
  | [] => 0
  | t :: ts => t.size + sizes ts
def Frm.size : Frm → Nat
  | .mk _ _ us fs => Tm.size.sizes us + sizes fs + 1
where sizes : List Frm → Nat
  | [] => 0
  | t :: ts => t.size + sizes ts
theorem Tm.size_mem : ∀ {l : List Tm} {t : Tm}, t ∈ l → t.size ≤ Tm.size.sizes l
  | a :: l, t, h => by
    simp only [List.mem_cons] at h
    simp only [Tm.size.sizes]
    rcases h with rfl | h
    · omega
    · have := Tm.size_mem h; omega
theorem Frm.size_mem : ∀ {l : List Frm} {t : Frm}, t ∈ l → t.size ≤ Frm.size.sizes l
  | a :: l, t, h => by
    simp only [List.mem_cons] at h
    simp only [Frm.size.sizes]
    rcases h with rfl | h
    · omega
    · have := Frm.size_mem h; omega
theorem Tm.len_size : ∀ l : List Tm, l.length ≤ Tm.size.sizes l
  | [] => Nat.le_refl _
  | .mk _ _ _ :: l => by
    have := Tm.len_size l
    simp only [List.length_cons, Tm.size.sizes, Tm.size]
    omega
theorem Frm.len_size : ∀ l : List Frm, l.length ≤ Frm.size.sizes l
  | [] => Nat.le_refl _
  | .mk _ _ _ _ :: l => by
    have := Frm.len_size l
    simp only [List.length_cons, Frm.size.sizes, Frm.size]
    omega
theorem Tm.ind {P : Tm → Prop} (h : ∀ v n us, (∀ a ∈ us, P a) → P (.mk v n us)) (t : Tm) : P t := by
  have : ∀ n (t : Tm), t.size ≤ n → P t := by
    intro n
    induction n with
    | zero => intro t ht; cases t; simp [Tm.size] at ht
    | succ n ih =>
      intro t ht
      obtain ⟨v, nm, us⟩ := t
      simp only [Tm.size] at ht
      exact h v nm us fun a ha => ih a (by have := Tm.size_mem ha; omega)
  exact this _ t (Nat.le_refl _)
theorem Frm.ind {P : Frm → Prop} (h : ∀ o n us fs, (∀ a ∈ fs, P a) → P (.mk o n us fs)) (t : Frm) : P t := by
  have : ∀ n (t : Frm), t.size ≤ n → P t := by
    intro n
    induction n with
    | zero => intro t ht; cases t; simp [Frm.size] at ht
    | succ n ih =>
      intro t ht
      obtain ⟨o, nm, us, fs⟩ := t
      simp only [Frm.size] at ht
      exact h o nm us fs fun a ha => ih a (by have := Frm.size_mem ha; omega)
  exact this _ t (Nat.le_refl _)
variable {α : Type} {g : α → D} {p : Prims} {es d d' r : List α} {e : α}
theorem at_ltM (hp : std = p) (h : es = d ++ e :: r) : p.lt (p.dlen (d.map g)) (p.dlen (es.map g)) = true := by
  subst hp h
  simp [std]
  omega
theorem end_ltM (hp : std = p) (es : List α) : p.lt (p.dlen (es.map g)) (p.dlen (es.map g)) = false := by
  subst hp
  simp [std]
theorem at_getM (hp : std = p) (h : es = d ++ e :: r) : p.dget (es.map g) (p.dlen (d.map g)) = some (g e) := by
  subst hp h
  simp [std]
section
variable {p : Prims} {l d d' r : List Tm} {v : Bool} {n : Nm} {us : List Tm} {e : Tm}
theorem at_ltT (hp : std = p) (h : l = d ++ e :: r) : p.lt (p.dlen (Tm.ds d)) (p.dlen (Tm.ds l)) = true := by rw [Tm.ds_eq, Tm.ds_eq]; exact at_ltM hp h
theorem end_ltT (hp : std = p) (l : List Tm) : p.lt (p.dlen (Tm.ds l)) (p.dlen (Tm.ds l)) = false := by rw [Tm.ds_eq]; exact end_ltM hp l
theorem at_getT (hp : std = p) (h : l = d ++ .mk v n us :: r) : p.dget (Tm.ds l) (p.dlen (Tm.ds d)) = some (.agg [.bool v, .str n, .row 3 (Tm.ds us)]) := by rw [Tm.ds_eq, Tm.ds_eq, at_getM hp h, Tm.d]
theorem Tm.ds_len (l : List Tm) : (Tm.ds l).length = l.length := by rw [Tm.ds_eq, List.length_map]
theorem Tm.ds_app (a b : List Tm) : Tm.ds (a ++ b) = Tm.ds a ++ Tm.ds b := by simp [Tm.ds_eq]
end
section
variable {p : Prims} {l d d' r : List Frm} {o : UInt8} {n : Nm} {us : List Tm} {fs : List Frm} {e : Frm}
theorem at_ltF (hp : std = p) (h : l = d ++ e :: r) : p.lt (p.dlen (Frm.ds d)) (p.dlen (Frm.ds l)) = true := by rw [Frm.ds_eq, Frm.ds_eq]; exact at_ltM hp h
theorem end_ltF (hp : std = p) (l : List Frm) : p.lt (p.dlen (Frm.ds l)) (p.dlen (Frm.ds l)) = false := by rw [Frm.ds_eq]; exact end_ltM hp l
theorem at_getF (hp : std = p) (h : l = d ++ .mk o n us fs :: r) : p.dget (Frm.ds l) (p.dlen (Frm.ds d)) = some (.agg [.int .u8 (opI o), .str n, .row 3 (Tm.ds us), .row 4 (Frm.ds fs)]) := by rw [Frm.ds_eq, Frm.ds_eq, at_getM hp h, Frm.d]
theorem Frm.ds_len (l : List Frm) : (Frm.ds l).length = l.length := by rw [Frm.ds_eq, List.length_map]
theorem Frm.ds_app (a b : List Frm) : Frm.ds (a ++ b) = Frm.ds a ++ Frm.ds b := by simp [Frm.ds_eq]
end
theorem not_t {p : Prims} (hp : std = p) : p.not true = false := by subst hp; rfl
theorem not_f {p : Prims} (hp : std = p) : p.not false = true := by subst hp; rfl
theorem Fun.mono {E : Env} {O : Outer E} {k : Nat} {args : List AV} {σ0 : Sto} {ω : O.Ω} {K K' : AV → Sto → O.Ω → Prop} (h : Fun E O k args σ0 ω K) (hk : ∀ r σ ω, K r σ ω → K' r σ ω) : Fun E O k args σ0 ω K' :=
  ⟨h.1, fun S w vs B J => (h.2 S w vs B J).mono fun _ _ ⟨v, r, σ', ω', S', e, hK, hJ, hL⟩ => ⟨v, r, σ', ω', S', e, hk _ _ _ hK, hJ, hL⟩⟩
end Go.Ly.Tr
end
section
set_option maxRecDepth 10000
namespace Go.Ly.Tr
def af15 : AF := ⟨0, 147, [.tmp 0], true, .seq (qr [qi 0 (.mv qF)]) (.seq (qr [qk 11 21 [qs [120]], qk 12 21 [qs [121]], qi 13 (.bslice 0 3 [.s 11, .s 12]), qk 14 43 [qs [80], .s 13], qi 15 (.bslice 0 4 [.s 14]), qk 16 31 [qu 9, qs [120], .s 15], qk 17 21 [qs [120]], qi 18 (.bslice 0 3 [.s 17]), qk 19 43 [qs [81], .s 18], qi 20 (.bslice 0 4 [.s 16, .s 19]), qk 21 31 [qu 4, qs [], .s 20], qi 1 qA, qt 1 21 4]) (.seq (qd [ql 23 1 4, qk 24 21 [qs [120]], qi 25 (.bslice 0 3 [.s 24]), qk 26 32 [qs [102], .s 25], qk 27 20 [.s 23, qs [121], .s 26], qm 22 27, qe 28 22 0, qe 29 22 1, qi 2 qA, qt 2 28 4, qm 3 29]) (.seq (qr [qk 30 21 [qs [120]], qk 31 21 [qs [120, 49]], qk 32 21 [qs [121]], qi 33 (.bslice 0 3 [.s 30, .s 31, .s 32]), qk 34 43 [qs [82], .s 33], qi 35 (.bslice 0 4 [.s 34]), qk 36 31 [qu 9, qs [120, 49], .s 35], qi 37 (.bslice 0 4 [.s 36]), qk 38 31 [qu 8, qs [120], .s 37], qi 4 qA, qt 4 38 4]) (.seq (qd [ql 40 4 4, qk 41 21 [qs [120, 49]], qk 42 21 [qs [120]], qi 43 (.bslice 0 3 [.s 41, .s 42]), qk 44 32 [qs [103], .s 43], qk 45 20 [.s 40, qs [121], .s 44], qm 39 45, qe 46 39 0, qe 47 39 1, qi 5 qA, qt 5 46 4, qm 6 47]) (.seq (qr [qk 48 21 [qs [121]], qi 49 (.bslice 0 3 [.s 48]), qk 50 43 [qs [80], .s 49], qk 51 21 [qs [121]], qk 52 21 [qs [122]], qk 53 21 [qs [120, 49]], qi 54 (.bslice 0 3 [.s 51, .s 52, .s 53]), qk 55 43 [qs [82], .s 54], qi 56 (.bslice 0 4 [.s 55]), qk 57 31 [qu 9, qs [122], .s 56], qi 58 (.bslice 0 4 [.s 50, .s 57]), qk 59 31 [qu 6, qs [], .s 58], qi 60 (.bslice 0 4 [.s 59]), qk 61 31 [qu 8, qs [121], .s 60], qi 7 qA, qt 7 61 4]) (.seq (qr [ql 63 7 4, qk 64 26 [.s 63], qm 62 64, qe 65 62 0, qe 66 62 1, qi 8 qA, qt 8 65 4, qm 9 66]) (.seq (qr [qk 67 21 [qs [120, 50]], qi 68 (.bslice 0 3 [.s 67]), qk 69 43 [qs [80], .s 68], qk 70 21 [qs [120, 50]], qk 71 21 [qs [120, 51]], qk 72 21 [qs [120, 49]], qi 73 (.bslice 0 3 [.s 70, .s 71, .s 72]), qk 74 43 [qs [82], .s 73], qi 75 (.bslice 0 4 [.s 74]), qk 76 31 [qu 9, qs [120, 51], .s 75], qi 77 (.bslice 0 4 [.s 69, .s 76]), qk 78 31 [qu 6, qs [], .s 77], qi 79 (.bslice 0 4 [.s 78]), qk 80 31 [qu 8, qs [120, 50], .s 79], qi 10 qA, qt 10 80 4]) (.seq (qd [qm 81 3, qm 82 6, qi 83 (.bin .add 0 (.s 81) (.s 82)), qm 84 9, qi 85 (.bin .add 0 (.s 83) (.s 84)), qi 86 (.bin .eql 0 (.s 85) (qz 0)), qm 87 86, qh 88 87 (.ld (.s 1) 4 true), qh 89 87 (.call false (.c (.fn 25 [] [])) [.s 88]), qh 90 87 (.bslice 0 1 [qs [120], qs [121]]), qh 91 87 (.call false (.c (.fn 28 [] [])) [.s 89, .s 90]), qi 92 (.pick (.s 87) (.s 91) qF), qm 93 92, qh 94 93 (.ld (.s 2) 4 true), qh 95 93 (.call false (.c (.fn 21 [] [])) [qs [120, 49]]), qh 96 93 (.call false (.c (.fn 21 [] [])) [qs [120]]), qh 97 93 (.bslice 0 3 [.s 96]), qh 98 93 (.call false (.c (.fn 32 [] [])) [qs [102], .s 97]), qh 99 93 (.bslice 0 3 [.s 95, .s 98]), qh 100 93 (.call false (.c (.fn 43 [] [])) [qs [80], .s 99]), qh 101 93 (.bslice 0 4 [.s 100]), qh 102 93 (.call false (.c (.fn 31 [] [])) [qu 9, qs [120, 49], .s 101]), qh 103 93 (.call false (.c (.fn 21 [] [])) [qs [120]]), qh 104 93 (.bslice 0 3 [.s 103]), qh 105 93 (.call false (.c (.fn 43 [] [])) [qs [81], .s 104]), qh 106 93 (.bslice 0 4 [.s 102, .s 105]), qh 107 93 (.call false (.c (.fn 31 [] [])) [qu 4, qs [], .s 106]), qh 108 93 (.call false (.c (.fn 23 [] [])) [.s 94, .s 107]), qi 109 (.pick (.s 93) (.s 108) qF), qm 110 109, qh 111 110 (.ld (.s 5) 4 true), qh 112 110 (.call false (.c (.fn 21 [] [])) [qs [120, 50]]), qh 113 110 (.call false (.c (.fn 21 [] [])) [qs [120, 51]]), qh 114 110 (.call false (.c (.fn 21 [] [])) [qs [120, 49]]), qh 115 110 (.call false (.c (.fn 21 [] [])) [qs [120]]), qh 116 110 (.bslice 0 3 [.s 114, .s 115]), qh 117 110 (.call false (.c (.fn 32 [] [])) [qs [103], .s 116]), qh 118 110 (.bslice 0 3 [.s 112, .s 113, .s 117]), qh 119 110 (.call false (.c (.fn 43 [] [])) [qs [82], .s 118]), qh 120 110 (.bslice 0 4 [.s 119]), qh 121 110 (.call false (.c (.fn 31 [] [])) [qu 9, qs [120, 51], .s 120]), qh 122 110 (.bslice 0 4 [.s 121]), qh 123 110 (.call false (.c (.fn 31 [] [])) [qu 8, qs [120, 50], .s 122]), qh 124 110 (.call false (.c (.fn 23 [] [])) [.s 111, .s 123]), qi 125 (.pick (.s 110) (.s 124) qF), qm 126 125, qh 127 126 (.ld (.s 8) 4 true), qh 128 126 (.ld (.s 10) 4 true), qh 129 126 (.call false (.c (.fn 23 [] [])) [.s 127, .s 128]), qi 130 (.pick (.s 126) (.s 129) qF), qm 131 130, qh 132 131 (.bslice 0 1 [qs [120, 49], qs [120, 51]]), qh 133 131 (.call false (.c (.fn 52 [] [])) [.s 132]), qh 134 131 (.bin .eql 1 (.s 133) (qs [120, 50])), qi 135 (.pick (.s 131) (.s 134) qF), qm 136 135, qh 137 136 (.ld (.s 7) 4 true), qh 138 136 (.ld (.s 8) 4 true), qh 139 136 (.call false (.c (.fn 27 [] [])) [.s 137, .s 138]), qi 140 (.pick (.s 136) (.s 139) qF), qm 141 140, qh 142 141 (.ld (.s 1) 4 true), qh 143 141 (.ld (.s 2) 4 true), qh 144 141 (.call false (.c (.fn 27 [] [])) [.s 142, .s 143]), qh 145 141 (.un .not (.s 144)), qi 146 (.pick (.s 141) (.s 145) qF), qm 0 146]) .ret))))))))⟩
theorem has15 : Has E 15 af15 := ⟨Go.Proofs.Tryz.f15, [], true, Go.Proofs.Tryz.func15, by decide, by kernel_rfl⟩
def af16 : AF := ⟨1, 32, [.tmp 2], true, .seq (qr [qi 2 (.mv qF)]) (.seq (.seq (qr [qi 3 (.mv (qz 0))]) (.block 0 (.loop (.seq (.seq (qr [qm 4 3, qm 5 0, qi 6 (.len false (.s 5)), qi 7 (.bin .lss 0 (.s 4) (.s 6))]) (.cond (.s 7) .skip (.exit 0))) (.seq (.block 1 (.seq (qr [qm 10 3, qi 11 (.bin .geq 0 (.s 10) (qz 6)), qm 12 11, qg 13 12 (.mv (.s 0)), qg 14 12 (.mv (.s 3)), qg 15 12 (.ia (.s 13) (.s 14) 4), qg 16 12 (.fa (.s 15) 0), qg 17 12 (.ld (.s 16) 1 false), qg 18 12 (.len true (.s 17)), qg 19 12 (.bin .gtr 0 (.s 18) (qz 100)), qi 20 (.pick (.s 12) qT (.s 19)), qm 21 20, qg 22 21 (.mv (.s 0)), qg 23 21 (.mv (.s 3)), qg 24 21 (.ia (.s 22) (.s 23) 4), qg 25 21 (.fa (.s 24) 1), qg 26 21 (.ld (.s 25) 3 true), qg 27 21 (.bslice 0 3 [.s 26]), qg 28 21 (.build [.int .u8 0, .str [], .row 3 [], .row 4 []] [(2, 1, .s 27)]), qg 29 21 (.call false (.c (.fn 47 [] [])) [.s 28, qz 100]), qg 30 21 (.bin .gtr 0 (.s 29) (qz 100)), qi 31 (.pick (.s 21) qT (.s 30))]) (.cond (.s 31) (.seq (qr [qi 2 (.mv qF)]) .ret) .skip))) (qr [qm 8 3, qi 9 (.bin .add 0 (.s 8) (qz 1)), qm 3 9])))))) (.seq (qr [qi 2 (.mv qT)]) .ret))⟩
theorem has16 : Has E 16 af16 := ⟨Go.Proofs.Tryz.f16, [], true, Go.Proofs.Tryz.func16, by decide, by kernel_rfl⟩
def af17 : AF := ⟨1, 9, [.tmp 2], true, .seq (qr [qi 1 (.box (.s 0)), qi 2 (.mv qF)]) (.seq (qr [ql 3 1 4, qk 4 53 [.s 3], qm 5 4, qh 6 5 (.ld (.s 1) 4 true), qh 7 5 (.call false (.c (.fn 54 [] [])) [.s 6, qz 0]), qi 8 (.pick (.s 5) (.s 7) qF), qm 2 8]) .ret)⟩
theorem has17 : Has E 17 af17 := ⟨Go.Proofs.Tryz.f17, [], true, Go.Proofs.Tryz.func17, by decide, by kernel_rfl⟩
def af18 : AF := ⟨1, 5, [.tmp 2], true, .seq (qr [qi 2 (.mv qF)]) (.seq (qr [qm 3 0, qk 4 55 [.s 3, .c (.fn 56 [] []), .c (.fn 57 [] [])], qm 2 4]) .ret)⟩
theorem has18 : Has E 18 af18 := ⟨Go.Proofs.Tryz.f18, [], true, Go.Proofs.Tryz.func18, by decide, by kernel_rfl⟩
def af19 : AF := ⟨1, 5, [.tmp 2], true, .seq (qr [qi 1 (.box (.s 0)), qi 2 (.mv qF)]) (.seq (qr [ql 3 1 3, qk 4 58 [.s 3, qz 0], qm 2 4]) .ret)⟩
theorem has19 : Has E 19 af19 := ⟨Go.Proofs.Tryz.f19, [], true, Go.Proofs.Tryz.func19, by decide, by kernel_rfl⟩
def af20 : AF := ⟨3, 16, [.cell 6 4 true, .tmp 7], true, .seq (qr [qi 3 (.box (.s 0)), qi 5 (.box (.s 2)), qi 6 qA, qi 7 (.mv (qz 0))]) (.seq (qr [ql 8 3 4, qm 9 1, ql 10 5 3, qi 11 (.build [.str [], .bool false, .str [], .row 3 []] [(0, 1, .s 9), (1, 3, .s 10)]), qi 12 (.bslice 0 4 [.s 11]), qk 13 22 [.s 8, .s 12], qe 14 13 0, qe 15 13 1, qt 6 14 4, qm 7 15]) .ret)⟩
theorem has20 : Has E 20 af20 := ⟨Go.Proofs.Tryz.f20, [], true, Go.Proofs.Tryz.func20, by decide, by kernel_rfl⟩
def af21 : AF := ⟨1, 5, [.cell 2 3 true], true, .seq (qr [qi 2 qB]) (.seq (qr [qm 3 0, qi 4 (.build [.bool false, .str [], .row 3 []] [(0, 1, qT), (1, 1, .s 3)]), qt 2 4 3]) .ret)⟩
theorem has21 : Has E 21 af21 := ⟨Go.Proofs.Tryz.f21, [], true, Go.Proofs.Tryz.func21, by decide, by kernel_rfl⟩
def af22 : AF := ⟨2, 60, [.cell 4 4 true, .tmp 5], true, .seq (qr [qi 2 (.box (.s 0)), qi 4 qA, qi 5 (.mv (qz 0))]) (.seq (.seq (qr [ql 10 2 4, qk 11 17 [.s 10], qi 12 (.un .not (.s 11))]) (.cond (.s 12) (.seq (qr [qi 13 (.build [.int .u8 0, .str [], .row 3 [], .row 4 []] []), qt 4 13 4, qi 5 (.mv (qz 2))]) .ret) .skip)) (.seq (.seq (qr [qm 14 1, qi 15 (.len false (.s 14)), qi 16 (.mv (qz 0))]) (.block 0 (.loop (.seq (qr [qi 17 (.bin .lss 0 (.s 16) (.s 15))]) (.seq (.cond (.s 17) .skip (.exit 0)) (.seq (.block 1 (.seq (qr [qm 18 16, qa 19 14 16 4, ql 20 19 4, qi 7 (.alloc [.str [], .bool false, .str [], .row 3 []]), qm 6 18, qt 7 20 4]) (.seq (qr [qf 21 7 0, qv 22 21, qk 23 18 [.s 22], qi 24 (.un .not (.s 23)), qm 25 24, qg 26 25 (.fa (.s 7) 1), qg 27 25 (.ld (.s 26) 3 true), qg 28 25 (.call false (.c (.fn 19 [] [])) [.s 27]), qg 29 25 (.un .not (.s 28)), qi 30 (.pick (.s 25) qT (.s 29)), qm 31 30, qg 32 31 (.mv (.s 1)), qg 33 31 (.fa (.s 7) 0), qg 34 31 (.ld (.s 33) 1 false), qg 35 31 (.call false (.c (.fn 59 [] [])) [.s 32, .s 34]), qg 36 31 (.mv (.s 6)), qg 37 31 (.bin .neq 0 (.s 35) (.s 36)), qi 38 (.pick (.s 31) qT (.s 37))]) (.cond (.s 38) (.seq (qr [qi 39 (.build [.int .u8 0, .str [], .row 3 [], .row 4 []] []), qt 4 39 4, qi 5 (.mv (qz 2))]) .ret) .skip)))) (qr [qi 40 (.bin .add 0 (.s 16) (qz 1)), qm 16 40]))))))) (.seq (qr [ql 41 2 4, qk 42 25 [.s 41], qi 8 (.alloc [.row 1 []]), qt 8 42 1]) (.seq (.seq (qr [qm 43 1, qi 44 (.mkfn 61 [] [.s 8]), qk 45 60 [.s 43, .s 44]]) (.cond (.s 45) (.seq (qr [qi 46 (.build [.int .u8 0, .str [], .row 3 [], .row 4 []] []), qt 4 46 4, qi 5 (.mv (qz 3))]) .ret) .skip)) (.seq (qr [qm 47 1, ql 48 2 4, qk 49 63 [.s 47, .s 48], qi 9 qA, qt 9 49 4]) (.seq (.seq (qr [ql 50 9 4, qk 51 30 [.s 50], qi 52 (.bin .gtr 0 (.s 51) (qz 400)), qm 53 52, qg 54 53 (.ld (.s 9) 4 true), qg 55 53 (.call false (.c (.fn 64 [] [])) [.s 54]), qg 56 53 (.bin .gtr 0 (.s 55) (qz 40)), qi 57 (.pick (.s 53) qT (.s 56))]) (.cond (.s 57) (.seq (qr [qi 58 (.build [.int .u8 0, .str [], .row 3 [], .row 4 []] []), qt 4 58 4, qi 5 (.mv (qz 3))]) .ret) .skip)) (.seq (qr [ql 59 9 4, qt 4 59 4, qi 5 (.mv (qz 0))]) .ret)))))))⟩
theorem has22 : Has E 22 af22 := ⟨Go.Proofs.Tryz.f22, [], true, Go.Proofs.Tryz.func22, by decide, by kernel_rfl⟩
def af23 : AF := ⟨2, 31, [.tmp 4], true, .seq (qr [qi 2 (.box (.s 0)), qi 3 (.box (.s 1)), qi 4 (.mv qF)]) (.seq (qr [qf 5 2 0, qv 6 5, qf 7 3 0, qv 8 7, qi 9 (.bin .eql 0 (.s 6) (.s 8)), qm 10 9, qh 11 10 (.fa (.s 2) 1), qh 12 10 (.ld (.s 11) 1 false), qh 13 10 (.fa (.s 3) 1), qh 14 10 (.ld (.s 13) 1 false), qh 15 10 (.bin .eql 1 (.s 12) (.s 14)), qi 16 (.pick (.s 10) (.s 15) qF), qm 17 16, qh 18 17 (.fa (.s 2) 2), qh 19 17 (.ld (.s 18) 1 false), qh 20 17 (.fa (.s 3) 2), qh 21 17 (.ld (.s 20) 1 false), qh 22 17 (.call false (.c (.fn 36 [] [])) [.s 19, .s 21]), qi 23 (.pick (.s 17) (.s 22) qF), qm 24 23, qh 25 24 (.fa (.s 2) 3), qh 26 24 (.ld (.s 25) 1 false), qh 27 24 (.fa (.s 3) 3), qh 28 24 (.ld (.s 27) 1 false), qh 29 24 (.call false (.c (.fn 65 [] [])) [.s 26, .s 28]), qi 30 (.pick (.s 24) (.s 29) qF), qm 4 30]) .ret)⟩
theorem has23 : Has E 23 af23 := ⟨Go.Proofs.Tryz.f23, [], true, Go.Proofs.Tryz.func23, by decide, by kernel_rfl⟩
def af24 : AF := ⟨2, 18, [.tmp 4], true, .seq (qr [qi 4 (.mv qF)]) (.seq (.seq (qr [qi 5 (.mv (qz 0))]) (.block 0 (.loop (.seq (.seq (qr [qm 6 5, qm 7 0, qi 8 (.len false (.s 7)), qi 9 (.bin .lss 0 (.s 6) (.s 8))]) (.cond (.s 9) .skip (.exit 0))) (.seq (.block 1 (.seq (qr [qm 12 0, qm 13 5, qa 14 12 13 1, qv 15 14, qm 16 1, qi 17 (.bin .eql 1 (.s 15) (.s 16))]) (.cond (.s 17) (.seq (qr [qi 4 (.mv qT)]) .ret) .skip))) (qr [qm 10 5, qi 11 (.bin .add 0 (.s 10) (qz 1)), qm 5 11])))))) (.seq (qr [qi 4 (.mv qF)]) .ret))⟩
theorem has24 : Has E 24 af24 := ⟨Go.Proofs.Tryz.f24, [], true, Go.Proofs.Tryz.func24, by decide, by kernel_rfl⟩
def af25 : AF := ⟨1, 6, [.tmp 2], true, .seq (qr [qi 1 (.box (.s 0)), qi 2 (.nil false 1)]) (.seq (qr [ql 3 1 4, qk 4 67 [.s 3], qk 5 66 [.s 4], qm 2 5]) .ret)⟩
theorem has25 : Has E 25 af25 := ⟨Go.Proofs.Tryz.f25, [], true, Go.Proofs.Tryz.func25, by decide, by kernel_rfl⟩
def af26 : AF := ⟨1, 12, [.cell 2 4 true, .tmp 3], true, .seq (qr [qi 1 (.box (.s 0)), qi 2 qA, qi 3 (.mv (qz 0))]) (.seq (.seq (qr [ql 4 1 4, qk 5 17 [.s 4], qi 6 (.un .not (.s 5))]) (.cond (.s 6) (.seq (qr [qi 7 (.build [.int .u8 0, .str [], .row 3 [], .row 4 []] []), qt 2 7 4, qi 3 (.mv (qz 2))]) .ret) .skip)) (.seq (qd [ql 8 1 4, ql 9 1 4, qk 10 25 [.s 9], qk 11 68 [.s 8, .s 10, .c (.d .top (.row 4 []))], qt 2 11 4, qi 3 (.mv (qz 0))]) .ret))⟩
theorem has26 : Has E 26 af26 := ⟨Go.Proofs.Tryz.f26, [], true, Go.Proofs.Tryz.func26, by decide, by kernel_rfl⟩
def af27 : AF := ⟨2, 30, [.tmp 4], true, .seq (qr [qi 2 (.box (.s 0)), qi 3 (.box (.s 1)), qi 4 (.mv qF)]) (.seq (qr [ql 10 2 4, qk 11 26 [.s 10], qm 9 11, qe 12 9 0, qe 13 9 1, qi 5 qA, qt 5 12 4, qm 6 13]) (.seq (qr [ql 15 3 4, qk 16 26 [.s 15], qm 14 16, qe 17 14 0, qe 18 14 1, qi 7 qA, qt 7 17 4, qm 8 18]) (.seq (qr [qm 19 6, qi 20 (.bin .eql 0 (.s 19) (qz 0)), qm 21 20, qh 22 21 (.mv (.s 8)), qh 23 21 (.bin .eql 0 (.s 22) (qz 0)), qi 24 (.pick (.s 21) (.s 23) qF), qm 25 24, qh 26 25 (.ld (.s 5) 4 true), qh 27 25 (.ld (.s 7) 4 true), qh 28 25 (.call false (.c (.fn 69 [] [])) [.s 26, .s 27]), qi 29 (.pick (.s 25) (.s 28) qF), qm 4 29]) .ret)))⟩
theorem has27 : Has E 27 af27 := ⟨Go.Proofs.Tryz.f27, [], true, Go.Proofs.Tryz.func27, by decide, by kernel_rfl⟩
def af28 : AF := ⟨2, 26, [.tmp 4], true, .seq (qr [qi 4 (.mv qF)]) (.seq (.seq (qr [qm 6 0, qi 7 (.len false (.s 6)), qm 8 1, qi 9 (.len false (.s 8)), qi 10 (.bin .neq 0 (.s 7) (.s 9))]) (.cond (.s 10) (.seq (qr [qi 4 (.mv qF)]) .ret) .skip)) (.seq (.seq (qr [qi 5 (.mv (qz 0))]) (.block 0 (.loop (.seq (.seq (qr [qm 11 5, qm 12 0, qi 13 (.len false (.s 12)), qi 14 (.bin .lss 0 (.s 11) (.s 13))]) (.cond (.s 14) .skip (.exit 0))) (.seq (.block 1 (.seq (qd [qm 17 0, qm 18 5, qa 19 17 18 1, qv 20 19, qm 21 1, qm 22 5, qa 23 21 22 1, qv 24 23, qi 25 (.bin .neq 1 (.s 20) (.s 24))]) (.cond (.s 25) (.seq (qr [qi 4 (.mv qF)]) .ret) .skip))) (qr [qm 15 5, qi 16 (.bin .add 0 (.s 15) (qz 1)), qm 5 16])))))) (.seq (qr [qi 4 (.mv qT)]) .ret)))⟩
theorem has28 : Has E 28 af28 := ⟨Go.Proofs.Tryz.f28, [], true, Go.Proofs.Tryz.func28, by decide, by kernel_rfl⟩
def af30 : AF := ⟨1, 17, [.tmp 2], true, .seq (qr [qi 1 (.box (.s 0)), qi 2 (.mv (qz 0))]) (.seq (qr [qi 3 (.alloc [.int .i64 0]), ⟨none, .st (.s 3) (qz 0) 1, none⟩]) (.seq (.seq (qr [ql 5 1 4, qk 6 70 [.s 5]]) (.block 0 (.rf (.s 6) [7] (qr [qi 4 qA, qt 4 7 4]) (.block 1 (.seq (qr [qv 8 3, qi 9 (.bin .add 0 (.s 8) (qz 1)), qt 3 9 1]) (.seq (qr [qf 10 4 2, qv 11 10, qk 12 71 [.s 11]]) (.block 2 (.rf (.s 12) [13] .skip (.block 3 (qr [qv 14 3, qi 15 (.bin .add 0 (.s 14) (qz 1)), qt 3 15 1])))))))))) (.seq (qr [qv 16 3, qm 2 16]) .ret)))⟩
theorem has30 : Has E 30 af30 := ⟨Go.Proofs.Tryz.f30, [], true, Go.Proofs.Tryz.func30, by decide, by kernel_rfl⟩
def af31 : AF := ⟨3, 11, [.cell 6 4 true], true, .seq (qr [qi 6 qA]) (.seq (qr [qm 7 0, qm 8 1, qm 9 2, qi 10 (.build [.int .u8 0, .str [], .row 3 [], .row 4 []] [(0, 1, .s 7), (1, 1, .s 8), (3, 1, .s 9)]), qt 6 10 4]) .ret)⟩
theorem has31 : Has E 31 af31 := ⟨Go.Proofs.Tryz.f31, [], true, Go.Proofs.Tryz.func31, by decide, by kernel_rfl⟩
def af32 : AF := ⟨2, 8, [.cell 4 3 true], true, .seq (qr [qi 4 qB]) (.seq (qr [qm 5 0, qm 6 1, qi 7 (.build [.bool false, .str [], .row 3 []] [(1, 1, .s 5), (2, 1, .s 6)]), qt 4 7 3]) .ret)⟩
theorem has32 : Has E 32 af32 := ⟨Go.Proofs.Tryz.f32, [], true, Go.Proofs.Tryz.func32, by decide, by kernel_rfl⟩
def af35 : AF := ⟨2, 8, [.cell 4 3 true], true, .seq (qr [qi 2 (.box (.s 0)), qi 4 qB]) (.seq (qr [qm 5 1, ql 6 2 3, qk 7 72 [.s 5, .s 6], qt 4 7 3]) .ret)⟩
def af36 : AF := ⟨2, 55, [.tmp 4], true, .seq (qr [qi 4 (.mv qF)]) (.seq (.seq (qr [qm 6 0, qi 7 (.len false (.s 6)), qm 8 1, qi 9 (.len false (.s 8)), qi 10 (.bin .neq 0 (.s 7) (.s 9))]) (.cond (.s 10) (.seq (qr [qi 4 (.mv qF)]) .ret) .skip)) (.seq (.seq (qr [qi 5 (.mv (qz 0))]) (.block 0 (.loop (.seq (.seq (qr [qm 11 5, qm 12 0, qi 13 (.len false (.s 12)), qi 14 (.bin .lss 0 (.s 11) (.s 13))]) (.cond (.s 14) .skip (.exit 0))) (.seq (.block 1 (.seq (qd [qm 17 0, qm 18 5, qa 19 17 18 3, qf 20 19 0, qv 21 20, qm 22 1, qm 23 5, qa 24 22 23 3, qf 25 24 0, qv 26 25, qi 27 (.bin .neq 2 (.s 21) (.s 26)), qm 28 27, qg 29 28 (.mv (.s 0)), qg 30 28 (.mv (.s 5)), qg 31 28 (.ia (.s 29) (.s 30) 3), qg 32 28 (.fa (.s 31) 1), qg 33 28 (.ld (.s 32) 1 false), qg 34 28 (.mv (.s 1)), qg 35 28 (.mv (.s 5)), qg 36 28 (.ia (.s 34) (.s 35) 3), qg 37 28 (.fa (.s 36) 1), qg 38 28 (.ld (.s 37) 1 false), qg 39 28 (.bin .neq 1 (.s 33) (.s 38)), qi 40 (.pick (.s 28) qT (.s 39)), qm 41 40, qg 42 41 (.mv (.s 0)), qg 43 41 (.mv (.s 5)), qg 44 41 (.ia (.s 42) (.s 43) 3), qg 45 41 (.fa (.s 44) 2), qg 46 41 (.ld (.s 45) 1 false), qg 47 41 (.mv (.s 1)), qg 48 41 (.mv (.s 5)), qg 49 41 (.ia (.s 47) (.s 48) 3), qg 50 41 (.fa (.s 49) 2), qg 51 41 (.ld (.s 50) 1 false), qg 52 41 (.call false (.c (.fn 36 [] [])) [.s 46, .s 51]), qg 53 41 (.un .not (.s 52)), qi 54 (.pick (.s 41) qT (.s 53))]) (.cond (.s 54) (.seq (qr [qi 4 (.mv qF)]) .ret) .skip))) (qr [qm 15 5, qi 16 (.bin .add 0 (.s 15) (qz 1)), qm 5 16])))))) (.seq (qr [qi 4 (.mv qT)]) .ret)))⟩
theorem has36 : Has E 36 af36 := ⟨Go.Proofs.Tryz.f36, [], true, Go.Proofs.Tryz.func36, by decide, by kernel_rfl⟩
end Go.Ly.Tr
end
section
set_option maxRecDepth 10000
namespace Go.Ly.Tr
def af10 : AF := ⟨3, 137, [.tmp 6], true, .seq (qr [qi 3 (.box (.s 0)), qi 5 (.box (.s 2)), qi 6 (.mv qF)]) (.seq (.seq (qr [qk 17 15 [], qi 18 (.un .not (.s 17))]) (.cond (.s 18) (.seq (qr [qi 6 (.mv qF)]) .ret) .skip)) (.seq (.seq (qr [ql 19 3 4, qi 20 (.bslice 0 4 [.s 19]), qk 21 13 [.s 20], qi 22 (.un .not (.s 21)), qm 23 22, qg 24 23 (.mv (.s 1)), qg 25 23 (.ld (.s 5) 3 true), qg 26 23 (.build [.str [], .bool false, .str [], .row 3 []] [(0, 1, .s 24), (1, 3, .s 25)]), qg 27 23 (.bslice 0 4 [.s 26]), qg 28 23 (.call false (.c (.fn 16 [] [])) [.s 27]), qg 29 23 (.un .not (.s 28)), qi 30 (.pick (.s 23) qT (.s 29))]) (.cond (.s 30) (.seq (qr [qi 6 (.mv qT)]) .ret) .skip)) (.seq (qr [ql 32 3 4, qm 33 1, ql 34 5 3, qk 35 20 [.s 32, .s 33, .s 34], qm 31 35, qe 36 31 0, qe 37 31 1, qi 7 qA, qt 7 36 4, qm 8 37]) (.seq (.seq (qr [qm 38 8, qi 39 (.bin .neq 0 (.s 38) (qz 0))]) (.cond (.s 39) (.seq (qr [qi 6 (.mv qT)]) .ret) .skip)) (.seq (qd [ql 40 3 4, qk 41 25 [.s 40], ql 42 7 4, qk 43 25 [.s 42], ql 44 5 3, qk 45 41 [.s 44], qm 9 41, qm 10 43, qm 11 45]) (.seq (.seq (qr [qi 12 (.mv (qz 0))]) (.block 0 (.loop (.seq (.seq (qr [qm 46 12, qm 47 10, qi 48 (.len false (.s 47)), qi 49 (.bin .lss 0 (.s 46) (.s 48))]) (.cond (.s 49) .skip (.exit 0))) (.seq (.block 1 (.seq (qd [qm 52 12, qi 53 (.bin .gtr 0 (.s 52) (qz 0)), qm 54 53, qh 55 54 (.mv (.s 10)), qh 56 54 (.mv (.s 12)), qh 57 54 (.bin .sub 0 (.s 56) (qz 1)), qh 58 54 (.ia (.s 55) (.s 57) 1), qh 59 54 (.ld (.s 58) 1 false), qh 60 54 (.mv (.s 10)), qh 61 54 (.mv (.s 12)), qh 62 54 (.ia (.s 60) (.s 61) 1), qh 63 54 (.ld (.s 62) 1 false), qh 64 54 (.bin .geq 1 (.s 59) (.s 63)), qi 65 (.pick (.s 54) (.s 64) qF), qm 66 65, qg 67 66 (.mv (.s 11)), qg 68 66 (.mv (.s 10)), qg 69 66 (.mv (.s 12)), qg 70 66 (.ia (.s 68) (.s 69) 1), qg 71 66 (.ld (.s 70) 1 false), qg 72 66 (.call false (.c (.fn 24 [] [])) [.s 67, .s 71]), qg 73 66 (.un .not (.s 72)), qg 74 66 (.mv (.s 73)), qh 75 74 (.mv (.s 10)), qh 76 74 (.mv (.s 12)), qh 77 74 (.ia (.s 75) (.s 76) 1), qh 78 74 (.ld (.s 77) 1 false), qh 79 74 (.mv (.s 1)), qh 80 74 (.bin .eql 1 (.s 78) (.s 79)), qh 81 74 (.mv (.s 80)), qg 82 81 (.mv (.s 9)), qg 83 81 (.mv (.s 10)), qg 84 81 (.mv (.s 12)), qg 85 81 (.ia (.s 83) (.s 84) 1), qg 86 81 (.ld (.s 85) 1 false), qg 87 81 (.call false (.c (.fn 24 [] [])) [.s 82, .s 86]), qg 88 81 (.un .not (.s 87)), qh 89 74 (.pick (.s 81) qT (.s 88)), qg 90 66 (.pick (.s 74) (.s 89) qF), qi 91 (.pick (.s 66) qT (.s 90))]) (.cond (.s 91) (.seq (qr [qi 6 (.mv qF)]) .ret) .skip))) (qr [qm 50 12, qi 51 (.bin .add 0 (.s 50) (qz 1)), qm 12 51])))))) (.seq (qr [qi 92 (.bslice 1 1 []), qm 93 9, qi 94 (.app (.s 92) (.s 93) 1 16), qm 95 11, qi 96 (.app (.s 94) (.s 95) 1 16), qm 13 96]) (.seq (.seq (qr [qi 14 (.mv (qz 0))]) (.block 2 (.loop (.seq (.seq (qr [qm 97 14, qm 98 13, qi 99 (.len false (.s 98)), qi 100 (.bin .lss 0 (.s 97) (.s 99))]) (.cond (.s 100) .skip (.exit 2))) (.seq (.block 3 (.seq (qr [qm 103 13, qm 104 14, qa 105 103 104 1, qv 106 105, qm 15 106]) (.seq (qd [ql 107 3 4, qm 108 1, qk 109 42 [.s 107, .s 108, .c (.d .top (.row 1 []))], ql 110 5 3, qi 111 (.bslice 0 3 [.s 110]), qk 112 43 [qs [80], .s 111], qm 113 15, qk 114 42 [.s 112, .s 113, .c (.d .top (.row 1 []))], qi 115 (.bin .mul 0 (.s 109) (.s 114)), qm 16 115]) (.seq (.seq (qr [qm 116 15, qm 117 1, qi 118 (.bin .neq 1 (.s 116) (.s 117))]) (.cond (.s 118) (qr [qm 119 16, ql 120 3 4, qm 121 15, qk 122 42 [.s 120, .s 121, .c (.d .top (.row 1 []))], qi 123 (.bin .add 0 (.s 119) (.s 122)), qm 16 123]) .skip)) (.seq (qr [ql 124 7 4, qm 125 15, qk 126 42 [.s 124, .s 125, .c (.d .top (.row 1 []))], qm 127 16, qi 128 (.bin .neq 0 (.s 126) (.s 127)), qm 129 128, qg 130 129 (.mv (.s 10)), qg 131 129 (.mv (.s 15)), qg 132 129 (.call false (.c (.fn 24 [] [])) [.s 130, .s 131]), qg 133 129 (.mv (.s 16)), qg 134 129 (.bin .gtr 0 (.s 133) (qz 0)), qg 135 129 (.bin .neq 2 (.s 132) (.s 134)), qi 136 (.pick (.s 129) qT (.s 135))]) (.cond (.s 136) (.seq (qr [qi 6 (.mv qF)]) .ret) .skip)))))) (qr [qm 101 14, qi 102 (.bin .add 0 (.s 101) (qz 1)), qm 14 102])))))) (.seq (qr [qi 6 (.mv qT)]) .ret)))))))))⟩
theorem has10 : Has E 10 af10 := ⟨Go.Proofs.Tryz.f10, [], true, Go.Proofs.Tryz.func10, by decide, by kernel_rfl⟩
def af41 : AF := ⟨1, 7, [.tmp 2], true, .seq (qr [qi 1 (.box (.s 0)), qi 2 (.nil false 1)]) (.seq (qr [ql 3 1 3, qi 4 (.bslice 0 3 [.s 3]), qk 5 73 [.s 4], qk 6 66 [.s 5], qm 2 6]) .ret)⟩
theorem has41 : Has E 41 af41 := ⟨Go.Proofs.Tryz.f41, [], true, Go.Proofs.Tryz.func41, by decide, by kernel_rfl⟩
def af42 : AF := ⟨3, 50, [.tmp 6], true, .seq (qr [qi 3 (.box (.s 0)), qi 6 (.mv (qz 0))]) (.seq (.seq (qr [qf 9 3 0, qv 10 9, qi 11 (.bin .eql 0 (.s 10) (qu 8)), qm 12 11, qg 13 12 (.fa (.s 3) 0), qg 14 12 (.ld (.s 13) 1 false), qg 15 12 (.bin .eql 0 (.s 14) (qu 9)), qi 16 (.pick (.s 12) qT (.s 15))]) (.cond (.s 16) (qd [qi 17 (.bslice 1 1 []), qm 18 2, qi 19 (.app (.s 17) (.s 18) 1 16), qf 20 3 1, qv 21 20, qi 22 (.bslice 0 1 [.s 21]), qi 23 (.app (.s 19) (.s 22) 1 16), qm 2 23]) .skip)) (.seq (qr [qi 7 (.mv (qz 0))]) (.seq (.seq (qr [qm 24 2, qm 25 1, qk 26 24 [.s 24, .s 25], qi 27 (.un .not (.s 26))]) (.cond (.s 27) (qr [qf 28 3 2, qv 29 28, qm 30 1, qk 31 74 [.s 29, .s 30], qm 7 31]) .skip)) (.seq (.seq (qr [qi 8 (.mv (qz 0))]) (.block 0 (.loop (.seq (.seq (qr [qm 32 8, qf 33 3 3, qv 34 33, qi 35 (.len false (.s 34)), qi 36 (.bin .lss 0 (.s 32) (.s 35))]) (.cond (.s 36) .skip (.exit 0))) (.seq (.block 1 (qr [qm 39 7, qf 40 3 3, qv 41 40, qm 42 8, qa 43 41 42 4, ql 44 43 4, qm 45 1, qm 46 2, qk 47 42 [.s 44, .s 45, .s 46], qi 48 (.bin .add 0 (.s 39) (.s 47)), qm 7 48])) (qr [qm 37 8, qi 38 (.bin .add 0 (.s 37) (qz 1)), qm 8 38])))))) (.seq (qr [qm 49 7, qm 6 49]) .ret)))))⟩
theorem has42 : Has E 42 af42 := ⟨Go.Proofs.Tryz.f42, [], true, Go.Proofs.Tryz.func42, by decide, by kernel_rfl⟩
def af43 : AF := ⟨2, 8, [.cell 4 4 true], true, .seq (qr [qi 4 qA]) (.seq (qr [qm 5 0, qm 6 1, qi 7 (.build [.int .u8 0, .str [], .row 3 [], .row 4 []] [(0, 1, qu 1), (1, 1, .s 5), (2, 1, .s 6)]), qt 4 7 4]) .ret)⟩
theorem has43 : Has E 43 af43 := ⟨Go.Proofs.Tryz.f43, [], true, Go.Proofs.Tryz.func43, by decide, by kernel_rfl⟩
def af47 : AF := ⟨2, 41, [.tmp 4], true, .seq (qr [qi 2 (.box (.s 0)), qi 4 (.mv (qz 0))]) (.seq (qd [qf 7 2 1, qv 8 7, qi 9 (.len true (.s 8)), qi 10 (.bin .quo 0 (.s 9) (qz 40)), qi 11 (.bin .add 0 (qz 1) (.s 10)), qf 12 2 2, qv 13 12, qm 14 1, qk 15 82 [.s 13, .s 14], qi 16 (.bin .add 0 (.s 11) (.s 15)), qm 5 16]) (.seq (.seq (qr [qi 6 (.mv (qz 0))]) (.block 0 (.loop (.seq (.seq (qr [qm 17 6, qf 18 2 3, qv 19 18, qi 20 (.len false (.s 19)), qi 21 (.bin .lss 0 (.s 17) (.s 20)), qm 22 21, qh 23 22 (.mv (.s 5)), qh 24 22 (.mv (.s 1)), qh 25 22 (.bin .leq 0 (.s 23) (.s 24)), qi 26 (.pick (.s 22) (.s 25) qF)]) (.cond (.s 26) .skip (.exit 0))) (.seq (.block 1 (qr [qm 29 5, qf 30 2 3, qv 31 30, qm 32 6, qa 33 31 32 4, ql 34 33 4, qm 35 1, qm 36 5, qi 37 (.bin .sub 0 (.s 35) (.s 36)), qk 38 47 [.s 34, .s 37], qi 39 (.bin .add 0 (.s 29) (.s 38)), qm 5 39])) (qr [qm 27 6, qi 28 (.bin .add 0 (.s 27) (qz 1)), qm 6 28])))))) (.seq (qr [qm 40 5, qm 4 40]) .ret)))⟩
theorem has47 : Has E 47 af47 := ⟨Go.Proofs.Tryz.f47, [], true, Go.Proofs.Tryz.func47, by decide, by kernel_rfl⟩
def af53 : AF := ⟨1, 11, [.tmp 2], true, .seq (qr [qi 1 (.box (.s 0)), qi 2 (.mv qF)]) (.seq (qr [ql 3 1 4, qk 4 30 [.s 3], qi 5 (.bin .leq 0 (.s 4) (qz 400)), qm 6 5, qh 7 6 (.ld (.s 1) 4 true), qh 8 6 (.call false (.c (.fn 64 [] [])) [.s 7]), qh 9 6 (.bin .leq 0 (.s 8) (qz 40)), qi 10 (.pick (.s 6) (.s 9) qF), qm 2 10]) .ret)⟩
theorem has53 : Has E 53 af53 := ⟨Go.Proofs.Tryz.f53, [], true, Go.Proofs.Tryz.func53, by decide, by kernel_rfl⟩
def af54 : AF := ⟨2, 109, [.tmp 4], true, .seq (qr [qi 2 (.box (.s 0)), qi 3 (.box (.s 1)), qi 4 (.mv qF)]) (.seq (qr [qk 7 88 [], qi 5 (.alloc [.nf, .int .i64 0, .int .i64 0, .int .i64 0, .nf, .int .i64 0, .int .i64 0, .int .i64 0, .nf, .int .i64 0, .int .i64 0, .int .i64 0, .nf, .int .i64 0, .int .i64 0, .int .i64 0, .nf, .int .i64 0, .int .i64 0, .int .i64 0, .nf, .int .i64 0, .int .i64 0, .int .i64 0, .nf, .int .i64 0, .int .i64 0, .int .i64 0, .nf, .int .i64 0, .int .i64 0, .int .i64 0, .nf, .int .i64 0, .int .i64 0, .int .i64 0, .nf, .int .i64 0, .int .i64 0, .int .i64 0, .nf, .int .i64 0, .int .i64 0, .int .i64 0, .nf, .int .i64 0, .int .i64 0, .int .i64 0, .nf, .int .i64 0, .int .i64 0, .int .i64 0, .nf, .int .i64 0, .int .i64 0, .int .i64 0, .nf, .int .i64 0, .int .i64 0, .int .i64 0, .nf, .int .i64 0, .int .i64 0, .int .i64 0, .nf, .int .i64 0, .int .i64 0, .int .i64 0]), qt 5 7 68]) (.seq (.seq (qr [qf 8 2 0, qv 9 8, qi 10 (.conv (.toInt .i64) (.s 9)), qi 11 (.bin .geq 0 (.s 10) (qz 17)), qm 12 11, qg 13 12 (.fa (.s 2) 0), qg 14 12 (.ld (.s 13) 1 false), qg 15 12 (.iaa (.s 5) (.s 14) 17 4), qg 16 12 (.fa (.s 15) 0), qg 17 12 (.ld (.s 16) 1 false), qg 18 12 (.bin .eql 3 (.s 17) (.c (.d .top .nf))), qi 19 (.pick (.s 12) qT (.s 18))]) (.cond (.s 19) (.seq (qr [qi 4 (.mv qF)]) .ret) .skip)) (.seq (qr [qf 20 2 0, qv 21 20, qi 22 (.iaa (.s 5) (.s 21) 17 4), ql 23 22 4, qi 6 (.alloc [.nf, .int .i64 0, .int .i64 0, .int .i64 0]), qt 6 23 4]) (.seq (.seq (qr [qf 24 6 3, qv 25 24, qv 26 3, qi 27 (.bin .gtr 0 (.s 25) (.s 26)), qm 28 27, qg 29 28 (.fa (.s 6) 0), qg 30 28 (.ld (.s 29) 1 false), qg 31 28 (.fa (.s 2) 1), qg 32 28 (.ld (.s 31) 1 false), qg 33 28 (.call false (.s 30) [.s 32]), qg 34 28 (.un .not (.s 33)), qi 35 (.pick (.s 28) qT (.s 34)), qm 36 35, qg 37 36 (.fa (.s 2) 2), qg 38 36 (.ld (.s 37) 1 false), qg 39 36 (.len false (.s 38)), qg 40 36 (.fa (.s 6) 1), qg 41 36 (.ld (.s 40) 1 false), qg 42 36 (.bin .gtr 0 (.s 39) (.s 41)), qi 43 (.pick (.s 36) qT (.s 42)), qm 44 43, qg 45 44 (.fa (.s 2) 3), qg 46 44 (.ld (.s 45) 1 false), qg 47 44 (.len false (.s 46)), qg 48 44 (.fa (.s 6) 2), qg 49 44 (.ld (.s 48) 1 false), qg 50 44 (.bin .neq 0 (.s 47) (.s 49)), qi 51 (.pick (.s 44) qT (.s 50))]) (.cond (.s 51) (.seq (qr [qi 4 (.mv qF)]) .ret) .skip)) (.seq (.seq (qr [qf 52 2 0, qv 53 52, qi 54 (.bin .eql 0 (.s 53) (qu 16))]) (.cond (.s 54) (.seq (qr [qf 55 2 2, qv 56 55, qi 57 (.len false (.s 56)), qi 58 (.bin .eql 0 (.s 57) (qz 2)), qm 59 58, qh 60 59 (.fa (.s 2) 2), qh 61 59 (.ld (.s 60) 1 false), qh 62 59 (.ia (.s 61) (qz 0) 3), qh 63 59 (.ld (.s 62) 3 true), qh 64 59 (.call false (.c (.fn 58 [] [])) [.s 63, qz 0]), qi 65 (.pick (.s 59) (.s 64) qF), qm 66 65, qh 67 66 (.fa (.s 2) 2), qh 68 66 (.ld (.s 67) 1 false), qh 69 66 (.ia (.s 68) (qz 0) 3), qh 70 66 (.fa (.s 69) 0), qh 71 66 (.ld (.s 70) 1 false), qi 72 (.pick (.s 66) (.s 71) qF), qm 73 72, qh 74 73 (.fa (.s 2) 2), qh 75 73 (.ld (.s 74) 1 false), qh 76 73 (.ia (.s 75) (qz 1) 3), qh 77 73 (.fa (.s 76) 0), qh 78 73 (.ld (.s 77) 1 false), qi 79 (.pick (.s 73) (.s 78) qF), qm 80 79, qh 81 80 (.fa (.s 2) 2), qh 82 80 (.ld (.s 81) 1 false), qh 83 80 (.ia (.s 82) (qz 1) 3), qh 84 80 (.fa (.s 83) 1), qh 85 80 (.ld (.s 84) 1 false), qh 86 80 (.call false (.c (.fn 89 [] [])) [.s 85]), qi 87 (.pick (.s 80) (.s 86) qF), qm 88 87, qh 89 88 (.fa (.s 2) 2), qh 90 88 (.ld (.s 89) 1 false), qh 91 88 (.ia (.s 90) (qz 1) 3), qh 92 88 (.fa (.s 91) 2), qh 93 88 (.ld (.s 92) 1 false), qh 94 88 (.len false (.s 93)), qh 95 88 (.bin .eql 0 (.s 94) (qz 0)), qi 96 (.pick (.s 88) (.s 95) qF), qm 4 96]) .ret) .skip)) (.seq (qr [qf 97 2 2, qv 98 97, qi 99 (.mkfn 91 [] [.s 3]), qk 100 90 [.s 98, .s 99], qi 101 (.un .not (.s 100)), qm 102 101, qh 103 102 (.fa (.s 2) 3), qh 104 102 (.ld (.s 103) 1 false), qh 105 102 (.mkfn 93 [] [.s 3]), qh 106 102 (.call false (.c (.fn 92 [] [])) [.s 104, .s 105]), qh 107 102 (.un .not (.s 106)), qi 108 (.pick (.s 102) (.s 107) qF), qm 4 108]) .ret))))))⟩
theorem has54 : Has E 54 af54 := ⟨Go.Proofs.Tryz.f54, [], true, Go.Proofs.Tryz.func54, by decide, by kernel_rfl⟩
def af55 : AF := ⟨3, 33, [.tmp 6], true, .seq (qr [qi 5 (.box (.s 2)), qi 6 (.mv qF)]) (.seq (.seq (qr [qm 7 0, qi 8 (.len true (.s 7)), qi 9 (.bin .lss 0 (.s 8) (qz 1)), qm 10 9, qg 11 10 (.mv (.s 0)), qg 12 10 (.len true (.s 11)), qg 13 10 (.bin .gtr 0 (.s 12) (qz 16)), qi 14 (.pick (.s 10) qT (.s 13)), qm 15 14, qg 16 15 (.mv (.s 1)), qg 17 15 (.mv (.s 0)), qg 18 15 (.ix (.s 17) (qz 0)), qg 19 15 (.call false (.s 16) [.s 18]), qg 20 15 (.un .not (.s 19)), qi 21 (.pick (.s 15) qT (.s 20)), qm 22 21, qg 23 22 (.bslice 0 1 [qs [97, 108, 108], qs [115, 111, 109, 101], qs [102, 97, 108, 115, 101], qs [110, 101, 120, 116], qs [97, 108, 119, 97, 121, 115], qs [117, 110, 116, 105, 108]]), qg 24 22 (.mv (.s 0)), qg 25 22 (.call false (.c (.fn 62 [] [])) [.s 23, .s 24]), qi 26 (.pick (.s 22) qT (.s 25))]) (.cond (.s 26) (.seq (qr [qi 6 (.mv qF)]) .ret) .skip)) (.seq (qr [qm 27 0, qi 28 (.sls (.s 27) (some (qz 1)) none), qi 29 (.conv .s2b (.s 28)), qi 30 (.mkfn 95 [] [.s 5]), qk 31 94 [.s 29, .s 30], qi 32 (.un .not (.s 31)), qm 6 32]) .ret))⟩
theorem has55 : Has E 55 af55 := ⟨Go.Proofs.Tryz.f55, [], true, Go.Proofs.Tryz.func55, by decide, by kernel_rfl⟩
def af56 : AF := ⟨1, 9, [.tmp 2], true, .seq (qr [qi 2 (.mv qF)]) (.seq (qr [qm 3 0, qi 4 (.bin .geq 0 (.s 3) (qu 117)), qm 5 4, qh 6 5 (.mv (.s 0)), qh 7 5 (.bin .leq 0 (.s 6) (qu 122)), qi 8 (.pick (.s 5) (.s 7) qF), qm 2 8]) .ret)⟩
theorem has56 : Has E 56 af56 := ⟨Go.Proofs.Tryz.f56, [], true, Go.Proofs.Tryz.func56, by decide, by kernel_rfl⟩
def af57 : AF := ⟨1, 9, [.tmp 2], true, .seq (qr [qi 2 (.mv qF)]) (.seq (qr [qm 3 0, qi 4 (.bin .geq 0 (.s 3) (qu 48)), qm 5 4, qh 6 5 (.mv (.s 0)), qh 7 5 (.bin .leq 0 (.s 6) (qu 57)), qi 8 (.pick (.s 5) (.s 7) qF), qm 2 8]) .ret)⟩
theorem has57 : Has E 57 af57 := ⟨Go.Proofs.Tryz.f57, [], true, Go.Proofs.Tryz.func57, by decide, by kernel_rfl⟩
def af58 : AF := ⟨2, 41, [.tmp 4], true, .seq (qr [qi 2 (.box (.s 0)), qi 3 (.box (.s 1)), qi 4 (.mv qF)]) (.seq (.seq (qr [qf 5 2 0, qv 6 5]) (.cond (.s 6) (.seq (qr [qf 7 2 2, qv 8 7, qi 9 (.len false (.s 8)), qi 10 (.bin .eql 0 (.s 9) (qz 0)), qm 11 10, qh 12 11 (.fa (.s 2) 1), qh 13 11 (.ld (.s 12) 1 false), qh 14 11 (.call false (.c (.fn 18 [] [])) [.s 13]), qh 15 11 (.mv (.s 14)), qg 16 15 (.ld (.s 3) 1 false), qg 17 15 (.bin .eql 0 (.s 16) (qz 1)), qg 18 15 (.mv (.s 17)), qh 19 18 (.fa (.s 2) 1), qh 20 18 (.ld (.s 19) 1 false), qh 21 18 (.call false (.c (.fn 89 [] [])) [.s 20]), qg 22 15 (.pick (.s 18) (.s 21) qF), qh 23 11 (.pick (.s 15) qT (.s 22)), qi 24 (.pick (.s 11) (.s 23) qF), qm 4 24]) .ret) .skip)) (.seq (qr [qf 25 2 1, qv 26 25, qk 27 96 [.s 26], qm 28 27, qh 29 28 (.fa (.s 2) 2), qh 30 28 (.ld (.s 29) 1 false), qh 31 28 (.len false (.s 30)), qh 32 28 (.bin .leq 0 (.s 31) (qz 4)), qi 33 (.pick (.s 28) (.s 32) qF), qm 34 33, qh 35 34 (.fa (.s 2) 2), qh 36 34 (.ld (.s 35) 1 false), qh 37 34 (.mkfn 97 [] [.s 3]), qh 38 34 (.call false (.c (.fn 90 [] [])) [.s 36, .s 37]), qh 39 34 (.un .not (.s 38)), qi 40 (.pick (.s 34) (.s 39) qF), qm 4 40]) .ret))⟩
theorem has58 : Has E 58 af58 := ⟨Go.Proofs.Tryz.f58, [], true, Go.Proofs.Tryz.func58, by decide, by kernel_rfl⟩
def af59 : AF := ⟨2, 8, [.tmp 4], true, .seq (qr [qi 3 (.box (.s 1)), qi 4 (.mv (qz 0))]) (.seq (qr [qm 5 0, qi 6 (.mkfn 99 [] [.s 3]), qk 7 98 [.s 5, .s 6], qm 4 7]) .ret)⟩
theorem has59 : Has E 59 af59 := ⟨Go.Proofs.Tryz.f59, [], true, Go.Proofs.Tryz.func59, by decide, by kernel_rfl⟩
def af60 : AF := ⟨2, 9, [.tmp 4], true, .seq (qr [qi 4 (.mv qF)]) (.seq (qr [qm 5 0, qm 6 1, qk 7 100 [.s 5, .s 6], qi 8 (.bin .geq 0 (.s 7) (qz 0)), qm 4 8]) .ret)⟩
theorem has60 : Has E 60 af60 := ⟨Go.Proofs.Tryz.f60, [], true, Go.Proofs.Tryz.func60, by decide, by kernel_rfl⟩
def af61 : AF := ⟨2, 16, [.tmp 3], true, .seq (qr [qi 2 (.box (.s 0)), qi 3 (.mv qF)]) (.seq (qr [qv 4 1, qf 5 2 0, qv 6 5, qk 7 62 [.s 4, .s 6], qm 8 7, qh 9 8 (.fa (.s 2) 1), qh 10 8 (.ld (.s 9) 3 true), qh 11 8 (.bslice 0 3 [.s 10]), qh 12 8 (.build [.int .u8 0, .str [], .row 3 [], .row 4 []] [(2, 1, .s 11)]), qh 13 8 (.call false (.c (.fn 30 [] [])) [.s 12]), qh 14 8 (.bin .gtr 0 (.s 13) (qz 400)), qi 15 (.pick (.s 8) (.s 14) qF), qm 3 15]) .ret)⟩
theorem has61 : Has E 61 af61 := ⟨Go.Proofs.Tryz.f61, [], true, Go.Proofs.Tryz.func61, by decide, by kernel_rfl⟩
def af62 : AF := ⟨2, 9, [.tmp 4], true, .seq (qr [qi 4 (.mv qF)]) (.seq (qr [qm 5 0, qm 6 1, qk 7 101 [.s 5, .s 6], qi 8 (.bin .geq 0 (.s 7) (qz 0)), qm 4 8]) .ret)⟩
theorem has62 : Has E 62 af62 := ⟨Go.Proofs.Tryz.f62, [], true, Go.Proofs.Tryz.func62, by decide, by kernel_rfl⟩
def af63 : AF := ⟨2, 114, [.cell 4 4 true], true, .seq (qr [qi 3 (.box (.s 1)), qi 4 qA]) (.seq (.seq (qr [ql 15 3 4, qk 16 102 [.s 15], qi 17 (.un .not (.s 16))]) (.cond (.s 17) (.seq (qd [qf 18 3 2, qv 19 18, qm 20 0, qi 21 (.mkfn 72 [.s 20] []), qk 22 103 [.s 19, .s 21], qf 23 3 3, qv 24 23, qm 25 0, qi 26 (.mkfn 63 [.s 25] []), qk 27 104 [.s 24, .s 26], qf 28 3 2, qt 28 22 1, qf 29 3 3, qt 29 27 1]) (.seq (qr [ql 30 3 4, qt 4 30 4]) .ret)) .skip)) (.seq (qr [qf 31 3 3, qv 32 31, qi 33 (.ia (.s 32) (qz 0) 4), ql 34 33 4, qk 35 67 [.s 34], qk 36 105 [.s 35], qm 5 36]) (.seq (qr [qi 6 (.nil false 4)]) (.seq (.seq (qr [qm 37 0, qi 38 (.len false (.s 37)), qi 39 (.mv (qz 0))]) (.block 0 (.loop (.seq (qr [qi 40 (.bin .lss 0 (.s 39) (.s 38))]) (.seq (.cond (.s 40) .skip (.exit 0)) (.seq (.block 1 (.seq (qr [qa 41 37 39 4, ql 42 41 4, qi 8 (.alloc [.str [], .bool false, .str [], .row 3 []]), qt 8 42 4]) (.seq (qr [qf 43 8 0, qv 44 43, qf 45 3 1, qv 46 45, qi 47 (.bin .neq 1 (.s 44) (.s 46)), qm 48 47, qh 49 48 (.mv (.s 5)), qh 50 48 (.fa (.s 8) 0), qh 51 48 (.ld (.s 50) 1 false), qh 52 48 (.call false (.c (.fn 62 [] [])) [.s 49, .s 51]), qi 53 (.pick (.s 48) (.s 52) qF)]) (.cond (.s 53) (qr [qm 54 6, ql 55 8 4, qi 56 (.bslice 0 4 [.s 55]), qi 57 (.app (.s 54) (.s 56) 4 64), qm 6 57]) .skip)))) (qr [qi 58 (.bin .add 0 (.s 39) (qz 1)), qm 39 58]))))))) (.seq (.seq (qr [qm 59 6, qi 60 (.len false (.s 59)), qi 61 (.bin .eql 0 (.s 60) (qz 0))]) (.cond (.s 61) (.seq (qr [ql 62 3 4, qk 63 106 [.s 62], qt 4 63 4]) .ret) .skip)) (.seq (qr [qm 64 5, qi 9 (.alloc [.row 1 []]), qt 9 64 1]) (.seq (qr [qi 10 (.alloc [.bool false]), ⟨none, .st (.s 10) qF 1, none⟩]) (.seq (.seq (qr [qm 65 6, qi 66 (.len false (.s 65)), qi 67 (.mv (qz 0))]) (.block 2 (.loop (.seq (qr [qi 68 (.bin .lss 0 (.s 67) (.s 66))]) (.seq (.cond (.s 68) .skip (.exit 2)) (.seq (.block 3 (.seq (qr [qa 69 65 67 4, ql 70 69 4, qi 12 (.alloc [.str [], .bool false, .str [], .row 3 []]), qt 12 70 4]) (.seq (.seq (qr [qf 71 12 1, ql 72 71 3, qi 73 (.bslice 0 3 [.s 72]), qk 74 73 [.s 73]]) (.block 4 (.rf (.s 74) [75] (qr [qm 13 75]) (.block 5 (.seq (qr [qv 76 9, qm 77 13, qi 78 (.bslice 0 1 [.s 77]), qi 79 (.app (.s 76) (.s 78) 1 16), qt 9 79 1]) (qr [qv 80 10, qm 81 80, qg 82 81 (.mv (.s 13)), qg 83 81 (.fa (.s 3) 1), qg 84 81 (.ld (.s 83) 1 false), qg 85 81 (.bin .eql 1 (.s 82) (.s 84)), qi 86 (.pick (.s 81) qT (.s 85)), qt 10 86 1])))))) (qr [qv 87 9, qf 88 12 0, qv 89 88, qi 90 (.bslice 0 1 [.s 89]), qi 91 (.app (.s 87) (.s 90) 1 16), qt 9 91 1])))) (qr [qi 92 (.bin .add 0 (.s 67) (qz 1)), qm 67 92]))))))) (.seq (.seq (qr [qv 93 10]) (.cond (.s 93) (.seq (qr [qv 94 9, qk 95 52 [.s 94], qm 14 95]) (.seq (qr [qm 96 6, qf 97 3 1, qv 98 97, qm 99 14, qi 100 (.build [.bool false, .str [], .row 3 []] [(0, 1, qT), (1, 1, .s 99)]), qi 101 (.build [.str [], .bool false, .str [], .row 3 []] [(0, 1, .s 98), (1, 3, .s 100)]), qi 102 (.bslice 0 4 [.s 101]), qi 103 (.app (.s 96) (.s 102) 4 64), qm 6 103]) (qr [qm 104 14, qf 105 3 1, qt 105 104 1]))) .skip)) (.seq (qr [qf 106 3 3, qv 107 106, qm 108 6, qi 109 (.mkfn 63 [.s 108] []), qk 110 104 [.s 107, .s 109], qf 111 3 2, ⟨none, .st (.s 111) (.c (.d .top (.row 3 []))) 1, none⟩, qf 112 3 3, qt 112 110 1]) (.seq (qr [ql 113 3 4, qt 4 113 4]) .ret)))))))))))⟩
theorem has63 : Has E 63 af63 := ⟨Go.Proofs.Tryz.f63, [], true, Go.Proofs.Tryz.func63, by decide, by kernel_rfl⟩
def af64 : AF := ⟨1, 23, [.tmp 2], true, .seq (qr [qi 1 (.box (.s 0)), qi 2 (.mv (qz 0))]) (.seq (qr [qf 6 1 2, qv 7 6, qk 8 107 [.s 7], qm 3 8]) (.seq (.seq (qr [qf 9 1 3, qv 10 9, qi 11 (.len false (.s 10)), qi 12 (.mv (qz 0))]) (.block 0 (.loop (.seq (qr [qi 13 (.bin .lss 0 (.s 12) (.s 11))]) (.seq (.cond (.s 13) .skip (.exit 0)) (.seq (.block 1 (.seq (qr [qa 14 10 12 4, ql 15 14 4, qi 5 qA, qt 5 15 4]) (qr [qm 16 3, ql 17 5 4, qk 18 64 [.s 17], qi 19 (.mx [.s 16, .s 18]), qm 3 19]))) (qr [qi 20 (.bin .add 0 (.s 12) (qz 1)), qm 12 20]))))))) (.seq (qr [qm 21 3, qi 22 (.bin .add 0 (.s 21) (qz 1)), qm 2 22]) .ret)))⟩
theorem has64 : Has E 64 af64 := ⟨Go.Proofs.Tryz.f64, [], true, Go.Proofs.Tryz.func64, by decide, by kernel_rfl⟩
end Go.Ly.Tr
end
section
set_option maxRecDepth 10000
namespace Go.Ly.Tr
def af65 : AF := ⟨2, 27, [.tmp 4], true, .seq (qr [qi 4 (.mv qF)]) (.seq (.seq (qr [qm 6 0, qi 7 (.len false (.s 6)), qm 8 1, qi 9 (.len false (.s 8)), qi 10 (.bin .neq 0 (.s 7) (.s 9))]) (.cond (.s 10) (.seq (qr [qi 4 (.mv qF)]) .ret) .skip)) (.seq (.seq (qr [qi 5 (.mv (qz 0))]) (.block 0 (.loop (.seq (.seq (qr [qm 11 5, qm 12 0, qi 13 (.len false (.s 12)), qi 14 (.bin .lss 0 (.s 11) (.s 13))]) (.cond (.s 14) .skip (.exit 0))) (.seq (.block 1 (.seq (qd [qm 17 0, qm 18 5, qa 19 17 18 4, ql 20 19 4, qm 21 1, qm 22 5, qa 23 21 22 4, ql 24 23 4, qk 25 23 [.s 20, .s 24], qi 26 (.un .not (.s 25))]) (.cond (.s 26) (.seq (qr [qi 4 (.mv qF)]) .ret) .skip))) (qr [qm 15 5, qi 16 (.bin .add 0 (.s 15) (qz 1)), qm 5 16])))))) (.seq (qr [qi 4 (.mv qT)]) .ret)))⟩
theorem has65 : Has E 65 af65 := ⟨Go.Proofs.Tryz.f65, [], true, Go.Proofs.Tryz.func65, by decide, by kernel_rfl⟩
def af67 : AF := ⟨1, 4, [.tmp 2], true, .seq (qr [qi 1 (.box (.s 0)), qi 2 (.mv (.c (.d .top .nf)))]) (.seq (qr [qi 3 (.mkfn 109 [] [.s 1]), qm 2 3]) .ret)⟩
theorem has67 : Has E 67 af67 := ⟨Go.Proofs.Tryz.f67, [], true, Go.Proofs.Tryz.func67, by decide, by kernel_rfl⟩
def af68 : AF := ⟨3, 48, [.cell 6 4 true], true, .seq (qr [qi 3 (.box (.s 0)), qi 4 (.box (.s 1)), qi 5 (.box (.s 2)), qi 6 qA]) (.seq (.seq (qr [ql 9 3 4, qk 10 102 [.s 9], qi 11 (.un .not (.s 10))]) (.cond (.s 11) (.seq (qr [qf 12 3 2, qv 13 12, qv 14 5, qi 15 (.mkfn 72 [.s 14] []), qk 16 103 [.s 13, .s 15], qf 17 3 2, qt 17 16 1]) (.seq (qr [qf 18 3 3, qv 19 18, qi 20 (.mkfn 110 [] [.s 4, .s 5]), qk 21 104 [.s 19, .s 20], qf 22 3 3, qt 22 21 1]) (.seq (qr [ql 23 3 4, qt 6 23 4]) .ret))) .skip)) (.seq (qr [qv 24 4, qk 25 52 [.s 24], qm 7 25]) (.seq (qr [qf 26 3 1, qv 27 26, qm 28 7, qi 29 (.build [.bool false, .str [], .row 3 []] [(0, 1, qT), (1, 1, .s 28)]), qi 30 (.build [.str [], .bool false, .str [], .row 3 []] [(0, 1, .s 27), (1, 3, .s 29)]), qi 31 (.bslice 1 4 [.s 30]), qv 32 5, qi 33 (.app (.s 31) (.s 32) 4 64), qi 8 (.alloc [.row 4 []]), qt 8 33 1]) (.seq (qr [qv 34 4, qk 35 111 [.s 34], qm 36 7, qi 37 (.bslice 0 1 [.s 36]), qi 38 (.app (.s 35) (.s 37) 1 16), qt 4 38 1]) (.seq (qr [qm 39 7, qf 40 3 1, qt 40 39 1, qf 41 3 2, ⟨none, .st (.s 41) (.c (.d .top (.row 3 []))) 1, none⟩]) (.seq (qr [qf 42 3 3, qv 43 42, qi 44 (.mkfn 112 [] [.s 4, .s 8]), qk 45 104 [.s 43, .s 44], qf 46 3 3, qt 46 45 1]) (.seq (qr [ql 47 3 4, qt 6 47 4]) .ret)))))))⟩
theorem has68 : Has E 68 af68 := ⟨Go.Proofs.Tryz.f68, [], true, Go.Proofs.Tryz.func68, by decide, by kernel_rfl⟩
def af69 : AF := ⟨2, 9, [.tmp 4], true, .seq (qr [qi 2 (.box (.s 0)), qi 3 (.box (.s 1)), qi 4 (.mv qF)]) (.seq (qr [ql 5 2 4, ql 6 3 4, qk 7 113 [.s 5, .s 6], qi 8 (.bin .eql 0 (.s 7) (qz 0)), qm 4 8]) .ret)⟩
theorem has69 : Has E 69 af69 := ⟨Go.Proofs.Tryz.f69, [], true, Go.Proofs.Tryz.func69, by decide, by kernel_rfl⟩
def af70 : AF := ⟨1, 4, [.tmp 2], true, .seq (qr [qi 1 (.box (.s 0)), qi 2 (.mv (.c (.d .top .nf)))]) (.seq (qr [qi 3 (.mkfn 114 [] [.s 1]), qm 2 3]) .ret)⟩
theorem has70 : Has E 70 af70 := ⟨Go.Proofs.Tryz.f70, [], true, Go.Proofs.Tryz.func70, by decide, by kernel_rfl⟩
def af71 : AF := ⟨1, 4, [.tmp 2], true, .seq (qr [qi 1 (.box (.s 0)), qi 2 (.mv (.c (.d .top .nf)))]) (.seq (qr [qi 3 (.mkfn 116 [] [.s 1]), qm 2 3]) .ret)⟩
theorem has71 : Has E 71 af71 := ⟨Go.Proofs.Tryz.f71, [], true, Go.Proofs.Tryz.func71, by decide, by kernel_rfl⟩
def af72 : AF := ⟨2, 27, [.cell 4 3 true], true, .seq (qr [qi 3 (.box (.s 1)), qi 4 qB]) (.seq (.seq (qr [qf 6 3 0, qv 7 6]) (.cond (.s 7) (.seq (qr [qm 8 0, qf 9 3 1, qv 10 9, qk 11 59 [.s 8, .s 10], qm 5 11]) (.seq (qr [qm 12 5, qi 13 (.bin .geq 0 (.s 12) (qz 0))]) (.cond (.s 13) (.seq (qr [qm 14 0, qm 15 5, qa 16 14 15 4, qf 17 16 1, ql 18 17 3, qk 19 117 [.s 18], qt 4 19 3]) .ret) .skip))) .skip)) (.seq (qr [qf 20 3 2, qv 21 20, qm 22 0, qi 23 (.mkfn 72 [.s 22] []), qk 24 103 [.s 21, .s 23], qf 25 3 2, qt 25 24 1]) (.seq (qr [ql 26 3 3, qt 4 26 3]) .ret)))⟩
theorem has72 : Has E 72 af72 := ⟨Go.Proofs.Tryz.f72, [], true, Go.Proofs.Tryz.func72, by decide, by kernel_rfl⟩
def af73 : AF := ⟨1, 4, [.tmp 2], true, .seq (qr [qi 1 (.box (.s 0)), qi 2 (.mv (.c (.d .top .nf)))]) (.seq (qr [qi 3 (.mkfn 118 [] [.s 1]), qm 2 3]) .ret)⟩
theorem has73 : Has E 73 af73 := ⟨Go.Proofs.Tryz.f73, [], true, Go.Proofs.Tryz.func73, by decide, by kernel_rfl⟩
def af74 : AF := ⟨2, 39, [.tmp 4], true, .seq (qr [qi 4 (.mv (qz 0))]) (.seq (qr [qi 5 (.mv (qz 0))]) (.seq (.seq (qr [qi 6 (.mv (qz 0))]) (.block 0 (.loop (.seq (.seq (qr [qm 7 6, qm 8 0, qi 9 (.len false (.s 8)), qi 10 (.bin .lss 0 (.s 7) (.s 9))]) (.cond (.s 10) .skip (.exit 0))) (.seq (.block 1 (.seq (.seq (qr [qm 13 0, qm 14 6, qa 15 13 14 3, qf 16 15 0, qv 17 16, qm 18 17, qh 19 18 (.mv (.s 0)), qh 20 18 (.mv (.s 6)), qh 21 18 (.ia (.s 19) (.s 20) 3), qh 22 18 (.fa (.s 21) 1), qh 23 18 (.ld (.s 22) 1 false), qh 24 18 (.mv (.s 1)), qh 25 18 (.bin .eql 1 (.s 23) (.s 24)), qi 26 (.pick (.s 18) (.s 25) qF)]) (.cond (.s 26) (qr [qm 27 5, qi 28 (.bin .add 0 (.s 27) (qz 1)), qm 5 28]) .skip)) (qr [qm 29 5, qm 30 0, qm 31 6, qa 32 30 31 3, qf 33 32 2, qv 34 33, qm 35 1, qk 36 74 [.s 34, .s 35], qi 37 (.bin .add 0 (.s 29) (.s 36)), qm 5 37]))) (qr [qm 11 6, qi 12 (.bin .add 0 (.s 11) (qz 1)), qm 6 12])))))) (.seq (qr [qm 38 5, qm 4 38]) .ret)))⟩
theorem has74 : Has E 74 af74 := ⟨Go.Proofs.Tryz.f74, [], true, Go.Proofs.Tryz.func74, by decide, by kernel_rfl⟩
def af88 : AF := ⟨0, 24, [.cell 0 68 true], true, .seq (qr [qi 0 (.alloc [.nf, .int .i64 0, .int .i64 0, .int .i64 0, .nf, .int .i64 0, .int .i64 0, .int .i64 0, .nf, .int .i64 0, .int .i64 0, .int .i64 0, .nf, .int .i64 0, .int .i64 0, .int .i64 0, .nf, .int .i64 0, .int .i64 0, .int .i64 0, .nf, .int .i64 0, .int .i64 0, .int .i64 0, .nf, .int .i64 0, .int .i64 0, .int .i64 0, .nf, .int .i64 0, .int .i64 0, .int .i64 0, .nf, .int .i64 0, .int .i64 0, .int .i64 0, .nf, .int .i64 0, .int .i64 0, .int .i64 0, .nf, .int .i64 0, .int .i64 0, .int .i64 0, .nf, .int .i64 0, .int .i64 0, .int .i64 0, .nf, .int .i64 0, .int .i64 0, .int .i64 0, .nf, .int .i64 0, .int .i64 0, .int .i64 0, .nf, .int .i64 0, .int .i64 0, .int .i64 0, .nf, .int .i64 0, .int .i64 0, .int .i64 0, .nf, .int .i64 0, .int .i64 0, .int .i64 0])]) (.seq (qr [qi 4 (.build [.nf, .int .i64 0, .int .i64 0, .int .i64 0] [(0, 1, .c (.fn 133 [] [])), (1, 1, qz 0), (2, 1, qz 1), (3, 1, qz 0)]), qi 5 (.build [.nf, .int .i64 0, .int .i64 0, .int .i64 0] [(0, 1, .c (.fn 133 [] [])), (1, 1, qz 0), (2, 1, qz 2), (3, 1, qz 0)]), qi 6 (.build [.nf, .int .i64 0, .int .i64 0, .int .i64 0] [(0, 1, .c (.fn 18 [] [])), (1, 1, qz 0), (2, 1, qz 1), (3, 1, qz 0)]), qi 1 (.alloc [.nf, .int .i64 0, .int .i64 0, .int .i64 0]), qi 2 (.alloc [.nf, .int .i64 0, .int .i64 0, .int .i64 0]), qi 3 (.alloc [.nf, .int .i64 0, .int .i64 0, .int .i64 0]), qt 1 4 4, qt 2 5 4, qt 3 6 4]) (.seq (qr [qi 7 (.build [.nf, .int .i64 0, .int .i64 0, .int .i64 0] [(0, 1, .c (.fn 134 [] [])), (1, 1, qz 4), (2, 1, qz 0), (3, 1, qz 0)]), qi 8 (.build [.nf, .int .i64 0, .int .i64 0, .int .i64 0] [(0, 1, .c (.fn 133 [] [])), (1, 1, qz 0), (2, 1, qz 0), (3, 1, qz 0)]), ql 9 1 4, ql 10 1 4, ql 11 1 4, ql 12 1 4, ql 13 1 4, ql 14 2 4, ql 15 2 4, ql 16 2 4, ql 17 2 4, ql 18 2 4, ql 19 3 4, ql 20 3 4, qi 21 (.build [.nf, .int .i64 0, .int .i64 0, .int .i64 0] [(0, 1, .c (.fn 135 [] [])), (1, 1, qz 0), (2, 1, qz 0), (3, 1, qz 1)]), qi 22 (.build [.nf, .int .i64 0, .int .i64 0, .int .i64 0] [(0, 1, .c (.fn 135 [] [])), (1, 1, qz 2), (2, 1, qz 0), (3, 1, qz 1)]), qi 23 (.build [.nf, .int .i64 0, .int .i64 0, .int .i64 0, .nf, .int .i64 0, .int .i64 0, .int .i64 0, .nf, .int .i64 0, .int .i64 0, .int .i64 0, .nf, .int .i64 0, .int .i64 0, .int .i64 0, .nf, .int .i64 0, .int .i64 0, .int .i64 0, .nf, .int .i64 0, .int .i64 0, .int .i64 0, .nf, .int .i64 0, .int .i64 0, .int .i64 0, .nf, .int .i64 0, .int .i64 0, .int .i64 0, .nf, .int .i64 0, .int .i64 0, .int .i64 0, .nf, .int .i64 0, .int .i64 0, .int .i64 0, .nf, .int .i64 0, .int .i64 0, .int .i64 0, .nf, .int .i64 0, .int .i64 0, .int .i64 0, .nf, .int .i64 0, .int .i64 0, .int .i64 0, .nf, .int .i64 0, .int .i64 0, .int .i64 0, .nf, .int .i64 0, .int .i64 0, .int .i64 0, .nf, .int .i64 0, .int .i64 0, .int .i64 0, .nf, .int .i64 0, .int .i64 0, .int .i64 0] [(4, 4, .s 7), (8, 4, .s 8), (12, 4, .s 9), (40, 4, .s 10), (44, 4, .s 11), (48, 4, .s 12), (52, 4, .s 13), (16, 4, .s 14), (20, 4, .s 15), (24, 4, .s 16), (28, 4, .s 17), (56, 4, .s 18), (32, 4, .s 19), (36, 4, .s 20), (60, 4, .s 21), (64, 4, .s 22)]), qt 0 23 68]) .ret))⟩
theorem has88 : Has E 88 af88 := ⟨Go.Proofs.Tryz.f88, [], true, Go.Proofs.Tryz.func88, by decide, by kernel_rfl⟩
def af90 : AF := ⟨2, 9, [.tmp 4], true, .seq (qr [qi 4 (.mv qF)]) (.seq (qr [qm 5 0, qm 6 1, qk 7 137 [.s 5, .s 6], qi 8 (.bin .geq 0 (.s 7) (qz 0)), qm 4 8]) .ret)⟩
theorem has90 : Has E 90 af90 := ⟨Go.Proofs.Tryz.f90, [], true, Go.Proofs.Tryz.func90, by decide, by kernel_rfl⟩
def af91 : AF := ⟨2, 8, [.tmp 3], true, .seq (qr [qi 2 (.box (.s 0)), qi 3 (.mv qF)]) (.seq (qr [ql 4 2 3, qv 5 1, qk 6 58 [.s 4, .s 5], qi 7 (.un .not (.s 6)), qm 3 7]) .ret)⟩
theorem has91 : Has E 91 af91 := ⟨Go.Proofs.Tryz.f91, [], true, Go.Proofs.Tryz.func91, by decide, by kernel_rfl⟩
def af92 : AF := ⟨2, 9, [.tmp 4], true, .seq (qr [qi 4 (.mv qF)]) (.seq (qr [qm 5 0, qm 6 1, qk 7 138 [.s 5, .s 6], qi 8 (.bin .geq 0 (.s 7) (qz 0)), qm 4 8]) .ret)⟩
theorem has92 : Has E 92 af92 := ⟨Go.Proofs.Tryz.f92, [], true, Go.Proofs.Tryz.func92, by decide, by kernel_rfl⟩
def af93 : AF := ⟨2, 8, [.tmp 3], true, .seq (qr [qi 2 (.box (.s 0)), qi 3 (.mv qF)]) (.seq (qr [ql 4 2 4, qv 5 1, qk 6 54 [.s 4, .s 5], qi 7 (.un .not (.s 6)), qm 3 7]) .ret)⟩
theorem has93 : Has E 93 af93 := ⟨Go.Proofs.Tryz.f93, [], true, Go.Proofs.Tryz.func93, by decide, by kernel_rfl⟩
def af94 : AF := ⟨2, 9, [.tmp 4], true, .seq (qr [qi 4 (.mv qF)]) (.seq (qr [qm 5 0, qm 6 1, qk 7 139 [.s 5, .s 6], qi 8 (.bin .geq 0 (.s 7) (qz 0)), qm 4 8]) .ret)⟩
theorem has94 : Has E 94 af94 := ⟨Go.Proofs.Tryz.f94, [], true, Go.Proofs.Tryz.func94, by decide, by kernel_rfl⟩
def af95 : AF := ⟨2, 8, [.tmp 3], true, .seq (qr [qi 3 (.mv qF)]) (.seq (qr [qv 4 1, qm 5 0, qi 6 (.call false (.s 4) [.s 5]), qi 7 (.un .not (.s 6)), qm 3 7]) .ret)⟩
theorem has95 : Has E 95 af95 := ⟨Go.Proofs.Tryz.f95, [], true, Go.Proofs.Tryz.func95, by decide, by kernel_rfl⟩
def af96 : AF := ⟨1, 5, [.tmp 2], true, .seq (qr [qi 2 (.mv qF)]) (.seq (qr [qm 3 0, qk 4 55 [.s 3, .c (.fn 140 [] []), .c (.fn 141 [] [])], qm 2 4]) .ret)⟩
theorem has96 : Has E 96 af96 := ⟨Go.Proofs.Tryz.f96, [], true, Go.Proofs.Tryz.func96, by decide, by kernel_rfl⟩
def af97 : AF := ⟨2, 8, [.tmp 3], true, .seq (qr [qi 2 (.box (.s 0)), qi 3 (.mv qF)]) (.seq (qr [ql 4 2 3, qv 5 1, qk 6 58 [.s 4, .s 5], qi 7 (.un .not (.s 6)), qm 3 7]) .ret)⟩
theorem has97 : Has E 97 af97 := ⟨Go.Proofs.Tryz.f97, [], true, Go.Proofs.Tryz.func97, by decide, by kernel_rfl⟩
def af98 : AF := ⟨2, 19, [.tmp 4], true, .seq (qr [qi 4 (.mv (qz 0))]) (.seq (.seq (qr [qm 6 0, qi 7 (.len false (.s 6)), qi 8 (.mv (qz 0))]) (.block 0 (.loop (.seq (qr [qi 9 (.bin .lss 0 (.s 8) (.s 7))]) (.seq (.cond (.s 9) .skip (.exit 0)) (.seq (.block 1 (.seq (qr [qm 10 8, qm 5 10]) (.seq (qr [qm 11 1, qm 12 0, qm 13 5, qa 14 12 13 4, ql 15 14 4, qi 16 (.call false (.s 11) [.s 15])]) (.cond (.s 16) (.seq (qr [qm 17 5, qm 4 17]) .ret) .skip)))) (qr [qi 18 (.bin .add 0 (.s 8) (qz 1)), qm 8 18]))))))) (.seq (qr [qi 4 (.mv (qz (-1)))]) .ret))⟩
theorem has98 : Has E 98 af98 := ⟨Go.Proofs.Tryz.f98, [], true, Go.Proofs.Tryz.func98, by decide, by kernel_rfl⟩
def af99 : AF := ⟨2, 8, [.tmp 3], true, .seq (qr [qi 2 (.box (.s 0)), qi 3 (.mv qF)]) (.seq (qr [qf 4 2 0, qv 5 4, qv 6 1, qi 7 (.bin .eql 1 (.s 5) (.s 6)), qm 3 7]) .ret)⟩
theorem has99 : Has E 99 af99 := ⟨Go.Proofs.Tryz.f99, [], true, Go.Proofs.Tryz.func99, by decide, by kernel_rfl⟩
def af100 : AF := ⟨2, 19, [.tmp 4], true, .seq (qr [qi 4 (.mv (qz 0))]) (.seq (.seq (qr [qm 6 0, qi 7 (.len false (.s 6)), qi 8 (.mv (qz 0))]) (.block 0 (.loop (.seq (qr [qi 9 (.bin .lss 0 (.s 8) (.s 7))]) (.seq (.cond (.s 9) .skip (.exit 0)) (.seq (.block 1 (.seq (qr [qm 10 8, qm 5 10]) (.seq (qr [qm 11 1, qm 12 0, qm 13 5, qa 14 12 13 4, ql 15 14 4, qi 16 (.call false (.s 11) [.s 15])]) (.cond (.s 16) (.seq (qr [qm 17 5, qm 4 17]) .ret) .skip)))) (qr [qi 18 (.bin .add 0 (.s 8) (qz 1)), qm 8 18]))))))) (.seq (qr [qi 4 (.mv (qz (-1)))]) .ret))⟩
theorem has100 : Has E 100 af100 := ⟨Go.Proofs.Tryz.f100, [], true, Go.Proofs.Tryz.func100, by decide, by kernel_rfl⟩
def af101 : AF := ⟨2, 19, [.tmp 4], true, .seq (qr [qi 4 (.mv (qz 0))]) (.seq (.seq (qr [qm 6 0, qi 7 (.len false (.s 6)), qi 8 (.mv (qz 0))]) (.block 0 (.loop (.seq (qr [qi 9 (.bin .lss 0 (.s 8) (.s 7))]) (.seq (.cond (.s 9) .skip (.exit 0)) (.seq (.block 1 (.seq (qr [qm 10 8, qm 5 10]) (.seq (qr [qm 11 1, qm 12 0, qm 13 5, qa 14 12 13 1, qv 15 14, qi 16 (.bin .eql 1 (.s 11) (.s 15))]) (.cond (.s 16) (.seq (qr [qm 17 5, qm 4 17]) .ret) .skip)))) (qr [qi 18 (.bin .add 0 (.s 8) (qz 1)), qm 8 18]))))))) (.seq (qr [qi 4 (.mv (qz (-1)))]) .ret))⟩
theorem has101 : Has E 101 af101 := ⟨Go.Proofs.Tryz.f101, [], true, Go.Proofs.Tryz.func101, by decide, by kernel_rfl⟩
def af102 : AF := ⟨1, 11, [.tmp 2], true, .seq (qr [qi 1 (.box (.s 0)), qi 2 (.mv qF)]) (.seq (qr [qf 3 1 0, qv 4 3, qi 5 (.bin .eql 0 (.s 4) (qu 8)), qm 6 5, qg 7 6 (.fa (.s 1) 0), qg 8 6 (.ld (.s 7) 1 false), qg 9 6 (.bin .eql 0 (.s 8) (qu 9)), qi 10 (.pick (.s 6) qT (.s 9)), qm 2 10]) .ret)⟩
theorem has102 : Has E 102 af102 := ⟨Go.Proofs.Tryz.f102, [], true, Go.Proofs.Tryz.func102, by decide, by kernel_rfl⟩
def af103 : AF := ⟨2, 22, [.tmp 4], true, .seq (qr [qi 4 (.nil false 3)]) (.seq (qr [qi 5 (.nil false 3)]) (.seq (.seq (qr [qm 8 0, qi 9 (.len false (.s 8)), qi 10 (.mv (qz 0))]) (.block 0 (.loop (.seq (qr [qi 11 (.bin .lss 0 (.s 10) (.s 9))]) (.seq (.cond (.s 11) .skip (.exit 0)) (.seq (.block 1 (.seq (qr [qa 12 8 10 3, ql 13 12 3, qi 7 qB, qt 7 13 3]) (qr [qm 14 5, qm 15 1, ql 16 7 3, qi 17 (.call false (.s 15) [.s 16]), qi 18 (.bslice 0 3 [.s 17]), qi 19 (.app (.s 14) (.s 18) 3 48), qm 5 19]))) (qr [qi 20 (.bin .add 0 (.s 10) (qz 1)), qm 10 20]))))))) (.seq (qr [qm 21 5, qm 4 21]) .ret)))⟩
theorem has103 : Has E 103 af103 := ⟨Go.Proofs.Tryz.f103, [], true, Go.Proofs.Tryz.func103, by decide, by kernel_rfl⟩
def af104 : AF := ⟨2, 22, [.tmp 4], true, .seq (qr [qi 4 (.nil false 4)]) (.seq (qr [qi 5 (.nil false 4)]) (.seq (.seq (qr [qm 8 0, qi 9 (.len false (.s 8)), qi 10 (.mv (qz 0))]) (.block 0 (.loop (.seq (qr [qi 11 (.bin .lss 0 (.s 10) (.s 9))]) (.seq (.cond (.s 11) .skip (.exit 0)) (.seq (.block 1 (.seq (qr [qa 12 8 10 4, ql 13 12 4, qi 7 qA, qt 7 13 4]) (qr [qm 14 5, qm 15 1, ql 16 7 4, qi 17 (.call false (.s 15) [.s 16]), qi 18 (.bslice 0 4 [.s 17]), qi 19 (.app (.s 14) (.s 18) 4 72), qm 5 19]))) (qr [qi 20 (.bin .add 0 (.s 10) (qz 1)), qm 10 20]))))))) (.seq (qr [qm 21 5, qm 4 21]) .ret)))⟩
theorem has104 : Has E 104 af104 := ⟨Go.Proofs.Tryz.f104, [], true, Go.Proofs.Tryz.func104, by decide, by kernel_rfl⟩
def af105 : AF := ⟨1, 5, [.tmp 2], true, .seq (qr [qi 2 (.nil false 1)]) (.seq (qr [qm 3 0, qk 4 142 [.c (.d .top (.row 1 [])), .s 3], qm 2 4]) .ret)⟩
theorem has105 : Has E 105 af105 := ⟨Go.Proofs.Tryz.f105, [], true, Go.Proofs.Tryz.func105, by decide, by kernel_rfl⟩
def af106 : AF := ⟨1, 12, [.cell 2 4 true], true, .seq (qr [qi 1 (.box (.s 0)), qi 2 qA]) (.seq (qd [qf 3 1 2, qv 4 3, qk 5 143 [.s 4, .c (.fn 144 [] [])], qf 6 1 3, qv 7 6, qk 8 145 [.s 7, .c (.fn 106 [] [])], qf 9 1 2, qt 9 5 1, qf 10 1 3, qt 10 8 1]) (.seq (qr [ql 11 1 4, qt 2 11 4]) .ret))⟩
theorem has106 : Has E 106 af106 := ⟨Go.Proofs.Tryz.f106, [], true, Go.Proofs.Tryz.func106, by decide, by kernel_rfl⟩
def af107 : AF := ⟨1, 20, [.tmp 2], true, .seq (qr [qi 2 (.mv (qz 0))]) (.seq (qr [qi 3 (.mv (qz 0))]) (.seq (.seq (qr [qm 6 0, qi 7 (.len false (.s 6)), qi 8 (.mv (qz 0))]) (.block 0 (.loop (.seq (qr [qi 9 (.bin .lss 0 (.s 8) (.s 7))]) (.seq (.cond (.s 9) .skip (.exit 0)) (.seq (.block 1 (.seq (qr [qa 10 6 8 3, ql 11 10 3, qi 5 qB, qt 5 11 3]) (qr [qm 12 3, qf 13 5 2, qv 14 13, qk 15 107 [.s 14], qi 16 (.bin .add 0 (qz 1) (.s 15)), qi 17 (.mx [.s 12, .s 16]), qm 3 17]))) (qr [qi 18 (.bin .add 0 (.s 8) (qz 1)), qm 8 18]))))))) (.seq (qr [qm 19 3, qm 2 19]) .ret)))⟩
theorem has107 : Has E 107 af107 := ⟨Go.Proofs.Tryz.f107, [], true, Go.Proofs.Tryz.func107, by decide, by kernel_rfl⟩
def af108 : AF := ⟨1, 11, [], true, .seq (qr [qm 3 0, qi 4 (.len false (.s 3)), qm 2 4]) (qr [qm 5 0, qm 6 2, qm 7 2, qi 8 (.conv (.toInt .u64) (.s 7)), qk 9 147 [.s 8], qk 10 146 [.s 5, qz 0, .s 6, .s 9]])⟩
theorem has108 : Has E 108 af108 := ⟨Go.Proofs.Tryz.f108, [], true, Go.Proofs.Tryz.func108, by decide, by kernel_rfl⟩
def af109 : AF := ⟨2, 38, [], true, .seq (qr [qi 2 (.box (.s 0))]) (.seq (.seq (qr [qf 7 1 2, qv 8 7, qk 9 73 [.s 8]]) (.block 0 (.rf (.s 9) [10] (qr [qm 3 10]) (.block 1 (.seq (qr [qv 11 2, qm 12 3, qi 13 (.call false (.s 11) [.s 12]), qi 14 (.un .not (.s 13))]) (.cond (.s 14) .ret .skip)))))) (.seq (qr [qf 15 1 3, qv 16 15, qi 17 (.len false (.s 16)), qi 18 (.mv (qz 0))]) (.block 2 (.loop (.seq (qr [qi 19 (.bin .lss 0 (.s 18) (.s 17))]) (.seq (.cond (.s 19) .skip (.exit 2)) (.seq (.block 3 (.seq (qr [qa 20 16 18 4, ql 21 20 4, qi 5 qA, qt 5 21 4]) (.seq (qr [ql 22 5 4, qk 23 67 [.s 22]]) (.block 4 (.rf (.s 23) [24] (qr [qm 6 24]) (.block 5 (.seq (.seq (qr [ql 25 1 4, qk 26 102 [.s 25], qm 27 26, qh 28 27 (.mv (.s 6)), qh 29 27 (.fa (.s 1) 1), qh 30 27 (.ld (.s 29) 1 false), qh 31 27 (.bin .eql 1 (.s 28) (.s 30)), qi 32 (.pick (.s 27) (.s 31) qF)]) (.cond (.s 32) (.exit 5) .skip)) (.seq (qr [qv 33 2, qm 34 6, qi 35 (.call false (.s 33) [.s 34]), qi 36 (.un .not (.s 35))]) (.cond (.s 36) .ret .skip))))))))) (qr [qi 37 (.bin .add 0 (.s 18) (qz 1)), qm 18 37]))))))))⟩
theorem has109 : Has E 109 af109 := ⟨Go.Proofs.Tryz.f109, [], true, Go.Proofs.Tryz.func109, by decide, by kernel_rfl⟩
def af110 : AF := ⟨3, 9, [.cell 4 4 true], true, .seq (qr [qi 3 (.box (.s 0)), qi 4 qA]) (.seq (qr [ql 5 3 4, qv 6 1, qv 7 2, qk 8 68 [.s 5, .s 6, .s 7], qt 4 8 4]) .ret)⟩
theorem has110 : Has E 110 af110 := ⟨Go.Proofs.Tryz.f110, [], true, Go.Proofs.Tryz.func110, by decide, by kernel_rfl⟩
def af111 : AF := ⟨1, 8, [.tmp 2], true, .seq (qr [qi 2 (.nil false 1)]) (.seq (.seq (qr [qm 3 0, qi 4 (.isnil false (.s 3))]) (.cond (.s 4) (.seq (qr [qi 2 (.nil false 1)]) .ret) .skip)) (.seq (qr [qi 5 (.bslice 1 1 []), qm 6 0, qi 7 (.app (.s 5) (.s 6) 1 16), qm 2 7]) .ret))⟩
theorem has111 : Has E 111 af111 := ⟨Go.Proofs.Tryz.f111, [], true, Go.Proofs.Tryz.func111, by decide, by kernel_rfl⟩
def af112 : AF := ⟨3, 9, [.cell 4 4 true], true, .seq (qr [qi 3 (.box (.s 0)), qi 4 qA]) (.seq (qr [ql 5 3 4, qv 6 1, qv 7 2, qk 8 68 [.s 5, .s 6, .s 7], qt 4 8 4]) .ret)⟩
theorem has112 : Has E 112 af112 := ⟨Go.Proofs.Tryz.f112, [], true, Go.Proofs.Tryz.func112, by decide, by kernel_rfl⟩
end Go.Ly.Tr
end
section
set_option maxRecDepth 10000
namespace Go.Ly.Tr
def af113 : AF := ⟨2, 27, [.tmp 4], true, .seq (qr [qi 2 (.box (.s 0)), qi 3 (.box (.s 1)), qi 4 (.mv (qz 0))]) (.seq (qd [qf 5 2 0, qv 6 5, qf 7 3 0, qv 8 7, qk 9 149 [.s 6, .s 8], qf 10 2 1, qv 11 10, qf 12 3 1, qv 13 12, qk 14 150 [.s 11, .s 13], qf 15 2 2, qv 16 15, qf 17 3 2, qv 18 17, qk 19 151 [.s 16, .s 18, .c (.fn 152 [] [])], qf 20 2 3, qv 21 20, qf 22 3 3, qv 23 22, qk 24 153 [.s 21, .s 23, .c (.fn 113 [] [])], qi 25 (.bslice 0 1 [.s 9, .s 14, .s 19, .s 24]), qk 26 148 [.s 25], qm 4 26]) .ret)⟩
theorem has113 : Has E 113 af113 := ⟨Go.Proofs.Tryz.f113, [], true, Go.Proofs.Tryz.func113, by decide, by kernel_rfl⟩
def af114 : AF := ⟨2, 6, [], true, qr [ql 3 1 4, qm 4 0, qk 5 115 [.s 3, .s 4]]⟩
theorem has114 : Has E 114 af114 := ⟨Go.Proofs.Tryz.f114, [], true, Go.Proofs.Tryz.func114, by decide, by kernel_rfl⟩
def af115 : AF := ⟨2, 23, [.tmp 4], true, .seq (qr [qi 2 (.box (.s 0)), qi 4 (.mv qF)]) (.seq (.seq (qr [qm 7 1, ql 8 2 4, qi 9 (.call false (.s 7) [.s 8]), qi 10 (.un .not (.s 9))]) (.cond (.s 10) (.seq (qr [qi 4 (.mv qF)]) .ret) .skip)) (.seq (.seq (qr [qf 11 2 3, qv 12 11, qi 13 (.len false (.s 12)), qi 14 (.mv (qz 0))]) (.block 0 (.loop (.seq (qr [qi 15 (.bin .lss 0 (.s 14) (.s 13))]) (.seq (.cond (.s 15) .skip (.exit 0)) (.seq (.block 1 (.seq (qr [qa 16 12 14 4, ql 17 16 4, qi 6 qA, qt 6 17 4]) (.seq (qr [ql 18 6 4, qm 19 1, qk 20 115 [.s 18, .s 19], qi 21 (.un .not (.s 20))]) (.cond (.s 21) (.seq (qr [qi 4 (.mv qF)]) .ret) .skip)))) (qr [qi 22 (.bin .add 0 (.s 14) (qz 1)), qm 14 22]))))))) (.seq (qr [qi 4 (.mv qT)]) .ret)))⟩
theorem has115 : Has E 115 af115 := ⟨Go.Proofs.Tryz.f115, [], true, Go.Proofs.Tryz.func115, by decide, by kernel_rfl⟩
def af116 : AF := ⟨2, 25, [], true, .seq (qr [qi 2 (.box (.s 0))]) (.seq (qr [qv 6 1, qi 7 (.len false (.s 6)), qi 8 (.mv (qz 0))]) (.block 0 (.loop (.seq (qr [qi 9 (.bin .lss 0 (.s 8) (.s 7))]) (.seq (.cond (.s 9) .skip (.exit 0)) (.seq (.block 1 (.seq (qr [qa 10 6 8 3, ql 11 10 3, qi 4 qB, qt 4 11 3]) (.seq (.seq (qr [qv 12 2, ql 13 4 3, qi 14 (.call false (.s 12) [.s 13]), qi 15 (.un .not (.s 14))]) (.cond (.s 15) .ret .skip)) (.seq (qr [qf 16 4 2, qv 17 16, qk 18 71 [.s 17]]) (.block 2 (.rf (.s 18) [19] (qr [qi 5 qB, qt 5 19 3]) (.block 3 (.seq (qr [qv 20 2, ql 21 5 3, qi 22 (.call false (.s 20) [.s 21]), qi 23 (.un .not (.s 22))]) (.cond (.s 23) .ret .skip))))))))) (qr [qi 24 (.bin .add 0 (.s 8) (qz 1)), qm 8 24])))))))⟩
theorem has116 : Has E 116 af116 := ⟨Go.Proofs.Tryz.f116, [], true, Go.Proofs.Tryz.func116, by decide, by kernel_rfl⟩
def af117 : AF := ⟨1, 22, [.cell 2 3 true], true, .seq (qr [qi 1 (.box (.s 0)), qi 2 qB]) (.seq (qr [qi 3 (.nil false 3)]) (.seq (.seq (qr [qf 6 1 2, qv 7 6, qi 8 (.len false (.s 7)), qi 9 (.mv (qz 0))]) (.block 0 (.loop (.seq (qr [qi 10 (.bin .lss 0 (.s 9) (.s 8))]) (.seq (.cond (.s 10) .skip (.exit 0)) (.seq (.block 1 (.seq (qr [qa 11 7 9 3, ql 12 11 3, qi 5 qB, qt 5 12 3]) (qr [qm 13 3, ql 14 5 3, qk 15 117 [.s 14], qi 16 (.bslice 0 3 [.s 15]), qi 17 (.app (.s 13) (.s 16) 3 48), qm 3 17]))) (qr [qi 18 (.bin .add 0 (.s 9) (qz 1)), qm 9 18]))))))) (.seq (qr [qm 19 3, qf 20 1 2, qt 20 19 1]) (.seq (qr [ql 21 1 3, qt 2 21 3]) .ret))))⟩
theorem has117 : Has E 117 af117 := ⟨Go.Proofs.Tryz.f117, [], true, Go.Proofs.Tryz.func117, by decide, by kernel_rfl⟩
def af118 : AF := ⟨2, 30, [], true, .seq (qr [qi 2 (.box (.s 0))]) (.seq (qr [qv 6 1, qi 7 (.len false (.s 6)), qi 8 (.mv (qz 0))]) (.block 0 (.loop (.seq (qr [qi 9 (.bin .lss 0 (.s 8) (.s 7))]) (.seq (.cond (.s 9) .skip (.exit 0)) (.seq (.block 1 (.seq (qr [qa 10 6 8 3, ql 11 10 3, qi 4 qB, qt 4 11 3]) (.seq (.seq (qr [qf 12 4 0, qv 13 12, qm 14 13, qh 15 14 (.ld (.s 2) 1 false), qh 16 14 (.fa (.s 4) 1), qh 17 14 (.ld (.s 16) 1 false), qh 18 14 (.call false (.s 15) [.s 17]), qh 19 14 (.un .not (.s 18)), qi 20 (.pick (.s 14) (.s 19) qF)]) (.cond (.s 20) .ret .skip)) (.seq (qr [qf 21 4 2, qv 22 21, qk 23 73 [.s 22]]) (.block 2 (.rf (.s 23) [24] (qr [qm 5 24]) (.block 3 (.seq (qr [qv 25 2, qm 26 5, qi 27 (.call false (.s 25) [.s 26]), qi 28 (.un .not (.s 27))]) (.cond (.s 28) .ret .skip))))))))) (qr [qi 29 (.bin .add 0 (.s 8) (qz 1)), qm 8 29])))))))⟩
theorem has118 : Has E 118 af118 := ⟨Go.Proofs.Tryz.f118, [], true, Go.Proofs.Tryz.func118, by decide, by kernel_rfl⟩
def af133 : AF := ⟨1, 5, [.tmp 2], true, .seq (qr [qi 2 (.mv qF)]) (.seq (qr [qm 3 0, qi 4 (.bin .eql 1 (.s 3) (qs [])), qm 2 4]) .ret)⟩
theorem has133 : Has E 133 af133 := ⟨Go.Proofs.Tryz.f133, [], true, Go.Proofs.Tryz.func133, by decide, by kernel_rfl⟩
def af134 : AF := ⟨1, 5, [.tmp 2], true, .seq (qr [qi 2 (.mv qF)]) (.seq (qr [qm 3 0, qk 4 55 [.s 3, .c (.fn 163 [] []), .c (.fn 141 [] [])], qm 2 4]) .ret)⟩
theorem has134 : Has E 134 af134 := ⟨Go.Proofs.Tryz.f134, [], true, Go.Proofs.Tryz.func134, by decide, by kernel_rfl⟩
def af137 : AF := ⟨2, 19, [.tmp 4], true, .seq (qr [qi 4 (.mv (qz 0))]) (.seq (.seq (qr [qm 6 0, qi 7 (.len false (.s 6)), qi 8 (.mv (qz 0))]) (.block 0 (.loop (.seq (qr [qi 9 (.bin .lss 0 (.s 8) (.s 7))]) (.seq (.cond (.s 9) .skip (.exit 0)) (.seq (.block 1 (.seq (qr [qm 10 8, qm 5 10]) (.seq (qr [qm 11 1, qm 12 0, qm 13 5, qa 14 12 13 3, ql 15 14 3, qi 16 (.call false (.s 11) [.s 15])]) (.cond (.s 16) (.seq (qr [qm 17 5, qm 4 17]) .ret) .skip)))) (qr [qi 18 (.bin .add 0 (.s 8) (qz 1)), qm 8 18]))))))) (.seq (qr [qi 4 (.mv (qz (-1)))]) .ret))⟩
theorem has137 : Has E 137 af137 := ⟨Go.Proofs.Tryz.f137, [], true, Go.Proofs.Tryz.func137, by decide, by kernel_rfl⟩
def af138 : AF := ⟨2, 19, [.tmp 4], true, .seq (qr [qi 4 (.mv (qz 0))]) (.seq (.seq (qr [qm 6 0, qi 7 (.len false (.s 6)), qi 8 (.mv (qz 0))]) (.block 0 (.loop (.seq (qr [qi 9 (.bin .lss 0 (.s 8) (.s 7))]) (.seq (.cond (.s 9) .skip (.exit 0)) (.seq (.block 1 (.seq (qr [qm 10 8, qm 5 10]) (.seq (qr [qm 11 1, qm 12 0, qm 13 5, qa 14 12 13 4, ql 15 14 4, qi 16 (.call false (.s 11) [.s 15])]) (.cond (.s 16) (.seq (qr [qm 17 5, qm 4 17]) .ret) .skip)))) (qr [qi 18 (.bin .add 0 (.s 8) (qz 1)), qm 8 18]))))))) (.seq (qr [qi 4 (.mv (qz (-1)))]) .ret))⟩
theorem has138 : Has E 138 af138 := ⟨Go.Proofs.Tryz.f138, [], true, Go.Proofs.Tryz.func138, by decide, by kernel_rfl⟩
def af139 : AF := ⟨2, 19, [.tmp 4], true, .seq (qr [qi 4 (.mv (qz 0))]) (.seq (.seq (qr [qm 6 0, qi 7 (.len false (.s 6)), qi 8 (.mv (qz 0))]) (.block 0 (.loop (.seq (qr [qi 9 (.bin .lss 0 (.s 8) (.s 7))]) (.seq (.cond (.s 9) .skip (.exit 0)) (.seq (.block 1 (.seq (qr [qm 10 8, qm 5 10]) (.seq (qr [qm 11 1, qm 12 0, qm 13 5, qa 14 12 13 1, qv 15 14, qi 16 (.call false (.s 11) [.s 15])]) (.cond (.s 16) (.seq (qr [qm 17 5, qm 4 17]) .ret) .skip)))) (qr [qi 18 (.bin .add 0 (.s 8) (qz 1)), qm 8 18]))))))) (.seq (qr [qi 4 (.mv (qz (-1)))]) .ret))⟩
theorem has139 : Has E 139 af139 := ⟨Go.Proofs.Tryz.f139, [], true, Go.Proofs.Tryz.func139, by decide, by kernel_rfl⟩
def af140 : AF := ⟨1, 9, [.tmp 2], true, .seq (qr [qi 2 (.mv qF)]) (.seq (qr [qm 3 0, qi 4 (.bin .geq 0 (.s 3) (qu 97)), qm 5 4, qh 6 5 (.mv (.s 0)), qh 7 5 (.bin .leq 0 (.s 6) (qu 116)), qi 8 (.pick (.s 5) (.s 7) qF), qm 2 8]) .ret)⟩
theorem has140 : Has E 140 af140 := ⟨Go.Proofs.Tryz.f140, [], true, Go.Proofs.Tryz.func140, by decide, by kernel_rfl⟩
def af141 : AF := ⟨1, 13, [.tmp 2], true, .seq (qr [qi 2 (.mv qF)]) (.seq (qr [qm 3 0, qk 4 164 [.s 3], qm 5 4, qg 6 5 (.mv (.s 0)), qg 7 5 (.call false (.c (.fn 163 [] [])) [.s 6]), qi 8 (.pick (.s 5) qT (.s 7)), qm 9 8, qg 10 9 (.mv (.s 0)), qg 11 9 (.call false (.c (.fn 57 [] [])) [.s 10]), qi 12 (.pick (.s 9) qT (.s 11)), qm 2 12]) .ret)⟩
theorem has141 : Has E 141 af141 := ⟨Go.Proofs.Tryz.f141, [], true, Go.Proofs.Tryz.func141, by decide, by kernel_rfl⟩
def af142 : AF := ⟨2, 13, [.tmp 4], true, .seq (qr [qi 2 (.box (.s 0)), qi 4 (.nil false 1)]) (.seq (.seq (qr [qm 6 1]) (.block 0 (.rf (.s 6) [7] (qr [qm 5 7]) (.block 1 (qr [qv 8 2, qm 9 5, qi 10 (.bslice 0 1 [.s 9]), qi 11 (.app (.s 8) (.s 10) 1 16), qt 2 11 1]))))) (.seq (qr [qv 12 2, qm 4 12]) .ret))⟩
theorem has142 : Has E 142 af142 := ⟨Go.Proofs.Tryz.f142, [], true, Go.Proofs.Tryz.func142, by decide, by kernel_rfl⟩
def af143 : AF := ⟨2, 22, [.tmp 4], true, .seq (qr [qi 4 (.nil false 3)]) (.seq (qr [qi 5 (.nil false 3)]) (.seq (.seq (qr [qm 8 0, qi 9 (.len false (.s 8)), qi 10 (.mv (qz 0))]) (.block 0 (.loop (.seq (qr [qi 11 (.bin .lss 0 (.s 10) (.s 9))]) (.seq (.cond (.s 11) .skip (.exit 0)) (.seq (.block 1 (.seq (qr [qa 12 8 10 3, ql 13 12 3, qi 7 qB, qt 7 13 3]) (qr [qm 14 5, qm 15 1, ql 16 7 3, qi 17 (.call false (.s 15) [.s 16]), qi 18 (.bslice 0 3 [.s 17]), qi 19 (.app (.s 14) (.s 18) 3 48), qm 5 19]))) (qr [qi 20 (.bin .add 0 (.s 10) (qz 1)), qm 10 20]))))))) (.seq (qr [qm 21 5, qm 4 21]) .ret)))⟩
theorem has143 : Has E 143 af143 := ⟨Go.Proofs.Tryz.f143, [], true, Go.Proofs.Tryz.func143, by decide, by kernel_rfl⟩
def af144 : AF := ⟨1, 8, [.cell 2 3 true], true, .seq (qr [qi 1 (.box (.s 0)), qi 2 qB]) (.seq (qr [qf 3 1 2, qv 4 3, qk 5 143 [.s 4, .c (.fn 144 [] [])], qf 6 1 2, qt 6 5 1]) (.seq (qr [ql 7 1 3, qt 2 7 3]) .ret))⟩
theorem has144 : Has E 144 af144 := ⟨Go.Proofs.Tryz.f144, [], true, Go.Proofs.Tryz.func144, by decide, by kernel_rfl⟩
def af145 : AF := ⟨2, 22, [.tmp 4], true, .seq (qr [qi 4 (.nil false 4)]) (.seq (qr [qi 5 (.nil false 4)]) (.seq (.seq (qr [qm 8 0, qi 9 (.len false (.s 8)), qi 10 (.mv (qz 0))]) (.block 0 (.loop (.seq (qr [qi 11 (.bin .lss 0 (.s 10) (.s 9))]) (.seq (.cond (.s 11) .skip (.exit 0)) (.seq (.block 1 (.seq (qr [qa 12 8 10 4, ql 13 12 4, qi 7 qA, qt 7 13 4]) (qr [qm 14 5, qm 15 1, ql 16 7 4, qi 17 (.call false (.s 15) [.s 16]), qi 18 (.bslice 0 4 [.s 17]), qi 19 (.app (.s 14) (.s 18) 4 72), qm 5 19]))) (qr [qi 20 (.bin .add 0 (.s 10) (qz 1)), qm 10 20]))))))) (.seq (qr [qm 21 5, qm 4 21]) .ret)))⟩
theorem has145 : Has E 145 af145 := ⟨Go.Proofs.Tryz.f145, [], true, Go.Proofs.Tryz.func145, by decide, by kernel_rfl⟩
def af148 : AF := ⟨1, 18, [.tmp 2], true, .seq (qr [qi 2 (.mv (qz 0))]) (.seq (qr [qi 3 (.mv (qz 0))]) (.seq (.seq (qr [qm 6 0, qi 7 (.len false (.s 6)), qi 8 (.mv (qz 0))]) (.block 0 (.loop (.seq (qr [qi 9 (.bin .lss 0 (.s 8) (.s 7))]) (.seq (.cond (.s 9) .skip (.exit 0)) (.seq (.block 1 (.seq (qr [qa 10 6 8 1, qv 11 10, qm 5 11]) (.seq (qr [qm 12 5, qm 13 3, qi 14 (.bin .neq 0 (.s 12) (.s 13))]) (.cond (.s 14) (.seq (qr [qm 15 5, qm 2 15]) .ret) .skip)))) (qr [qi 16 (.bin .add 0 (.s 8) (qz 1)), qm 8 16]))))))) (.seq (qr [qm 17 3, qm 2 17]) .ret)))⟩
theorem has148 : Has E 148 af148 := ⟨Go.Proofs.Tryz.f148, [], true, Go.Proofs.Tryz.func148, by decide, by kernel_rfl⟩
def af149 : AF := ⟨2, 20, [.tmp 4], true, .seq (qr [qi 4 (.mv (qz 0))]) (.seq (qr [qm 7 0, qk 8 176 [.s 7], qm 5 8]) (.seq (qr [qm 9 1, qk 10 176 [.s 9], qm 6 10]) (.seq (.seq (qr [qm 11 5]) (.cond (.s 11) (.seq (.seq (qr [qm 12 6]) (.cond (.s 12) (.seq (qr [qi 4 (.mv (qz 0))]) .ret) .skip)) (.seq (qr [qi 4 (.mv (qz (-1)))]) .ret)) .skip)) (.seq (.seq (qr [qm 13 6]) (.cond (.s 13) (.seq (qr [qi 4 (.mv (qz 1))]) .ret) .skip)) (.seq (.seq (qr [qm 14 0, qm 15 1, qi 16 (.bin .lss 0 (.s 14) (.s 15))]) (.cond (.s 16) (.seq (qr [qi 4 (.mv (qz (-1)))]) .ret) .skip)) (.seq (.seq (qr [qm 17 0, qm 18 1, qi 19 (.bin .gtr 0 (.s 17) (.s 18))]) (.cond (.s 19) (.seq (qr [qi 4 (.mv (qz 1))]) .ret) .skip)) (.seq (qr [qi 4 (.mv (qz 0))]) .ret)))))))⟩
theorem has149 : Has E 149 af149 := ⟨Go.Proofs.Tryz.f149, [], true, Go.Proofs.Tryz.func149, by decide, by kernel_rfl⟩
def af150 : AF := ⟨2, 20, [.tmp 4], true, .seq (qr [qi 4 (.mv (qz 0))]) (.seq (qr [qm 7 0, qk 8 177 [.s 7], qm 5 8]) (.seq (qr [qm 9 1, qk 10 177 [.s 9], qm 6 10]) (.seq (.seq (qr [qm 11 5]) (.cond (.s 11) (.seq (.seq (qr [qm 12 6]) (.cond (.s 12) (.seq (qr [qi 4 (.mv (qz 0))]) .ret) .skip)) (.seq (qr [qi 4 (.mv (qz (-1)))]) .ret)) .skip)) (.seq (.seq (qr [qm 13 6]) (.cond (.s 13) (.seq (qr [qi 4 (.mv (qz 1))]) .ret) .skip)) (.seq (.seq (qr [qm 14 0, qm 15 1, qi 16 (.bin .lss 1 (.s 14) (.s 15))]) (.cond (.s 16) (.seq (qr [qi 4 (.mv (qz (-1)))]) .ret) .skip)) (.seq (.seq (qr [qm 17 0, qm 18 1, qi 19 (.bin .gtr 1 (.s 17) (.s 18))]) (.cond (.s 19) (.seq (qr [qi 4 (.mv (qz 1))]) .ret) .skip)) (.seq (qr [qi 4 (.mv (qz 0))]) .ret)))))))⟩
theorem has150 : Has E 150 af150 := ⟨Go.Proofs.Tryz.f150, [], true, Go.Proofs.Tryz.func150, by decide, by kernel_rfl⟩
def af151 : AF := ⟨3, 21, [.tmp 6], true, .seq (qr [qi 6 (.mv (qz 0))]) (.seq (.seq (qr [qm 7 0, qi 8 (.len false (.s 7)), qm 9 1, qi 10 (.len false (.s 9)), qi 11 (.bin .neq 0 (.s 8) (.s 10))]) (.cond (.s 11) (.seq (qr [qm 12 0, qi 13 (.len false (.s 12)), qm 14 1, qi 15 (.len false (.s 14)), qk 16 178 [.s 13, .s 15], qm 6 16]) .ret) .skip)) (.seq (qr [qm 17 0, qm 18 1, qm 19 2, qk 20 179 [.s 17, .s 18, .s 19], qm 6 20]) .ret))⟩
theorem has151 : Has E 151 af151 := ⟨Go.Proofs.Tryz.f151, [], true, Go.Proofs.Tryz.func151, by decide, by kernel_rfl⟩
def af152 : AF := ⟨2, 33, [.tmp 4], true, .seq (qr [qi 2 (.box (.s 0)), qi 3 (.box (.s 1)), qi 4 (.mv (qz 0))]) (.seq (.block 0 (.seq (qr [qf 6 2 0, qv 7 6, qm 8 7, qh 9 8 (.fa (.s 3) 0), qh 10 8 (.ld (.s 9) 1 false), qh 11 8 (.un .not (.s 10)), qi 12 (.pick (.s 8) (.s 11) qF), qm 5 12]) (.cond (.s 5) (.seq (qr [qi 4 (.mv (qz (-1)))]) .ret) (.seq (qr [qf 14 3 0, qv 15 14, qm 16 15, qh 17 16 (.fa (.s 2) 0), qh 18 16 (.ld (.s 17) 1 false), qh 19 16 (.un .not (.s 18)), qi 20 (.pick (.s 16) (.s 19) qF), qm 13 20]) (.cond (.s 13) (.seq (qr [qi 4 (.mv (qz 1))]) .ret) .skip))))) (.seq (qd [qf 21 2 1, qv 22 21, qf 23 3 1, qv 24 23, qk 25 150 [.s 22, .s 24], qf 26 2 2, qv 27 26, qf 28 3 2, qv 29 28, qk 30 151 [.s 27, .s 29, .c (.fn 152 [] [])], qi 31 (.bslice 0 1 [.s 25, .s 30]), qk 32 148 [.s 31], qm 4 32]) .ret))⟩
theorem has152 : Has E 152 af152 := ⟨Go.Proofs.Tryz.f152, [], true, Go.Proofs.Tryz.func152, by decide, by kernel_rfl⟩
def af153 : AF := ⟨3, 21, [.tmp 6], true, .seq (qr [qi 6 (.mv (qz 0))]) (.seq (.seq (qr [qm 7 0, qi 8 (.len false (.s 7)), qm 9 1, qi 10 (.len false (.s 9)), qi 11 (.bin .neq 0 (.s 8) (.s 10))]) (.cond (.s 11) (.seq (qr [qm 12 0, qi 13 (.len false (.s 12)), qm 14 1, qi 15 (.len false (.s 14)), qk 16 178 [.s 13, .s 15], qm 6 16]) .ret) .skip)) (.seq (qr [qm 17 0, qm 18 1, qm 19 2, qk 20 180 [.s 17, .s 18, .s 19], qm 6 20]) .ret))⟩
theorem has153 : Has E 153 af153 := ⟨Go.Proofs.Tryz.f153, [], true, Go.Proofs.Tryz.func153, by decide, by kernel_rfl⟩
def af163 : AF := ⟨1, 9, [.tmp 2], true, .seq (qr [qi 2 (.mv qF)]) (.seq (qr [qm 3 0, qi 4 (.bin .geq 0 (.s 3) (qu 65)), qm 5 4, qh 6 5 (.mv (.s 0)), qh 7 5 (.bin .leq 0 (.s 6) (qu 90)), qi 8 (.pick (.s 5) (.s 7) qF), qm 2 8]) .ret)⟩
theorem has163 : Has E 163 af163 := ⟨Go.Proofs.Tryz.f163, [], true, Go.Proofs.Tryz.func163, by decide, by kernel_rfl⟩
def af164 : AF := ⟨1, 9, [.tmp 2], true, .seq (qr [qi 2 (.mv qF)]) (.seq (qr [qm 3 0, qi 4 (.bin .geq 0 (.s 3) (qu 97)), qm 5 4, qh 6 5 (.mv (.s 0)), qh 7 5 (.bin .leq 0 (.s 6) (qu 122)), qi 8 (.pick (.s 5) (.s 7) qF), qm 2 8]) .ret)⟩
theorem has164 : Has E 164 af164 := ⟨Go.Proofs.Tryz.f164, [], true, Go.Proofs.Tryz.func164, by decide, by kernel_rfl⟩
def af176 : AF := ⟨1, 6, [.tmp 2], true, .seq (qr [qi 2 (.mv qF)]) (.seq (qr [qm 3 0, qm 4 0, qi 5 (.bin .neq 0 (.s 3) (.s 4)), qm 2 5]) .ret)⟩
theorem has176 : Has E 176 af176 := ⟨Go.Proofs.Tryz.f176, [], true, Go.Proofs.Tryz.func176, by decide, by kernel_rfl⟩
def af177 : AF := ⟨1, 6, [.tmp 2], true, .seq (qr [qi 2 (.mv qF)]) (.seq (qr [qm 3 0, qm 4 0, qi 5 (.bin .neq 1 (.s 3) (.s 4)), qm 2 5]) .ret)⟩
theorem has177 : Has E 177 af177 := ⟨Go.Proofs.Tryz.f177, [], true, Go.Proofs.Tryz.func177, by decide, by kernel_rfl⟩
def af178 : AF := ⟨2, 20, [.tmp 4], true, .seq (qr [qi 4 (.mv (qz 0))]) (.seq (qr [qm 7 0, qk 8 194 [.s 7], qm 5 8]) (.seq (qr [qm 9 1, qk 10 194 [.s 9], qm 6 10]) (.seq (.seq (qr [qm 11 5]) (.cond (.s 11) (.seq (.seq (qr [qm 12 6]) (.cond (.s 12) (.seq (qr [qi 4 (.mv (qz 0))]) .ret) .skip)) (.seq (qr [qi 4 (.mv (qz (-1)))]) .ret)) .skip)) (.seq (.seq (qr [qm 13 6]) (.cond (.s 13) (.seq (qr [qi 4 (.mv (qz 1))]) .ret) .skip)) (.seq (.seq (qr [qm 14 0, qm 15 1, qi 16 (.bin .lss 0 (.s 14) (.s 15))]) (.cond (.s 16) (.seq (qr [qi 4 (.mv (qz (-1)))]) .ret) .skip)) (.seq (.seq (qr [qm 17 0, qm 18 1, qi 19 (.bin .gtr 0 (.s 17) (.s 18))]) (.cond (.s 19) (.seq (qr [qi 4 (.mv (qz 1))]) .ret) .skip)) (.seq (qr [qi 4 (.mv (qz 0))]) .ret)))))))⟩
theorem has178 : Has E 178 af178 := ⟨Go.Proofs.Tryz.f178, [], true, Go.Proofs.Tryz.func178, by decide, by kernel_rfl⟩
def af179 : AF := ⟨3, 39, [.tmp 6], true, .seq (qr [qi 6 (.mv (qz 0))]) (.seq (.seq (qr [qm 11 0, qi 12 (.len false (.s 11)), qi 13 (.mv (qz 0))]) (.block 0 (.loop (.seq (qr [qi 14 (.bin .lss 0 (.s 13) (.s 12))]) (.seq (.cond (.s 14) .skip (.exit 0)) (.seq (.block 1 (.seq (qr [qm 15 13, qa 16 11 13 3, ql 17 16 3, qi 8 qB, qm 7 15, qt 8 17 3]) (.seq (.seq (qr [qm 18 7, qm 19 1, qi 20 (.len false (.s 19)), qi 21 (.bin .geq 0 (.s 18) (.s 20))]) (.cond (.s 21) (.seq (qr [qi 6 (.mv (qz 1))]) .ret) .skip)) (.seq (qr [qm 22 1, qm 23 7, qa 24 22 23 3, ql 25 24 3, qi 9 qB, qt 9 25 3]) (.seq (qr [qm 26 2, ql 27 8 3, ql 28 9 3, qi 29 (.call false (.s 26) [.s 27, .s 28]), qm 10 29]) (.seq (qr [qm 30 10, qi 31 (.bin .neq 0 (.s 30) (qz 0))]) (.cond (.s 31) (.seq (qr [qm 32 10, qm 6 32]) .ret) .skip))))))) (qr [qi 33 (.bin .add 0 (.s 13) (qz 1)), qm 13 33]))))))) (.seq (.seq (qr [qm 34 0, qi 35 (.len false (.s 34)), qm 36 1, qi 37 (.len false (.s 36)), qi 38 (.bin .lss 0 (.s 35) (.s 37))]) (.cond (.s 38) (.seq (qr [qi 6 (.mv (qz (-1)))]) .ret) .skip)) (.seq (qr [qi 6 (.mv (qz 0))]) .ret)))⟩
theorem has179 : Has E 179 af179 := ⟨Go.Proofs.Tryz.f179, [], true, Go.Proofs.Tryz.func179, by decide, by kernel_rfl⟩
def af180 : AF := ⟨3, 39, [.tmp 6], true, .seq (qr [qi 6 (.mv (qz 0))]) (.seq (.seq (qr [qm 11 0, qi 12 (.len false (.s 11)), qi 13 (.mv (qz 0))]) (.block 0 (.loop (.seq (qr [qi 14 (.bin .lss 0 (.s 13) (.s 12))]) (.seq (.cond (.s 14) .skip (.exit 0)) (.seq (.block 1 (.seq (qr [qm 15 13, qa 16 11 13 4, ql 17 16 4, qi 8 qA, qm 7 15, qt 8 17 4]) (.seq (.seq (qr [qm 18 7, qm 19 1, qi 20 (.len false (.s 19)), qi 21 (.bin .geq 0 (.s 18) (.s 20))]) (.cond (.s 21) (.seq (qr [qi 6 (.mv (qz 1))]) .ret) .skip)) (.seq (qr [qm 22 1, qm 23 7, qa 24 22 23 4, ql 25 24 4, qi 9 qA, qt 9 25 4]) (.seq (qr [qm 26 2, ql 27 8 4, ql 28 9 4, qi 29 (.call false (.s 26) [.s 27, .s 28]), qm 10 29]) (.seq (qr [qm 30 10, qi 31 (.bin .neq 0 (.s 30) (qz 0))]) (.cond (.s 31) (.seq (qr [qm 32 10, qm 6 32]) .ret) .skip))))))) (qr [qi 33 (.bin .add 0 (.s 13) (qz 1)), qm 13 33]))))))) (.seq (.seq (qr [qm 34 0, qi 35 (.len false (.s 34)), qm 36 1, qi 37 (.len false (.s 36)), qi 38 (.bin .lss 0 (.s 35) (.s 37))]) (.cond (.s 38) (.seq (qr [qi 6 (.mv (qz (-1)))]) .ret) .skip)) (.seq (qr [qi 6 (.mv (qz 0))]) .ret)))⟩
theorem has180 : Has E 180 af180 := ⟨Go.Proofs.Tryz.f180, [], true, Go.Proofs.Tryz.func180, by decide, by kernel_rfl⟩
end Go.Ly.Tr
end
section
namespace Go.Ly.Tr
set_option maxRecDepth 4000
mutual
def Tm.hi : Tm → Nat
  | .mk _ _ us => Tm.his us + 1
def Tm.his : List Tm → Nat
  | [] => 0
  | t :: ts => max t.hi (Tm.his ts)
end
theorem his_app : ∀ a b : List Tm, Tm.his (a ++ b) = max (Tm.his a) (Tm.his b)
  | [], b => by simp [Tm.his]
  | t :: a, b => by simp only [List.cons_append, Tm.his, his_app a b]; omega
theorem hi_le : ∀ (n : Nat), (∀ t : Tm, t.size ≤ n → t.hi ≤ t.size) ∧ (∀ l : List Tm, Tm.size.sizes l ≤ n → Tm.his l ≤ Tm.size.sizes l) := by
  have main : ∀ n, ∀ t : Tm, t.size ≤ n → t.hi ≤ t.size := by
    intro n
    induction n with
    | zero => intro t ht; cases t; simp [Tm.size] at ht
    | succ n ih =>
      intro t ht
      obtain ⟨v, nm, us⟩ := t
      simp only [Tm.size, Tm.hi] at ht ⊢
      have : ∀ l : List Tm, Tm.size.sizes l ≤ n → Tm.his l ≤ Tm.size.sizes l := by
        intro l
        induction l with
        | nil => intro _; exact Nat.le_refl _
        | cons a l ihl =>
          intro h
          simp only [Tm.size.sizes, Tm.his] at h ⊢
          have := ih a (by omega)
          have := ihl (by omega)
          omega
      have := this us (by omega)
      omega
  refine fun n => ⟨main n, fun l => ?_⟩
  induction l with
  | nil => intro _; exact Nat.le_refl _
  | cons a l ihl =>
    intro h
    simp only [Tm.size.sizes, Tm.his] at h ⊢
    have := main _ a (Nat.le_refl _)
    have := ihl (by omega)
    omega
theorem Tm.sizes_app : ∀ a b : List Tm, Tm.size.sizes (a ++ b) = Tm.size.sizes a + Tm.size.sizes b
  | [], b => by simp [Tm.size.sizes]
  | t :: a, b => by simp only [List.cons_append, Tm.size.sizes, Tm.sizes_app a b]; omega
theorem high_ok (l : List Tm) (hs : Tm.size.sizes l ≤ 1000000) : Pure E 107 [.d .old (.row 3 (Tm.ds l))] (.d .top (.int .i64 (Tm.his l))) := by
  obtain ⟨n, hn⟩ : ∃ n, Tm.size.sizes l < n := ⟨_, Nat.lt_succ_self _⟩
  induction n generalizing l with
  | zero => omega
  | succ n ih =>
  have hlen := Tm.len_size l
  refine pure_by has107 ?_
  generalize hp : std = p
  (generalize cq0 : Tm.ds = cy0, cq1 : Tm.his = cy1; cbv <;> subst cq0 cq1)
  subst hp
  refine loopA_list l (fun d r => mkF 20 [(3, .d .top (.int .i64 (Tm.his d))), (6, .d .old (.row 3 (Tm.ds l))), (7, .d .top (.int .i64 (std.dlen (Tm.ds l)))), (8, .d .top (.int .i64 (std.dlen (Tm.ds d))))])
    (fun d r => []) (fun _ _ => ()) ?_ rfl (fun _ _ => rfl) ?_ ?_
  · generalize hp : std = p
    (generalize cq0 : Tm.ds = cy0, cq1 : Tm.his = cy1; cbv <;> subst cq0 cq1)
    subst hp
    simp [std, Tm.his, Tm.ds]
  · generalize hp : std = p
    (generalize cq0 : Tm.ds = cy0, cq1 : Tm.his = cy1; cbv <;> subst cq0 cq1)
    simp only [end_ltT hp]
    (generalize cq0 : Tm.ds = cy0, cq1 : Tm.his = cy1; cbv <;> subst cq0 cq1)
  · intro d e r d' hes hd'
    obtain ⟨v, nm, us⟩ := e
    have hsz : Tm.size.sizes l = Tm.size.sizes d + (Tm.size.sizes us + 1 + Tm.size.sizes r) := by rw [hes, Tm.sizes_app]; simp [Tm.size.sizes, Tm.size]
    have hhi := (hi_le _).2 us (Nat.le_refl _)
    generalize hp : std = p
    (generalize cq0 : Tm.ds = cy0, cq1 : Tm.his = cy1; cbv <;> subst cq0 cq1)
    simp only [at_ltT hp hes]
    (generalize cq0 : Tm.ds = cy0, cq1 : Tm.his = cy1; cbv <;> subst cq0 cq1)
    refine ⟨_, at_getT hp hes, ?_⟩
    (generalize cq0 : Tm.ds = cy0, cq1 : Tm.his = cy1; cbv <;> subst cq0 cq1)
    refine callA.pure (ih us (by omega) (by omega)) rfl ?_
    (generalize cq0 : Tm.ds = cy0, cq1 : Tm.his = cy1; cbv <;> subst cq0 cq1)
    subst hp hd'
    have hdl : d.length + (r.length + 1) = l.length := by rw [hes]; simp
    simp [std, his_app, Tm.his, Tm.hi, Tm.ds_len]
    omega
end Go.Ly.Tr
end
