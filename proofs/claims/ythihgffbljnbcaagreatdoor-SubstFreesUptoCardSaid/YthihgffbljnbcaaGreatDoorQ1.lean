/- Part 2 of a proof: a layer that walks through Go code by evaluation, and contracts of functions; no condition. -/
import Derived.Test.YthihgffbljnbcaaGreatDoorQ0
import Derived.RangeFuncIn
import Derived.Scope
import Derived.RangeFuncLeaves
import Derived.RangeFuncRecord
set_option linter.all false
section
namespace Go.Ly
section
variable {E : Env} {S S' : St} {w w' : World} {A : Fm} {σ : Sto} {a : Act} {o : Oper} {ops : Array Oper}
theorem RdAs_moves0 (M : Moves [] [] S w S' w') {cs : List AV} {vs : List Value} (h : RdAs E.φ S w cs vs) : RdAs E.φ S' w' cs vs := by
  have := RdAs_keep M.keeps cs vs h
  rwa [demoteL_nil, killL_nil] at this
theorem did_new {cs : List AV} {vs : List Value} {e : TypeId} (R : Rep E S w σ) (hA : RdF E.φ S w A a.tmps.toList) (hc : RdAs E.φ S w cs vs)
    (hr : (execOp a.eval o).run E.P w = .ok (.value (.pointer (some ⟨w.heap.size, 0, none⟩))) { w with heap := w.heap.push (.cells ⟨vs⟩ e) }) :
    Did E S w a o (putA A o.dst (.ptr (lenS σ) 0)) (addS σ (.bx cs)) := by
  have M : More w { w with heap := w.heap.push (.cells ⟨vs⟩ e) } (.cells ⟨vs⟩ e (0, 0)) := ⟨rfl, rfl, rfl⟩
  have hm := moves_box R M
  refine ⟨_, _, { S with θ := S.θ ++ [w.heap.size] }, _, hr, .inl rfl, rep_box R M ⟨vs, e, M.new, RdAs_moves0 hm hc⟩, RdF_put (RdF_moves0 hm hA) ?_, hm.ev, hm.x⟩
  simp only [RdA]
  refine ⟨w.heap.size, ?_, rfl⟩
  rw [lenS_eq, ← R.len, List.getElem?_append_right (Nat.le_refl _)]
  simp
theorem did_alloc {e : TypeId} {zs : List D} (R : Rep E S w σ) (hA : RdF E.φ S w A a.tmps.toList) (hop : o.op = .alloc e) (hz : zeroD E.P e = some zs) (d : Nat) :
    Did E S w a o (putA A o.dst (.ptr (lenS σ) 0)) (addS σ (.bx (zcells d 0 zs))) := by
  obtain ⟨zv, hzr, hzc⟩ := zeroD_sound (E := E) (S := S) (w := w) hz d
  refine did_new (e := e) R hA hzc ?_
  simp [execOp, hop, Instr.alloc, hzr, newVar, newRow]
theorem zeroU_sound {t : TypeId} {sz : Nat} (h : zeroD E.P t = some [.row sz []]) : ∃ v, (zeroValue t).run E.P w = .ok v w ∧ v.cells = #[.slice none 0 0] := by
  unfold zeroD at h
  split at h
  · rename_i ds v h1 h2
    split at h
    · rename_i hf
      simp only [Option.some.injEq] at h
      subst h
      simp only [Option.bind_eq_some_iff] at h2
      obtain ⟨i, hi, hz⟩ := h2
      refine ⟨v, by simp [zeroValue, typeInfo, hi, hz], ?_⟩
      apply Array.ext'
      generalize v.cells.toList = l at hf
      match l, hf with
      | [x], hf =>
        simp only [zerosFit, Bool.and_true] at hf
        unfold zeroFits at hf
        split at hf <;> first | rfl | (cases hf; done) | (rename_i h _; cases h; done) | (rename_i h; cases h; done)
      | _ :: _ :: _, hf => simp [zerosFit] at hf
    · cases h
  · cases h
theorem killS_lenS (U : List Nat) (σ : Sto) : lenS (killS U σ) = lenS σ := by rw [lenS_eq, lenS_eq, killS_len]
theorem did_allocu {e : TypeId} {tk sz : Nat} (R : Rep E S w σ) (hA : RdF E.φ S w A a.tmps.toList) (hop : o.op = .alloc e) (hz : zeroD E.P e = some [.row sz []]) :
    Did E S w a o (putA (killF [tk] A) o.dst (.ptr (lenS σ) 0)) (addS (killS [tk] σ) (.bx [.uq tk sz [] .top])) := by
  have hm := moves_unil R tk
  have R1 := rep_unil R tk
  have hA1 := RdF_movesU hm hA
  obtain ⟨zv, hzr, hzc⟩ := zeroU_sound (E := E) (w := w) hz
  obtain ⟨nx, u, S', w', hr, hn, R', hF, V, hx⟩ := did_new (e := e) (o := o) (cs := [.uq tk sz [] .top]) (vs := [.slice none 0 0]) R1 hA1 ⟨_, _, rfl, trivial, .inl ⟨by simp [unsetβ], rfl, rfl⟩, rfl⟩
    (by simp [execOp, hop, Instr.alloc, hzr, newVar, newRow, hzc])
  rw [killS_lenS] at hF
  exact ⟨nx, u, S', w', hr, hn, R', hF, hm.ev.trans V, hx⟩
theorem did_box {e : TypeId} {x : Operand} {y : AO} {cs : List AV} (R : Rep E S w σ) (hA : RdF E.φ S w A a.tmps.toList) (hop : o.op = .box e x) (hx : opnd E.P E.ν e x = some y)
    (hc : (y.ev A).cells = some cs) : Did E S w a o (putA A o.dst (.ptr (lenS σ) 0)) (addS σ (.bx cs)) := by
  refine did_new (e := e) R hA (cells_sound (opnd_sound hx hA) hc) ?_
  simp [execOp, hop, Instr.box, newVar, newRow]
theorem areOne_sound {cs : List AV} {vs : List Value} (ho : areOne cs = true) (h : RdAs E.φ S w cs vs) : ∀ v ∈ vs, oneV v := areOne_oneV h ho
theorem did_st {t : TypeId} {x y : Operand} {x' y' : AO} {s id off : Nat} {cs vs : List AV} (R : Rep E S w σ) (hA : RdF E.φ S w A a.tmps.toList) (hop : o.op = .store t x y)
    (hx : opnd E.P E.ν 0 x = some x') (hy : opnd E.P E.ν t y = some y') (hs : sizeT E.P t = some s) (hp : x'.ev A = .ptr id off) (hb : getS σ id = some (.bx cs)) (hv : (y'.ev A).cells = some vs)
    (hvs : vs.length = s) (hl : off + s ≤ cs.length) (ho : areOne vs = true) : Did E S w a o (putA A o.dst .any) (stCells σ id off vs) := by
  have hX := opnd_sound hx hA
  rw [hp] at hX
  simp only [RdA] at hX
  obtain ⟨b, hθ, hX⟩ := hX
  rw [getS_eq] at hb
  obtain ⟨us, T, hh, hr⟩ := R.box id b _ hθ hb
  have hcell := cells_sound (opnd_sound hy hA) hv
  have hl1 := RdAs_len _ _ hcell
  have hl2 := RdAs_len _ _ hr
  obtain ⟨w', hrun, ht⟩ := run_storeCells (P := E.P) (a.eval y).cells.toList w ⟨us⟩ off 0 hh (by simp at hl1 ⊢; omega) (areOne_sound ho hcell)
  have hm := moves_st R hθ ht
  have hst : stCells σ id off vs = setS σ id (.bx (putCells cs off vs)) := by simp [stCells, getS_eq, hb]
  rw [hst]
  refine ⟨_, undef, S, w', ?_, .inr ⟨rfl, rfl⟩, rep_st R hθ ht ?_, RdF_put (RdF_moves0 hm hA) trivial, hm.ev, hm.x⟩
  · simp only [execOp, hop, Instr.storeAt, hX, Instr.sureAddr, Sem.run_bind, Sem.run_pure, Result.andThen_ok, storeVar, sizeT_some hs]
    rw [if_neg (by simp at hl1; omega)]
    simp only [hrun, Result.andThen_ok]
  · have := RdAs_put off hcell hr
    exact RdAs_moves0 hm this
theorem nextcap_le (need cap : Nat) (h : cap < need) : Builtin.nextslicecap need cap ≤ 2 * need + 1024 := by
  unfold Builtin.nextslicecap
  split
  · omega
  · split
    · omega
    · have step : ∀ r c, c ≤ 2 * need + 1024 → Builtin.growBy need r c ≤ 2 * need + 1024 := by
        intro r
        induction r with
        | zero => intro c hc; exact hc
        | succ r ih =>
          intro c hc
          simp only [Builtin.growBy]
          split
          · exact hc
          · exact ih _ (by omega)
      exact step 4 cap (by omega)
theorem RdRow_append {w : World} {G : Nat → Nat} {B : Nat → Prop} {sz : Nat} : ∀ (xs ys : List D) (us vs : List Value), RdRow w G B sz xs us → RdRow w G B sz ys vs → RdRow w G B sz (xs ++ ys) (us ++ vs)
  | [], ys, us, vs, h, h' => by simp only [RdRow] at h; subst h; exact h'
  | x :: xs, ys, us, vs, h, h' => by
    simp only [RdRow] at h
    obtain ⟨v, rest, rfl, hs, ho, h1, h2⟩ := h
    simp only [List.cons_append, RdRow, List.append_assoc]
    exact ⟨v, rest ++ vs, rfl, hs, ho, h1, RdRow_append xs ys rest vs h2 h'⟩
theorem RdRow_one {w : World} {G : Nat → Nat} {B : Nat → Prop} {sz : Nat} : ∀ (xs : List D) (us : List Value), RdRow w G B sz xs us → ∀ u ∈ us, oneV u
  | [], us, h => by simp only [RdRow] at h; subst h; simp
  | x :: xs, us, h => by
    simp only [RdRow] at h
    obtain ⟨v, rest, rfl, _, ho, _, h2⟩ := h
    intro u hu
    simp only [List.mem_append] at hu
    rcases hu with hu | hu
    · exact ho u hu
    · exact RdRow_one xs rest h2 u hu
theorem run_firstCells {sz : Nat} {es : List D} {B : Nat → Prop} {v : Value} (h : RdD w S.G B (.row sz es) v) :
    ∃ vs, (Builtin.firstCells sz es.length v).run E.P w = .ok ⟨vs⟩ w ∧ RdRow w S.G B sz es vs ∧ (Builtin.lenOf v).run E.P w = .ok es.length w := by
  simp only [RdD] at h
  rcases h with ⟨⟨p, cap, rfl⟩, rfl⟩ | ⟨b, of, cap, vs, rfl, hcap, hB, hg, hc, hr⟩
  · refine ⟨[], ?_, rfl, rfl⟩
    cases p with
    | none => rfl
    | some p => simp [Builtin.firstCells, loadCells, loadCellsFrom]
  · refine ⟨vs, ?_, hr, rfl⟩
    have hl := RdRow_len _ _ hr
    have := run_loadCells_list (P := E.P) w ⟨b, of, none⟩ vs (fun j v hj => by rw [add_addr]; exact hc j v hj)
    rw [hl] at this
    simpa [Builtin.firstCells] using this
theorem putV_tail (us cs : List Value) (off : Nat) (h : off + us.length ≤ cs.length) : putV cs off us = cs.take off ++ us ++ cs.drop (off + us.length) := by
  have h1 : cs = cs.take off ++ ((cs.drop off).take us.length ++ (cs.drop off).drop us.length) := by
    rw [List.take_append_drop, List.take_append_drop]
  have h2 := putV_mid us (cs.take off) ((cs.drop off).take us.length) ((cs.drop off).drop us.length) (by simp; omega)
  rw [← h1] at h2
  rw [show (cs.take off).length = off by simp; omega] at h2
  rw [h2]
  simp [List.drop_drop]
theorem rowR_cells {x : AV} {v : Value} {ep : Ep} {sz : Nat} {es : List D} (h : RdA E.φ S w x v) (hr : rowR x = some (ep, sz, es)) (n : Nat) :
    ∃ vs, (Builtin.firstCells sz es.length v).run E.P { w with drawn := n } = .ok ⟨vs⟩ { w with drawn := n } ∧ RdRow w S.G (epB S.E ep) sz es vs ∧ (Builtin.lenOf v).run E.P w = .ok es.length w := by
  have gd : ∀ (B : Nat → Prop), Grow w S.G B { w with drawn := n } S.G B := fun B => ⟨⟨fun _ _ _ _ _ h => h, fun _ _ _ _ _ h => h⟩, fun _ => Nat.le_refl _, Nat.le_refl _, fun _ _ h => h⟩
  have gd' : ∀ (B : Nat → Prop), Grow { w with drawn := n } S.G B w S.G B := fun B => ⟨⟨fun _ _ _ _ _ h => h, fun _ _ _ _ _ h => h⟩, fun _ => Nat.le_refl _, Nat.le_refl _, fun _ _ h => h⟩
  have row : ∀ {ep}, RdD w S.G (epB S.E ep) (.row sz es) v → ∃ vs, (Builtin.firstCells sz es.length v).run E.P { w with drawn := n } = .ok ⟨vs⟩ { w with drawn := n } ∧ RdRow w S.G (epB S.E ep) sz es vs ∧ (Builtin.lenOf v).run E.P w = .ok es.length w := by
    intro ep h
    obtain ⟨vs, h1, h2, _⟩ := run_firstCells (E := E) (S := S) (w := { w with drawn := n }) (RdD_mono (gd _) _ _ h)
    obtain ⟨_, _, _, h3⟩ := run_firstCells (E := E) (S := S) h
    exact ⟨vs, h1, RdRow_mono (gd' _) _ _ _ h2, h3⟩
  cases x with
  | d e y =>
    cases y with
    | row s l => cases hr; exact row h
    | _ => cases hr
  | own t s l e => cases hr; exact row (RdOwn_d h)
  | fresh => simp [RdA] at h
  | uq t s l e =>
    cases hr
    rcases h with ⟨_, rfl, rfl⟩ | ⟨b, vs, cs, T, _, h, hl, _, _, _, _, _, h1, h2⟩
    · exact ⟨[], rfl, rfl, rfl⟩
    · rw [h, ← hl]
      refine ⟨vs, ?_, h2, rfl⟩
      have hlen := RdRow_len _ _ h2
      have := run_loadCells_list (P := E.P) { w with drawn := n } ⟨b, 0, none⟩ vs (fun j v hj => by rw [add_addr]; exact h1 j v hj)
      rw [hlen] at this
      simpa [Builtin.firstCells] using this
  | _ => cases hr
structure AppAt (E : Env) (a : Act) (o : Oper) (x y : Operand) (e : TypeId) (s by_ : Nat) : Prop where
  op : ∃ args ts t u e', o.op = .call { callee := .builtin .append, args := args, argTypes := ts } ∧ args[0]? = some x ∧ args[1]? = some y ∧ ts[0]? = some t ∧ ts[1]? = some u ∧
    E.P.underlying t = some (.slice e) ∧ E.P.underlying u = some (.slice e')
  size : sizeT E.P e = some (s + 1)
  bytes : bytesT E.P e = some (by_ + 1)
  small : by_ < 128
  zero : ∃ zs, zeroD E.P e = some zs ∧ zs.length = s + 1
theorem app_grow {x y : Operand} {e : TypeId} {s by_ : Nat} {X Y : AV} {base : Option Addr} {cap : Nat} {es ys : List D} {ep ep' : Ep} (H : AppAt E a o x y e s by_)
    (hX : RdA E.φ S w X (a.eval x)) (hY : RdA E.φ S w Y (a.eval y)) (rX : rowR X = some (ep, s + 1, es)) (rY : rowR Y = some (ep', s + 1, ys)) (hbx : a.eval x = .slice base es.length cap)
    (hfit : ¬ es.length + ys.length ≤ cap) (hroom : es.length + ys.length ≤ 549755813888) :
    ∃ vx vy rest nc, (execOp a.eval o).run E.P w = .ok (.value (.slice (some ⟨w.heap.size, 0, none⟩) (es.length + ys.length) nc)) { w with drawn := w.drawn + 1, heap := w.heap.push (.cells ⟨vx ++ vy ++ rest⟩ e) } ∧
      es.length + ys.length ≤ nc ∧ rest.length = (nc - (es.length + ys.length)) * (s + 1) ∧ RdRow w S.G (epB S.E ep) (s + 1) es vx ∧ RdRow w S.G (epB S.E ep') (s + 1) ys vy := by
  obtain ⟨⟨args, ts, t, u, e', hop, h0, h1, ht0, ht1, hu, hu'⟩, hs, hby, hb, zs, hz, hzl⟩ := H
  obtain ⟨_, _, _, hly⟩ := rowR_cells hY rY 0
  obtain ⟨vx2, hfx2, hrx2, _⟩ := rowR_cells hX rX (w.drawn + 1)
  obtain ⟨vy2, hfy2, hry2, _⟩ := rowR_cells hY rY (w.drawn + 1)
  obtain ⟨bt, hbi⟩ : ∃ i, E.P.info? e = some i := by
    simp only [bytesT, Option.map_eq_some_iff] at hby
    obtain ⟨i, hi, _⟩ := hby
    exact ⟨i, hi⟩
  have hbytes : bt.bytes = by_ + 1 := by simpa [bytesT, hbi] using hby
  obtain ⟨zv2, hzr2, hzc⟩ := zeroD_sound (E := E) (S := S) (w := { w with drawn := w.drawn + 1 }) hz 0
  have hzsize : zv2.cells.size = s + 1 := by
    have := RdAs_len _ _ hzc
    have hzl' : ∀ (d i : Nat) (l : List D), (zcells d i l).length = l.length := by
      intro d i l
      induction l generalizing i with
      | nil => rfl
      | cons x l ih => simp [zcells, ih]
    rw [hzl', hzl] at this
    simpa using this
  have hti : ∀ w : World, (typeInfo e).run E.P w = .ok bt w := fun w => by simp [typeInfo, hbi]
  have hcap := nextcap_le (es.length + ys.length) cap (by omega)
  have hmul : Builtin.nextslicecap (es.length + ys.length) cap * (by_ + 1) ≤ 281474976710656 := by
    have h1 : Builtin.nextslicecap (es.length + ys.length) cap ≤ 1099511628800 := by omega
    have h2 := Nat.mul_le_mul h1 (show by_ + 1 ≤ 128 by omega)
    have h3 : 1099511628800 * 128 ≤ 281474976710656 := by decide
    exact Nat.le_trans h2 h3
  rw [hbx] at hfx2
  generalize hcapd : Question.cut (.appendCap (es.length + ys.length) cap e) (w.tape w.drawn (.appendCap (es.length + ys.length) cap e)) = nc
  have hnc : es.length + ys.length ≤ nc := by rw [← hcapd]; simp [Question.cut]
  obtain ⟨rest, hrest⟩ : ∃ r : List Value, r = (Builtin.zeroCells zv2.cells (nc - (es.length + ys.length))).toList := ⟨_, rfl⟩
  have hrl : rest.length = (nc - (es.length + ys.length)) * (s + 1) := by rw [hrest]; simp [Builtin.zeroCells, hzsize]
  refine ⟨vx2, vy2, rest, nc, ?_, hnc, hrl, hrx2, hry2⟩
  have hmax : ¬ ((es.length + ys.length : Nat) : Int) > IntKind.i64.max := by
    have : IntKind.i64.max = 9223372036854775807 := by decide
    omega
  have hcapn : ¬ es.length + ys.length ≤ cap := hfit
  have hbig : ¬ Builtin.nextslicecap (es.length + ys.length) cap * (by_ + 1) > 2 ^ 48 := by
    have : (2 ^ 48 : Nat) = 281474976710656 := by decide
    omega
  have harr : (⟨vx2⟩ : Array Value) ++ ⟨vy2⟩ ++ Builtin.zeroCells zv2.cells (nc - (es.length + ys.length)) = ⟨vx2 ++ vy2 ++ rest⟩ := by
    apply Array.ext'
    simp [hrest]
  simp only [execOp, hop, resolve, invoke, builtin, Sem.run_bind, Sem.run_pure, Result.andThen_ok, Builtin.append_, Array.getElem?_map, h0, h1, ht0, ht1, Option.map_some, run_underlying hu,
    run_underlying hu', hbx, sizeT_some hs, hly, Bool.false_eq_true, if_false, if_neg hcapn, hti, hbytes, Nat.add_one_ne_zero, or_self, and_false, if_neg hbig, run_choose, Question.forced, hcapd,
    run_askRoom, hfx2, Bool.not_false, if_true, hfy2, hzr2, newRow, run_newObj, harr]
theorem app_fit {x y : Operand} {e : TypeId} {s by_ b of : Nat} {Y : AV} {cap : Nat} {es ys : List D} {ep' : Ep} {cs : Array Value} {T : TypeId} (H : AppAt E a o x y e s by_)
    (hY : RdA E.φ S w Y (a.eval y)) (rY : rowR Y = some (ep', s + 1, ys)) (hbx : a.eval x = .slice (some ⟨b, of, none⟩) es.length cap)
    (hfit : es.length + ys.length ≤ cap) (hh : w.heap[b]? = some (.cells cs T (0, 0))) (hcs : of + cap * (s + 1) ≤ cs.size) :
    ∃ vy w', (execOp a.eval o).run E.P w = .ok (.value (.slice (some ⟨b, of, none⟩) (es.length + ys.length) cap)) w' ∧ RdRow w S.G (epB S.E ep') (s + 1) ys vy ∧
      Turn w w' b ⟨cs.toList.take (of + es.length * (s + 1)) ++ vy ++ cs.toList.drop (of + es.length * (s + 1) + vy.length)⟩ T ∧ of + es.length * (s + 1) + vy.length ≤ cs.size := by
  obtain ⟨⟨args, ts, t, u, e', hop, h0, h1, ht0, ht1, hu, hu'⟩, hs, hby, hb, zs, hz, hzl⟩ := H
  obtain ⟨vy, hfy, hry, hly⟩ := rowR_cells hY rY w.drawn
  have hfy : (Builtin.firstCells (s + 1) ys.length (a.eval y)).run E.P w = .ok ⟨vy⟩ w := hfy
  have hly' := RdRow_len _ _ hry
  have hle : of + es.length * (s + 1) + vy.length ≤ cs.size := by
    have h5 : (es.length + ys.length) * (s + 1) ≤ cap * (s + 1) := Nat.mul_le_mul_right _ hfit
    rw [Nat.add_mul] at h5
    omega
  obtain ⟨w', hrun, ht⟩ := run_storeCells (P := E.P) vy w cs (of + es.length * (s + 1)) 0 hh (by omega) (RdRow_one _ _ hry)
  simp only [Nat.add_zero] at ht
  have hput := putV_tail vy cs.toList (of + es.length * (s + 1)) (by simpa using hle)
  rw [hput] at ht
  refine ⟨vy, w', ?_, hry, ht, hle⟩
  have hrun' : (storeCells ((⟨b, of, none⟩ : Addr).add (es.length * (s + 1))) vy).run E.P w = .ok () w' := by rw [add_addr]; exact hrun
  simp [execOp, hop, resolve, invoke, builtin, Builtin.append_, h0, h1, ht0, ht1, run_underlying hu, run_underlying hu', hbx, sizeT_some hs, hly, hfit, hfy, hrun']
theorem app_none {x y : Operand} {e : TypeId} {s by_ : Nat} {Y : AV} {cap : Nat} {es : List D} {ep' : Ep} {base : Option Addr} (H : AppAt E a o x y e s by_)
    (hY : RdA E.φ S w Y (a.eval y)) (rY : rowR Y = some (ep', s + 1, [])) (hbx : a.eval x = .slice base es.length cap) (hfit : es.length ≤ cap) :
    (execOp a.eval o).run E.P w = .ok (.value (.slice base es.length cap)) w := by
  obtain ⟨⟨args, ts, t, u, e', hop, h0, h1, ht0, ht1, hu, hu'⟩, hs, hby, hb, zs, hz, hzl⟩ := H
  obtain ⟨vy, hfy, hry, hly⟩ := rowR_cells hY rY w.drawn
  have hfy : (Builtin.firstCells (s + 1) 0 (a.eval y)).run E.P w = .ok ⟨vy⟩ w := hfy
  have hvy : vy = [] := List.eq_nil_of_length_eq_zero (by simpa using RdRow_len _ _ hry)
  subst hvy
  have hly : (Builtin.lenOf (a.eval y)).run E.P w = .ok 0 w := hly
  cases base <;> simp [execOp, hop, resolve, invoke, builtin, Builtin.append_, h0, h1, ht0, ht1, run_underlying hu, run_underlying hu', hbx, sizeT_some hs, hly, hfit, hfy, storeCells]
theorem mid_cells {cs : Array Value} {w' : World} {b k of : Nat} {vs vy : List Value} {T : TypeId} {w : World} (hh : w.heap[b]? = some (.cells cs T (0, 0))) (hh' : w'.heap[b]? = some (.cells ⟨cs.toList.take k ++ vy ++ cs.toList.drop (k + vy.length)⟩ T (0, 0)))
    (hk : of + vs.length = k) (hle : k + vy.length ≤ cs.size) (hc : cellsAt w b of vs) :
    (∀ i v, i < k → w.cell? ⟨b, i, none⟩ = some v → w'.cell? ⟨b, i, none⟩ = some v) ∧ cellsAt w' b of (vs ++ vy) := by
  have hblk : ∀ i, w.cell? ⟨b, i, none⟩ = cs[i]? := fun i => by simp [World.cell?, hh]
  have hblk' : ∀ i, w'.cell? ⟨b, i, none⟩ = (cs.toList.take k ++ vy ++ cs.toList.drop (k + vy.length))[i]? := fun i => by simp [World.cell?, hh']
  have hold : ∀ i v, i < k → w.cell? ⟨b, i, none⟩ = some v → w'.cell? ⟨b, i, none⟩ = some v := by
    intro i v hi hv
    rw [hblk', List.append_assoc, List.getElem?_append_left (by simp; omega), List.getElem?_take, if_pos (by omega), Array.getElem?_toList, ← hblk]
    exact hv
  refine ⟨hold, ?_⟩
  intro i v hv
  rcases Nat.lt_or_ge i vs.length with hlt | hge
  · rw [List.getElem?_append_left hlt] at hv
    exact hold _ v (by omega) (hc i v hv)
  · rw [List.getElem?_append_right hge] at hv
    have hi : i - vs.length < vy.length := by
      rcases Nat.lt_or_ge (i - vs.length) vy.length with h' | h'
      · exact h'
      · simp [List.getElem?_eq_none h'] at hv
    rw [hblk', List.append_assoc, List.getElem?_append_right (by simp; omega), List.getElem?_append_left (by simp; omega)]
    rw [show of + i - (List.take k cs.toList).length = i - vs.length by simp; omega]
    exact hv
theorem new_cells {w' : World} {b : Nat} {vs rest : List Value} {T : TypeId} (hh : w'.heap[b]? = some (.cells ⟨vs ++ rest⟩ T (0, 0))) : cellsAt w' b 0 vs := by
  intro i v hv
  simp only [World.cell?, hh, Option.isSome_none, Bool.false_eq_true, if_false, Nat.zero_add, List.getElem?_toArray]
  have hi : i < vs.length := by
    rcases Nat.lt_or_ge i vs.length with h' | h'
    · exact h'
    · rw [List.getElem?_eq_none h'] at hv; cases hv
  rw [List.getElem?_append_left hi]
  exact hv
theorem own_cap {es : List D} {P : Nat → Prop} {sz : Nat} {ep : Ep} {v : Value} (h : RdOwn S w P sz es ep v) : ∃ base cap, v = .slice base es.length cap ∧ es.length ≤ cap := by
  rcases h with ⟨⟨p, h⟩, _⟩ | ⟨b, o', cap, vs, cs, T, _, h, _, hc, _⟩
  · exact ⟨_, _, h, Nat.le_refl _⟩
  · exact ⟨_, _, h, hc⟩
theorem did_app0 {x y : Operand} {x' y' : AO} {t u e : TypeId} {s by_ tk : Nat} {es ys : List D} {ep ep' : Ep} (R : Rep E S w σ) (hA : RdF E.φ S w A a.tmps.toList) (H : AppAt E a o x y e s by_)
    (hx : opnd E.P E.ν t x = some x') (hy : opnd E.P E.ν u y = some y') (rX : RdOwn S w (fun b => S.β (2 * tk) = some b) (s + 1) es ep (a.eval x)) (hrX : rowR (x'.ev A) = some (ep, s + 1, es)) (hY : rowR (y'.ev A) = some (ep', s + 1, ys)) (hroom : es.length + ys.length ≤ 549755813888) :
    Did E S w a o (putA (demoteA [tk] A) o.dst (.own tk (s + 1) (es ++ ys) (Ep.meet .new (ep.meet ep')))) (demoteS [tk] σ) := by
  have rX0 := opnd_sound hx hA
  have rY := opnd_sound hy hA
  obtain ⟨base, cap, hbx, hcap⟩ := own_cap rX
  have hmeet : ∀ b, S.E ≤ b → epB S.E (Ep.meet .new (ep.meet ep')) b := fun b h => epB_newmeet h
  have hw1 : ∀ b, epB S.E ep b → epB S.E (Ep.meet .new (ep.meet ep')) b := fun b h => epB_meet_r _ _ b (epB_meet_l _ _ b h)
  have hw2 : ∀ b, epB S.E ep' b → epB S.E (Ep.meet .new (ep.meet ep')) b := fun b h => epB_meet_r _ _ b (epB_meet_r _ _ b h)
  have hlen : (es ++ ys).length = es.length + ys.length := by simp
  by_cases hfit : es.length + ys.length ≤ cap
  · rcases rX with ⟨⟨p, hn⟩, hd⟩ | ⟨b, of, cap', vs, cs, T, hβ, hv, hh, hcap', hcs, he, hG, hc, hr⟩
    ·
      rw [hbx] at hn
      simp only [Value.slice.injEq] at hn
      obtain ⟨rfl, _, rfl⟩ := hn
      have hy0 : ys = [] := List.eq_nil_of_length_eq_zero (by omega)
      subst hy0
      have hm : Moves [tk] [] S w S w := ⟨⟨fun _ _ h => h, rfl, rfl, fun _ => Nat.le_refl _, Nat.le_refl _, .refl _ _, fun _ _ _ h => ⟨h, rfl, rfl⟩, fun _ _ h => h, fun _ _ => rfl⟩, EvF.refl S w, R.n0, rfl, fun _ _ _ => ⟨rfl, rfl⟩⟩
      refine ⟨.value (.slice base es.length es.length), _, S, w, app_none H rY hY hbx hcap, .inl rfl, ?_, RdF_put (RdF_moves hm hA) ?_, hm.ev, hm.x⟩
      · refine ⟨by rw [demoteS_len]; exact R.len, R.nodup, ?_, R.θlt, R.θX, R.βlt, R.βown, R.βinj, R.Gnew, R.E, R.n0, R.D, R.X⟩
        intro id c z hc hz
        rw [demoteS_get, Option.map_eq_some_iff] at hz
        obtain ⟨z', hz', rfl⟩ := hz
        exact RepE_keep hm.keeps rfl (R.box id c z' hc hz')
      · rw [List.append_nil]
        rw [hbx] at hd
        exact .inl ⟨⟨base, rfl⟩, RdD_weak hw1 hd⟩
    ·
      rw [hbx] at hv
      simp only [Value.slice.injEq] at hv
      obtain ⟨rfl, _, rfl⟩ := hv
      obtain ⟨vy, w', hrun, hry, ht, hle⟩ := app_fit H rY hY hbx hfit hh hcs
      have hvl := RdRow_len _ _ hr
      have hyl := RdRow_len _ _ hry
      obtain ⟨hold, hcells⟩ := mid_cells hh ht.here (by omega) hle hc
      rw [← hG] at hold
      have hm := moves_grow R hβ hh ht (of + (es ++ ys).length * (s + 1)) (by rw [hG, hlen, Nat.add_mul]; omega) hold
      refine ⟨.value (.slice (some ⟨b, of, none⟩) (es.length + ys.length) cap), _, { S with G := setG S.G b (of + (es ++ ys).length * (s + 1)) }, w', hrun, .inl rfl,
        rep_grow R hβ hh ht _ (by rw [hG, hlen, Nat.add_mul]; omega) hold, RdF_put (RdF_moves hm hA) ?_, hm.ev, hm.x⟩
      have hgrow : Grow w S.G (epB S.E ep) w' (setG S.G b (of + (es ++ ys).length * (s + 1))) (epB S.E (Ep.meet .new (ep.meet ep'))) := ⟨hm.keeps.imm, hm.keeps.G, hm.keeps.size, fun b _ => hw1 b⟩
      have hgrow2 : Grow w S.G (epB S.E ep') w' (setG S.G b (of + (es ++ ys).length * (s + 1))) (epB S.E (Ep.meet .new (ep.meet ep'))) := ⟨hm.keeps.imm, hm.keeps.G, hm.keeps.size, fun b _ => hw2 b⟩
      exact .inr ⟨b, of, cap, vs ++ vy, _, T, hβ, by rw [hlen], ht.here, by rw [hlen]; exact hfit, by simp; omega, hw1 b he, by simp [setG_same], hcells,
        RdRow_append es ys _ _ (RdRow_mono hgrow _ _ _ hr) (RdRow_mono hgrow2 _ _ _ hry)⟩
  ·
    obtain ⟨vx2, vy2, rest, nc, hrun, hnc, hrl, hrx2, hry2⟩ := app_grow H rX0 rY hrX hY hbx hfit hroom
    have hlx2 := RdRow_len _ _ hrx2
    have hly2 := RdRow_len _ _ hry2
    have M : More w { w with drawn := w.drawn + 1, heap := w.heap.push (.cells ⟨vx2 ++ vy2 ++ rest⟩ e) } (.cells ⟨vx2 ++ vy2 ++ rest⟩ e (0, 0)) := ⟨rfl, rfl, rfl⟩
    have hm := moves_regrow R M tk ((es ++ ys).length * (s + 1))
    refine ⟨.value (.slice (some ⟨w.heap.size, 0, none⟩) (es.length + ys.length) nc), _, { S with G := setG S.G w.heap.size ((es ++ ys).length * (s + 1)), β := setβ S.β (2 * tk) w.heap.size },
      { w with drawn := w.drawn + 1, heap := w.heap.push (.cells ⟨vx2 ++ vy2 ++ rest⟩ e) }, hrun, .inl rfl, rep_regrow R M _ _, RdF_put (RdF_moves hm hA) ?_, hm.ev, hm.x⟩
    have hg1 : Grow w S.G (epB S.E ep) { w with drawn := w.drawn + 1, heap := w.heap.push (.cells ⟨vx2 ++ vy2 ++ rest⟩ e) }
        (setG S.G w.heap.size ((es ++ ys).length * (s + 1))) (epB S.E (Ep.meet .new (ep.meet ep'))) := ⟨hm.keeps.imm, hm.keeps.G, hm.keeps.size, fun b _ => hw1 b⟩
    have hg2 : Grow w S.G (epB S.E ep') { w with drawn := w.drawn + 1, heap := w.heap.push (.cells ⟨vx2 ++ vy2 ++ rest⟩ e) }
        (setG S.G w.heap.size ((es ++ ys).length * (s + 1))) (epB S.E (Ep.meet .new (ep.meet ep'))) := ⟨hm.keeps.imm, hm.keeps.G, hm.keeps.size, fun b _ => hw2 b⟩
    refine .inr ⟨w.heap.size, 0, nc, vx2 ++ vy2, _, e, by simp [setβ], by rw [hlen], M.new, by rw [hlen]; exact hnc, ?_, hmeet _ R.E, by simp [setG_same], new_cells M.new,
      RdRow_append es ys _ _ (RdRow_mono hg1 _ _ _ hrx2) (RdRow_mono hg2 _ _ _ hry2)⟩
    have h6 : (es.length + ys.length) * (s + 1) + (nc - (es.length + ys.length)) * (s + 1) = nc * (s + 1) := by rw [← Nat.add_mul]; congr 1; omega
    rw [Nat.add_mul] at h6
    simp only [Nat.zero_add, List.size_toArray, List.length_append]
    omega
theorem did_app {x y : Operand} {x' y' : AO} {t u e : TypeId} {s by_ tk : Nat} {es ys : List D} {ep ep' : Ep} (R : Rep E S w σ) (hA : RdF E.φ S w A a.tmps.toList) (H : AppAt E a o x y e s by_)
    (hx : opnd E.P E.ν t x = some x') (hy : opnd E.P E.ν u y = some y') (hX : x'.ev A = .own tk (s + 1) es ep) (hY : rowR (y'.ev A) = some (ep', s + 1, ys)) (hroom : es.length + ys.length ≤ 549755813888) :
    Did E S w a o (putA (demoteA [tk] A) o.dst (.own tk (s + 1) (es ++ ys) (Ep.meet .new (ep.meet ep')))) (demoteS [tk] σ) := by
  have rX := opnd_sound hx hA
  rw [hX] at rX
  exact did_app0 R hA H hx hy rX (by rw [hX]; rfl) hY hroom
theorem killF_upd (U : List Nat) (v : AV) : ∀ (A : Fm) (d : Nat), killF U (upd A d v) = upd (killF U A) d (killV U v)
  | [], _ => rfl
  | _ :: _, 0 => rfl
  | x :: A, d + 1 => by simp only [upd, killF, killF_upd U v A d]
theorem killF_putA (U : List Nat) (v : AV) (A : Fm) (d : Option Nat) : killF U (putA A d v) = putA (killF U A) d (killV U v) := by
  cases d with
  | none => rfl
  | some d => exact killF_upd U v A d
theorem did_kill {A1 : Fm} {v : AV} {σ1 : Sto} {t : Nat} (h : Did E S w a o (putA A1 o.dst v) σ1) : Did E S w a o (putA (killF [t] A1) o.dst (killV [t] v)) (killS [t] σ1) := by
  obtain ⟨nx, u, S', w', hr, hn, R, hF, V, hx⟩ := h
  have K0 : Keeps [] [t] S' w' S' w' := ⟨⟨fun _ _ h => h, rfl, rfl, fun _ => Nat.le_refl _, Nat.le_refl _, .refl _ _, fun _ _ _ h => ⟨h, rfl, rfl⟩, fun _ _ h => h, fun _ _ => rfl⟩, fun b h1 h2 h3 h4 => ⟨⟨h1, h2, h3, h4⟩, rfl⟩⟩
  refine ⟨nx, u, S', w', hr, hn, ?_, ?_, V, hx⟩
  · refine ⟨by rw [killS_len]; exact R.len, R.nodup, ?_, R.θlt, R.θX, R.βlt, R.βown, R.βinj, R.Gnew, R.E, R.n0, R.D, R.X⟩
    intro id c x hc hx
    rw [killS_get, Option.map_eq_some_iff] at hx
    obtain ⟨y, hy, rfl⟩ := hx
    have := RepE_keepU K0 rfl (R.box id c y hc hy)
    rwa [SE.demote_nil] at this
  · rw [← killF_putA]
    have := RdF_keepU K0 _ _ hF
    rwa [demoteA_nil] at this
theorem did_app_nil {x y : Operand} {x' y' : AO} {t u e : TypeId} {s by_ tk : Nat} {ys : List D} {ep' : Ep} (R : Rep E S w σ) (hA : RdF E.φ S w A a.tmps.toList) (H : AppAt E a o x y e s by_)
    (hx : opnd E.P E.ν t x = some x') (hy : opnd E.P E.ν u y = some y') (hX : x'.ev A = .d .top (.row (s + 1) [])) (hY : rowR (y'.ev A) = some (ep', s + 1, ys)) (hroom : ([] : List D).length + ys.length ≤ 549755813888) :
    Did E S w a o (putA (killF [tk] (demoteA [tk] A)) o.dst (.own tk (s + 1) ([] ++ ys) (Ep.meet .new (Ep.meet .top ep')))) (killS [tk] (demoteS [tk] σ)) := by
  have rX := opnd_sound hx hA
  rw [hX] at rX
  simp only [RdA, RdD] at rX
  rcases rX with ⟨⟨p, ⟨cap, hc0⟩, hv⟩, _⟩ | ⟨b, o', cap, vs, _, _, hb, _⟩
  · have hcap : cap = 0 := hc0.elim id fun ⟨_, _, h⟩ => h.elim
    subst hcap
    have rO : RdOwn S w (fun b => S.β (2 * tk) = some b) (s + 1) [] .top (a.eval x) := by
      rw [hv]
      exact .inl ⟨⟨p, rfl⟩, RdD_nilrow (.inl rfl)⟩
    exact did_kill (did_app0 R hA H hx hy rO (by rw [hX]; rfl) hY hroom)
  · exact hb.2.elim
theorem did_uapp {x y : Operand} {x' y' : AO} {t u e : TypeId} {s by_ tk : Nat} {es ys : List D} {ep ep' : Ep} (R : Rep E S w σ) (hA : RdF E.φ S w A a.tmps.toList) (H : AppAt E a o x y e s by_)
    (hx : opnd E.P E.ν t x = some x') (hy : opnd E.P E.ν u y = some y') (hX : x'.ev A = .uq tk (s + 1) es ep) (hY : rowR (y'.ev A) = some (ep', s + 1, ys)) (hroom : es.length + ys.length ≤ 549755813888) :
    Did E S w a o (putA (killF [tk] A) o.dst (.uq tk (s + 1) (es ++ ys) (Ep.meet .new (ep.meet ep')))) (killS [tk] σ) := by
  have rX0 := opnd_sound hx hA
  have rX := rX0
  rw [hX] at rX
  have rY := opnd_sound hy hA
  have hrX : rowR (x'.ev A) = some (ep, s + 1, es) := by rw [hX]; rfl
  simp only [RdA] at rX
  have hmeet : ∀ b, S.E ≤ b → epB S.E (Ep.meet .new (ep.meet ep')) b := fun b h => epB_newmeet h
  have hw1 : ∀ b, epB S.E ep b → epB S.E (Ep.meet .new (ep.meet ep')) b := fun b h => epB_meet_r _ _ b (epB_meet_l _ _ b h)
  have hw2 : ∀ b, epB S.E ep' b → epB S.E (Ep.meet .new (ep.meet ep')) b := fun b h => epB_meet_r _ _ b (epB_meet_r _ _ b h)
  have hlen : (es ++ ys).length = es.length + ys.length := by simp
  have grow : ∀ base cap, a.eval x = .slice base es.length cap → ¬ es.length + ys.length ≤ cap → Did E S w a o (putA (killF [tk] A) o.dst (.uq tk (s + 1) (es ++ ys) (Ep.meet .new (ep.meet ep')))) (killS [tk] σ) := by
    intro base cap hbx hfit
    obtain ⟨vx2, vy2, rest, nc, hrun, hnc, hrl, hrx2, hry2⟩ := app_grow H rX0 rY hrX hY hbx hfit hroom
    have hlx2 := RdRow_len _ _ hrx2
    have hly2 := RdRow_len _ _ hry2
    have M : More w { w with drawn := w.drawn + 1, heap := w.heap.push (.cells ⟨vx2 ++ vy2 ++ rest⟩ e) } (.cells ⟨vx2 ++ vy2 ++ rest⟩ e (0, 0)) := ⟨rfl, rfl, rfl⟩
    have hm := moves_unew R M tk ((es ++ ys).length, nc)
    have hg1 : Grow w S.G (epB S.E ep) { w with drawn := w.drawn + 1, heap := w.heap.push (.cells ⟨vx2 ++ vy2 ++ rest⟩ e) } S.G (epB S.E (Ep.meet .new (ep.meet ep'))) := ⟨hm.keeps.imm, hm.keeps.G, hm.keeps.size, fun b _ => hw1 b⟩
    have hg2 : Grow w S.G (epB S.E ep') { w with drawn := w.drawn + 1, heap := w.heap.push (.cells ⟨vx2 ++ vy2 ++ rest⟩ e) } S.G (epB S.E (Ep.meet .new (ep.meet ep'))) := ⟨hm.keeps.imm, hm.keeps.G, hm.keeps.size, fun b _ => hw2 b⟩
    refine ⟨_, .slice (some ⟨w.heap.size, 0, none⟩) (es ++ ys).length nc, _, _, by rw [hlen]; exact hrun, .inl rfl, rep_unew R M _ _, RdF_put (RdF_movesU hm hA) ?_, hm.ev, hm.x⟩
    refine RdUq_mk (vs := vx2 ++ vy2) (by simp [setβ]) (setL_same _ _ _) M.new (by rw [hlen]; exact hnc) ?_ (hmeet _ R.E) (R.Gnew _ (Nat.le_refl _)) (new_cells M.new)
      (RdRow_append es ys _ _ (RdRow_mono hg1 _ _ _ hrx2) (RdRow_mono hg2 _ _ _ hry2))
    have h6 : (es.length + ys.length) * (s + 1) + (nc - (es.length + ys.length)) * (s + 1) = nc * (s + 1) := by rw [← Nat.add_mul]; congr 1; omega
    rw [Nat.add_mul] at h6
    simp only [List.size_toArray, List.length_append]
    omega
  rcases rX with ⟨hβ, rfl, hbx⟩ | ⟨b, vs, cs, T, hβ, hbx, hl, hh, hcap, hcs, he, hG, hc, hr⟩
  · by_cases hy0 : ys = []
    · subst hy0
      have hm := moves_unil R tk
      refine ⟨_, _, _, w, app_none (es := []) H rY hY hbx (Nat.le_refl _), .inl rfl, rep_unil R tk, RdF_put (RdF_movesU hm hA) ?_, hm.ev, hm.x⟩
      exact .inl ⟨by simp [unsetβ], rfl, rfl⟩
    · exact grow none 0 hbx (by have := List.length_pos_iff.2 hy0; omega)
  · rw [← hl] at hbx hcap
    by_cases hfit : es.length + ys.length ≤ (S.ln tk).2
    · obtain ⟨vy, w', hrun, hry, ht, hle⟩ := app_fit H rY hY hbx hfit hh (by omega)
      have hvl := RdRow_len _ _ hr
      have hyl := RdRow_len _ _ hry
      rw [Nat.zero_add] at ht hle
      obtain ⟨hold, hcells⟩ := mid_cells hh ht.here (by omega) hle hc
      have hm := moves_uturn R hβ hG ht ((es ++ ys).length, (S.ln tk).2)
      have hg1 : Grow w S.G (epB S.E ep) w' S.G (epB S.E (Ep.meet .new (ep.meet ep'))) := ⟨hm.keeps.imm, hm.keeps.G, hm.keeps.size, fun b _ => hw1 b⟩
      have hg2 : Grow w S.G (epB S.E ep') w' S.G (epB S.E (Ep.meet .new (ep.meet ep'))) := ⟨hm.keeps.imm, hm.keeps.G, hm.keeps.size, fun b _ => hw2 b⟩
      refine ⟨_, .slice (some ⟨b, 0, none⟩) (es ++ ys).length (S.ln tk).2, _, w', by rw [hlen]; exact hrun, .inl rfl, rep_uturn R hβ hG ht _, RdF_put (RdF_movesU hm hA) ?_, hm.ev, hm.x⟩
      refine RdUq_mk (vs := vs ++ vy) hβ (setL_same _ _ _) ht.here (by rw [hlen]; exact hfit) ?_ (hw1 b he) hG hcells
        (RdRow_append es ys _ _ (RdRow_mono hg1 _ _ _ hr) (RdRow_mono hg2 _ _ _ hry))
      simp only [List.size_toArray, List.length_append, List.length_take, List.length_drop, Array.length_toList]
      omega
    · exact grow _ _ hbx hfit
end
end Go.Ly
end
section
namespace Go.Ly
theorem memN_one (u t : Nat) : memN u [t] = natEq u t := by
  simp only [memN]
  cases natEq u t <;> rfl
theorem upd1_none (t : Nat) (x : AV) : upd1 (t, none) x = kill1 [t] x := by
  cases x <;> first
    | rfl
    | (simp only [upd1, kill1, memN_one]; rename_i u _ _ _; cases natEq u t <;> rfl)
    | (simp only [upd1, kill1, memN_one]; rename_i u _ _ _ _ _; cases natEq u t <;> rfl)
    | (simp only [upd1, kill1, memN_one])
theorem updL_none (t : Nat) : ∀ cs : List AV, updL (t, none) cs = killL [t] cs
  | [] => rfl
  | c :: cs => by simp [updL, killL, upd1_none, updL_none t cs]
theorem updV_none (t : Nat) (x : AV) : updV (t, none) x = killV [t] x := by
  cases x with
  | agg cs => simp only [updV, killV, updL_none]
  | _ => simp only [updV, killV, upd1_none]
theorem updF_none (t : Nat) : ∀ A : Fm, updF (t, none) A = killF [t] A
  | [] => rfl
  | v :: A => by simp [updF, killF, updV_none, updF_none t A]
theorem updE_none (t : Nat) (s : SE) : s.upd (t, none) = s.kill [t] := by
  cases s <;> simp [SE.upd, SE.kill, updL_none]
theorem updS_none (t : Nat) : ∀ σ : Sto, updS (t, none) σ = killS [t] σ
  | [] => rfl
  | s :: σ => by simp [updS, killS, updE_none, updS_none t σ]
theorem updS_get (u : Up) : ∀ (σ : Sto) (id : Nat), (updS u σ)[id]? = (σ[id]?).map (SE.upd u)
  | [], _ => rfl
  | _ :: _, 0 => rfl
  | _ :: σ, id + 1 => by simp [updS, updS_get u σ id]
theorem updS_len (u : Up) : ∀ σ : Sto, (updS u σ).length = σ.length
  | [] => rfl
  | _ :: σ => by simp [updS, updS_len u σ]
section
variable {E : Env} {S S' : St} {w w' : World} {A : Fm} {σ : Sto} {a : Act} {o : Oper} {ops : Array Oper} {t : Nat} {r : Nat × List D × Ep}
theorem notAgg_upd {u : Up} : ∀ x, notAgg x → notAgg (upd1 u x) := by
  intro x hx
  cases x <;> first
    | exact hx
    | (simp only [upd1]
       split
       · split <;> trivial
       · trivial)
    | (simp only [upd1]
       split <;> trivial)
theorem updV_notAgg {u : Up} (x : AV) (h : notAgg x) : updV u x = upd1 u x := by
  cases x <;> first
    | rfl
    | exact h.elim
theorem upd1_sound (K : Keeps [] [t] S w S' w') (hnew : ∀ sz es ep v, RdUq S w t sz es ep v → RdUq S' w' t r.1 r.2.1 r.2.2 v) {x : AV} {v : Value} (hn : notAgg x) (h : RdA E.φ S w x v) : RdA E.φ S' w' (upd1 (t, some r) x) v := by
  have hk := RdA_keep K x v h
  rw [demote1_nil, killV_notAgg _ _ hn] at hk
  cases x with
  | uq u sz es ep =>
    simp only [upd1]
    simp only [kill1, memN_one] at hk
    cases hu : natEq u t with
    | true =>
      rw [natEq_iff] at hu
      subst hu
      exact hnew sz es ep v h
    | false => rw [hu] at hk; exact hk
  | up u sz n e off ep =>
    simp only [upd1]
    simp only [kill1, memN_one] at hk
    cases hu : natEq u t with
    | true => trivial
    | false => rw [hu] at hk; exact hk
  | _ => exact hk
theorem updL_sound (K : Keeps [] [t] S w S' w') (hnew : ∀ sz es ep v, RdUq S w t sz es ep v → RdUq S' w' t r.1 r.2.1 r.2.2 v) : ∀ {cs : List AV} {vs : List Value}, RdAs E.φ S w cs vs → RdAs E.φ S' w' (updL (t, some r) cs) vs
  | [], vs, h => h
  | c :: cs, vs, h => by
    simp only [RdAs] at h
    obtain ⟨v, rest, rfl, hn, h1, h2⟩ := h
    simp only [updL, RdAs]
    exact ⟨v, rest, rfl, notAgg_upd c hn, upd1_sound K hnew hn h1, updL_sound K hnew h2⟩
theorem updV_sound (K : Keeps [] [t] S w S' w') (hnew : ∀ sz es ep v, RdUq S w t sz es ep v → RdUq S' w' t r.1 r.2.1 r.2.2 v) {x : AV} {v : Value} (h : RdA E.φ S w x v) : RdA E.φ S' w' (updV (t, some r) x) v := by
  cases x with
  | agg cs =>
    simp only [RdA] at h
    obtain ⟨vs, e, h⟩ := h
    simp only [updV, RdA]
    exact ⟨vs, e, updL_sound K hnew h⟩
  | _ =>
    rw [updV_notAgg _ (by trivial)]
    exact upd1_sound K hnew (by trivial) h
theorem updF_sound (K : Keeps [] [t] S w S' w') (hnew : ∀ sz es ep v, RdUq S w t sz es ep v → RdUq S' w' t r.1 r.2.1 r.2.2 v) : ∀ {A : Fm} {vs : List Value}, RdF E.φ S w A vs → RdF E.φ S' w' (updF (t, some r) A) vs
  | [], _, h => h
  | x :: A, vs, h => by
    obtain ⟨v, rest, e, h1, h2⟩ := h
    exact ⟨v, rest, e, updV_sound K hnew h1, updF_sound K hnew h2⟩
theorem updE_sound (K : Keeps [] [t] S w S' w') (hnew : ∀ sz es ep v, RdUq S w t sz es ep v → RdUq S' w' t r.1 r.2.1 r.2.2 v) {b : Nat} (hb : w'.heap[b]? = w.heap[b]?) {s : SE} (h : RepE E S w b s) : RepE E S' w' b (s.upd (t, some r)) := by
  cases s with
  | bx cs =>
    obtain ⟨vs, T, h1, h2⟩ := h
    exact ⟨vs, T, hb.trans h1, updL_sound K hnew h2⟩
  | md ep m =>
    obtain ⟨es, k, h1, h2⟩ := h
    exact ⟨es, k, hb.trans h1, RdM_mono (K.grow ep) m _ h2⟩
  | mf ks vs =>
    obtain ⟨es, k, h1, h2⟩ := h
    exact ⟨es, k, hb.trans h1, RdKs_keep K vs ks _ h2⟩
theorem findC_sound : ∀ {cs : List AV} {vs : List Value} {r : Nat × List D × Ep}, RdAs E.φ S w cs vs → findC t cs = some r → ∃ v, RdUq S w t r.1 r.2.1 r.2.2 v
  | [], _, _, _, h => by cases h
  | c :: cs, vs, r, h, hf => by
    simp only [RdAs] at h
    obtain ⟨v, rest, rfl, _, h1, h2⟩ := h
    cases c with
    | uq u sz es ep =>
      simp only [findC] at hf
      split at hf
      · rename_i hu
        rw [natEq_iff] at hu
        subst hu
        cases hf
        exact ⟨v, h1⟩
      · exact findC_sound h2 hf
    | _ => exact findC_sound h2 hf
theorem findF_sound : ∀ {A : Fm} {vs : List Value} {r : Nat × List D × Ep}, RdF E.φ S w A vs → findF t A = some r → ∃ v, RdUq S w t r.1 r.2.1 r.2.2 v
  | [], _, _, _, h => by cases h
  | c :: A, vs, r, h, hf => by
    obtain ⟨v, rest, rfl, h1, h2⟩ := h
    cases c with
    | uq u sz es ep =>
      simp only [findF] at hf
      split at hf
      · rename_i hu
        rw [natEq_iff] at hu
        subst hu
        cases hf
        exact ⟨v, h1⟩
      · exact findF_sound h2 hf
    | agg cs =>
      simp only [findF] at hf
      simp only [RdA] at h1
      obtain ⟨us, _, h1⟩ := h1
      split at hf
      · rename_i r' hr
        cases hf
        exact findC_sound h1 hr
      · exact findF_sound h2 hf
    | _ => exact findF_sound h2 hf
theorem findS_sound : ∀ {σ : Sto} {r : Nat × List D × Ep}, (∀ s ∈ σ, ∃ b, RepE E S w b s) → findS t σ = some r → ∃ v, RdUq S w t r.1 r.2.1 r.2.2 v
  | [], _, _, h => by cases h
  | s :: σ, r, h, hf => by
    have ih := findS_sound (σ := σ) (r := r) fun s hs => h s (by simp [hs])
    obtain ⟨b, hb⟩ := h s (by simp)
    cases s with
    | bx cs =>
      simp only [findS] at hf
      obtain ⟨vs, T, _, h2⟩ := hb
      split at hf
      · rename_i r' hr
        cases hf
        exact findC_sound h2 hr
      · exact ih hf
    | _ => exact ih hf
theorem findQ_sound {r : Nat × List D × Ep} {vs : List Value} (R : Rep E S w σ) (hA : RdF E.φ S w A vs) (hf : findQ t A σ = some r) : ∃ v, RdUq S w t r.1 r.2.1 r.2.2 v := by
  unfold findQ at hf
  split at hf
  · rename_i r' hr
    cases hf
    exact findF_sound hA hr
  · refine findS_sound (E := E) (fun s hs => ?_) hf
    obtain ⟨id, hid⟩ := List.getElem?_of_mem hs
    have hlt : id < S.θ.length := by rw [R.len]; exact (List.getElem?_eq_some_iff.1 hid).1
    exact ⟨S.θ[id], R.box id _ s (List.getElem?_eq_getElem hlt) hid⟩
theorem RdRow_set {w : World} {G : Nat → Nat} {B : Nat → Prop} {sz : Nat} {e : D} {v : Value} (hs : v.cells.size = sz) (ho : ∀ c ∈ v.cells.toList, oneV c) (hv : RdD w G B e v) : ∀ (es : List D) (vs : List Value) (n : Nat), RdRow w G B sz es vs → n < es.length →
    RdRow w G B sz (es.set n e) (vs.take (n * sz) ++ v.cells.toList ++ vs.drop (n * sz + sz))
  | [], _, _, _, h => by simp at h
  | x :: es, vs, 0, h, _ => by
    simp only [RdRow] at h
    obtain ⟨u, rest, rfl, hu, _, _, h2⟩ := h
    simp only [List.set_cons_zero, RdRow, Nat.zero_mul, List.take_zero, List.nil_append, Nat.zero_add]
    refine ⟨v, _, rfl, hs, ho, hv, ?_⟩
    rw [show sz = u.cells.toList.length by simp [hu], List.drop_left]
    rw [show u.cells.toList.length = sz by simp [hu]]
    exact h2
  | x :: es, vs, n + 1, h, hn => by
    simp only [RdRow] at h
    obtain ⟨u, rest, rfl, hu, hou, hx, h2⟩ := h
    have ih := RdRow_set hs ho hv es rest n h2 (by simpa using hn)
    simp only [List.set_cons_succ, RdRow]
    refine ⟨u, _, ?_, hu, hou, hx, ih⟩
    have hl : u.cells.toList.length = sz := by simp [hu]
    rw [show (n + 1) * sz = sz + n * sz by rw [Nat.add_mul, Nat.one_mul, Nat.add_comm]]
    rw [List.take_append, List.take_of_length_le (by omega), List.drop_append, List.drop_of_length_le (l := u.cells.toList) (by omega), hl]
    rw [show sz + n * sz - sz = n * sz by omega, show sz + n * sz + sz - sz = n * sz + sz by omega]
    simp
theorem putV_get : ∀ (us cs : List Value) (off i : Nat), off + us.length ≤ cs.length → (putV cs off us)[i]? = if off ≤ i ∧ i < off + us.length then us[i - off]? else cs[i]?
  | [], cs, off, i, _ => by
    simp only [putV, List.length_nil, Nat.add_zero]
    rw [if_neg (by omega)]
  | u :: us, cs, off, i, h => by
    simp only [putV]
    rw [putV_get us _ (off + 1) i (by simp at h ⊢; omega)]
    simp only [List.length_cons] at h ⊢
    by_cases h1 : i = off
    · subst h1
      rw [if_neg (by omega), if_pos (by omega), List.getElem?_set_self (by omega)]
      simp
    · rw [List.getElem?_set_ne (by omega)]
      by_cases h2 : off + 1 ≤ i ∧ i < off + 1 + us.length
      · rw [if_pos h2, if_pos (by omega)]
        obtain ⟨k, hk⟩ : ∃ k, i - off = k + 1 := ⟨i - off - 1, by omega⟩
        rw [hk, List.getElem?_cons_succ]
        congr 1
        omega
      · rw [if_neg h2, if_neg (by omega)]
theorem RdDs_upd {w : World} {G : Nat → Nat} {B : Nat → Prop} {x : D} {v : Value} (hx : RdD w G B x v) : ∀ (cs : List D) (vs : List Value) (i : Nat), RdDs w G B cs vs → RdDs w G B (putD.updD cs i x) (vs.set i v)
  | [], vs, i, h => by
    simp only [RdDs] at h
    subst h
    simp [putD.updD, RdDs]
  | c :: cs, vs, 0, h => by
    simp only [RdDs] at h
    obtain ⟨u, rest, rfl, _, h2⟩ := h
    simp only [putD.updD, RdDs, List.set_cons_zero]
    exact ⟨v, rest, rfl, hx, h2⟩
  | c :: cs, vs, i + 1, h => by
    simp only [RdDs] at h
    obtain ⟨u, rest, rfl, h1, h2⟩ := h
    simp only [putD.updD, RdDs, List.set_cons_succ]
    exact ⟨u, _, rfl, h1, RdDs_upd hx cs rest i h2⟩
theorem RdDs_put {w : World} {G : Nat → Nat} {B : Nat → Prop} : ∀ (ds : List D) (us : List Value) (cs : List D) (vs : List Value) (off : Nat), RdDs w G B ds us → RdDs w G B cs vs → RdDs w G B (putD cs off ds) (putV vs off us)
  | [], us, cs, vs, off, h, h' => by
    simp only [RdDs] at h
    subst h
    exact h'
  | d :: ds, us, cs, vs, off, h, h' => by
    simp only [RdDs] at h
    obtain ⟨u, rest, rfl, h1, h2⟩ := h
    simp only [putD, putV]
    exact RdDs_put ds rest _ _ (off + 1) h2 (RdDs_upd h1 cs vs off h')
theorem dOnes_one {w : World} {G : Nat → Nat} {B : Nat → Prop} : ∀ (ds : List D) (us : List Value), dOnes ds = true → RdDs w G B ds us → ∀ c ∈ us, oneV c
  | [], us, _, h => by simp only [RdDs] at h; subst h; simp
  | d :: ds, us, ho, h => by
    simp only [RdDs] at h
    obtain ⟨u, rest, rfl, h1, h2⟩ := h
    simp only [dOnes] at ho
    split at ho
    · rename_i hd
      intro c hc
      simp only [List.mem_cons] at hc
      rcases hc with rfl | hc
      · cases d with
        | agg ds => cases hd
        | bool b => rw [show c = .bool b from h1]; trivial
        | int k n => rw [show c = .int k n from h1]; trivial
        | str s => rw [show c = .string ⟨s.toArray⟩ from h1]; trivial
        | nf => rw [show c = .nilFunc from h1]; trivial
        | np => rw [show c = .pointer none from h1]; trivial
        | nm => rw [show c = .map none from h1]; trivial
        | row s es =>
          simp only [RdD] at h1
          rcases h1 with ⟨⟨p, cap, h1⟩, _⟩ | ⟨b, o', cap, vs, h1, _⟩ <;> (rw [h1]; trivial)
      · exact dOnes_one ds rest ho h2 c hc
    · cases ho
theorem RdD_cells {w : World} {G : Nat → Nat} {B : Nat → Prop} {z : D} {v : Value} (hr : RdD w G B z v) : RdDs w G B z.cells v.cells.toList := by
  cases z with
  | agg ds =>
    simp only [RdD] at hr
    obtain ⟨vs, hvs, hr⟩ := hr
    rw [hvs]; exact hr
  | bool b => rw [show v = .bool b from hr]; exact ⟨_, _, rfl, rfl, rfl⟩
  | int k n => rw [show v = .int k n from hr]; exact ⟨_, _, rfl, rfl, rfl⟩
  | str s => rw [show v = .string ⟨s.toArray⟩ from hr]; exact ⟨_, _, rfl, rfl, rfl⟩
  | nf => rw [show v = .nilFunc from hr]; exact ⟨_, _, rfl, rfl, rfl⟩
  | np => rw [show v = .pointer none from hr]; exact ⟨_, _, rfl, rfl, rfl⟩
  | nm => rw [show v = .map none from hr]; exact ⟨_, _, rfl, rfl, rfl⟩
  | row s es =>
    have h0 := hr
    simp only [RdD] at hr
    rcases hr with ⟨⟨p, cap, hr⟩, _⟩ | ⟨b, o', cap, vs, hr, _⟩ <;> (rw [hr] at h0 ⊢; exact ⟨_, _, rfl, h0, rfl⟩)
theorem setD_sound {w : World} {G : Nat → Nat} {B : Nat → Prop} {e e' : D} {off : Nat} {ds : List D} {y : Value} {us : List Value} (he : setD e off ds = some e') (hy : RdD w G B e y) (hu : RdDs w G B ds us) (ho : ∀ c ∈ us, oneV c)
    (hl : off + us.length ≤ y.cells.size) : ∃ y' : Value, RdD w G B e' y' ∧ y'.cells.toList = putV y.cells.toList off us := by
  have sing : ∀ {x : D}, off = 0 → ds = [x] → e' = x → y.cells.size = 1 → ∃ y' : Value, RdD w G B e' y' ∧ y'.cells.toList = putV y.cells.toList off us := by
    rintro x rfl rfl rfl h1
    simp only [RdDs] at hu
    obtain ⟨v, rest, rfl, hv, rfl⟩ := hu
    refine ⟨v, hv, ?_⟩
    have hv1 : v.cells.toList = [v] := by
      have := ho v (by simp)
      cases v <;> first | rfl | exact this.elim
    obtain ⟨c, hc⟩ : ∃ c, y.cells.toList = [c] := List.length_eq_one_iff.1 (by simpa using h1)
    rw [hv1, hc]
    rfl
  have one : ∀ {z : D}, (∀ cs, z ≠ .agg cs) → e = z → ∃ y' : Value, RdD w G B e' y' ∧ y'.cells.toList = putV y.cells.toList off us := by
    rintro z hz rfl
    have hc : e.cells = [e] := by
      cases e <;> first | rfl | exact absurd rfl (hz _)
    have hsz : y.cells.size = 1 := by
      have := RdDs_len _ _ (RdD_cells hy)
      rw [hc] at this
      simpa using this
    cases e <;> first
      | exact absurd rfl (hz _)
      | (simp only [setD] at he
         split at he
         · cases he; exact sing rfl rfl rfl hsz
         · cases he)
  cases e with
  | agg cs =>
    simp only [setD, Option.some.injEq] at he
    subst he
    simp only [RdD] at hy
    obtain ⟨vs, rfl, hy⟩ := hy
    exact ⟨.agg ⟨putV vs off us⟩, by simp only [RdD]; exact ⟨_, rfl, RdDs_put ds us cs vs off hu hy⟩, rfl⟩
  | _ => exact one (by intro cs h; cases h) rfl
theorem did_ust {ty : TypeId} {x y : Operand} {x' y' : AO} {s tk sz n off sz2 : Nat} {e e' : D} {ep ep' ep2 : Ep} {es ds : List D} {vs : List AV} (R : Rep E S w σ) (hA : RdF E.φ S w A a.tmps.toList) (hop : o.op = .store ty x y)
    (hx : opnd E.P E.ν 0 x = some x') (hy : opnd E.P E.ν ty y = some y') (hs : sizeT E.P ty = some s) (hp : x'.ev A = .up tk sz n e off ep) (hv : (y'.ev A).cells = some vs) (hq : findQ tk A σ = some (sz2, es, ep2))
    (hds : toDs vs = some (ep', ds)) (hvs : vs.length = s) (hl : off + s ≤ e.cells.length) (hsz : sz = sz2) (ho : dOnes ds = true) (hset : setD e off ds = some e') :
    Did E S w a o (putA (updF (tk, some (sz2, std.dset es n e', ep2.meet (ep.meet ep'))) A) o.dst .any) (updS (tk, some (sz2, std.dset es n e', ep2.meet (ep.meet ep'))) σ) := by
  subst hsz
  have hX := opnd_sound hx hA
  rw [hp] at hX
  simp only [RdA] at hX
  obtain ⟨b, ye, hβ, hX, hye, hce, hsye⟩ := hX
  obtain ⟨v0, hv0⟩ := findQ_sound R hA hq
  have hcell := cells_sound (opnd_sound hy hA) hv
  have hl1 := RdAs_len _ _ hcell
  have hdd := toDs_sound hcell hds
  have hone := dOnes_one _ _ ho hdd
  have hyl := RdDs_len _ _ (RdD_cells hye)
  have hlus : (a.eval y).cells.toList.length = s := by omega
  have hsu : (a.eval y).cells.size = s := by simpa using hlus
  have hrow : ∃ vs cs T, w.heap[b]? = some (.cells cs T (0, 0)) ∧ es.length = (S.ln tk).1 ∧ (S.ln tk).1 ≤ (S.ln tk).2 ∧ (S.ln tk).2 * sz ≤ cs.size ∧ epB S.E ep2 b ∧ S.G b = 0 ∧ cellsAt w b 0 vs ∧ RdRow w S.G (epB S.E ep2) sz es vs := by
    rcases hv0 with ⟨h, _⟩ | ⟨b', vs, cs, T, h, _, h2, h3, h4, h5, h6, h7, h8, h9⟩
    · rw [hβ] at h; cases h
    · rw [hβ] at h; cases h
      exact ⟨vs, cs, T, h3, h2, h4, h5, h6, h7, h8, h9⟩
  obtain ⟨rv, cs, T, hh, hlen, hcap, hcs, he2, hG, hcv, hrr⟩ := hrow
  have hcellof : ∀ i, w.cell? ⟨b, i, none⟩ = cs[i]? := fun i => by simp [World.cell?, hh]
  have hend : n * sz + sz ≤ cs.size := by
    cases hz : sz with
    | zero =>
      simp
    | succ k =>
      have hlt : k < ye.cells.toList.length := by simp only [Array.length_toList]; omega
      have := hce k _ (List.getElem?_eq_getElem hlt)
      rw [hcellof] at this
      rw [hz] at this
      have := (Array.getElem?_eq_some_iff.1 this).1
      omega
  have hol : off + s ≤ sz := by
    have h1 : e.cells.length = sz := by rw [← hsye, ← hyl]; simp
    omega
  obtain ⟨w', hrun, ht⟩ := run_storeCells (P := E.P) (a.eval y).cells.toList w cs (n * sz + off) 0 hh (by omega) hone
  rw [Nat.add_zero] at ht
  have hm := moves_uturn R hβ hG ht (S.ln tk)
  have hlnid : setL S.ln tk (S.ln tk) = S.ln := by
    funext u
    simp only [setL]
    split
    · rename_i h; rw [h]
    · rfl
  rw [hlnid] at hm
  have hS : ({ S with ln := S.ln } : St) = S := rfl
  rw [hS] at hm
  have w1 : ∀ c, epB S.E ep c → epB S.E (ep2.meet (ep.meet ep')) c := fun c h => epB_meet_r _ _ c (epB_meet_l _ _ c h)
  have w2 : ∀ c, epB S.E ep' c → epB S.E (ep2.meet (ep.meet ep')) c := fun c h => epB_meet_r _ _ c (epB_meet_r _ _ c h)
  have w3 : ∀ c, epB S.E ep2 c → epB S.E (ep2.meet (ep.meet ep')) c := fun c h => epB_meet_l _ _ c h
  have gr : ∀ (q : Ep), (∀ c, epB S.E q c → epB S.E (ep2.meet (ep.meet ep')) c) → Grow w S.G (epB S.E q) w' S.G (epB S.E (ep2.meet (ep.meet ep'))) := fun q hq => ⟨hm.keeps.imm, hm.keeps.G, hm.keeps.size, fun c _ => hq c⟩
  obtain ⟨y2, hy2, hcells2⟩ := setD_sound hset (RdD_mono (gr ep w1) _ _ hye) (RdDs_mono (gr ep' w2) _ _ hdd) hone (by simp at hlus ⊢; omega)
  have hcell' : ∀ i, w'.cell? ⟨b, i, none⟩ = (putV cs.toList (n * sz + off) (a.eval y).cells.toList)[i]? := fun i => by
    simp [World.cell?, ht.here]
  have hcl : ∀ i, w'.cell? ⟨b, i, none⟩ = if n * sz + off ≤ i ∧ i < n * sz + off + s then (a.eval y).cells.toList[i - (n * sz + off)]? else cs[i]? := fun i => by
    rw [hcell', putV_get _ _ _ _ (by simp only [Array.length_toList]; omega), hlus]
    simp only [Array.getElem?_toList]
  have hrow2 : RdRow w' S.G (epB S.E (ep2.meet (ep.meet ep'))) sz es rv := RdRow_mono (gr ep2 w3) _ _ _ hrr
  have hrvl := RdRow_len _ _ hrr
  have final : ∃ vs', cellsAt w' b 0 vs' ∧ RdRow w' S.G (epB S.E (ep2.meet (ep.meet ep'))) sz (std.dset es n e') vs' := by
    by_cases hn : n < es.length
    · have hmul : n * sz + sz ≤ es.length * sz := by
        have := Nat.mul_le_mul_right sz (show n + 1 ≤ es.length from hn)
        rwa [Nat.add_mul, Nat.one_mul] at this
      have hc2 : y2.cells.size = sz := by
        have : y2.cells.toList.length = (putV ye.cells.toList off (a.eval y).cells.toList).length := by rw [hcells2]
        rw [putV_len] at this
        simpa [hsye] using this
      have hye1 : ∀ c ∈ ye.cells.toList, oneV c := by
        intro c hc
        obtain ⟨i, hi⟩ := List.getElem?_of_mem hc
        have h1 := hce i c hi
        have hil : i < sz := by
          have := (List.getElem?_eq_some_iff.1 hi).1
          simpa [hsye] using this
        have hlt : n * sz + i < rv.length := by omega
        have h2 := hcv (n * sz + i) _ (List.getElem?_eq_getElem hlt)
        rw [Nat.zero_add, h1] at h2
        have h3 : c = rv[n * sz + i] := Option.some.inj h2
        rw [h3]
        exact RdRow_one es rv hrr _ (List.getElem_mem hlt)
      have ho2 : ∀ c ∈ y2.cells.toList, oneV c := by
        intro c hc
        rw [hcells2] at hc
        obtain ⟨i, hi⟩ := List.getElem?_of_mem hc
        rw [putV_get _ _ _ _ (by simp only [Array.length_toList]; omega)] at hi
        split at hi
        · exact hone c (List.mem_of_getElem? hi)
        · exact hye1 c (List.mem_of_getElem? hi)
      refine ⟨_, ?_, RdRow_set hc2 ho2 hy2 es rv n hrow2 hn⟩
      intro i v hi
      rw [Nat.zero_add, hcl]
      have hrc : ∀ j, j < rv.length → cs[j]? = rv[j]? := fun j hj => by
        have := hcv j _ (List.getElem?_eq_getElem hj)
        rw [Nat.zero_add, hcellof] at this
        rw [this, List.getElem?_eq_getElem hj]
      have hyc : ∀ j, j < sz → cs[n * sz + j]? = ye.cells.toList[j]? := fun j hj => by
        have hlt : j < ye.cells.toList.length := by simp [hsye]; exact hj
        have := hce j _ (List.getElem?_eq_getElem hlt)
        rw [hcellof] at this
        rw [this, List.getElem?_eq_getElem hlt]
      rw [List.append_assoc] at hi
      by_cases h1 : i < n * sz
      · rw [List.getElem?_append_left (by simp; omega), List.getElem?_take, if_pos h1] at hi
        rw [if_neg (by omega), hrc i (by omega)]
        exact hi
      · rw [List.getElem?_append_right (by simp; omega)] at hi
        have hlt2 : (rv.take (n * sz)).length = n * sz := by simp; omega
        rw [hlt2] at hi
        by_cases h2 : i - n * sz < sz
        · rw [List.getElem?_append_left (by simp [hc2]; exact h2), hcells2, putV_get _ _ _ _ (by simp only [Array.length_toList]; omega), hlus] at hi
          by_cases h3 : off ≤ i - n * sz ∧ i - n * sz < off + s
          · rw [if_pos h3] at hi
            rw [if_pos (by omega)]
            rw [show i - (n * sz + off) = i - n * sz - off by omega]
            exact hi
          · rw [if_neg h3] at hi
            rw [if_neg (by omega)]
            have := hyc (i - n * sz) h2
            rw [show n * sz + (i - n * sz) = i by omega] at this
            rw [this]
            exact hi
        · rw [List.getElem?_append_right (by simp [hc2]; omega), List.getElem?_drop] at hi
          have hy2l : y2.cells.toList.length = sz := by simp [hc2]
          rw [hy2l, show n * sz + sz + (i - n * sz - sz) = i by omega] at hi
          rw [if_neg (by omega), hrc i (List.getElem?_eq_some_iff.1 hi).1]
          exact hi
    · refine ⟨rv, ?_, ?_⟩
      · intro i v hi
        have hlt := (List.getElem?_eq_some_iff.1 hi).1
        have hmul : es.length * sz ≤ n * sz := Nat.mul_le_mul_right _ (by omega)
        rw [Nat.zero_add, hcl, if_neg (by omega)]
        have := hcv i v hi
        rwa [Nat.zero_add, hcellof] at this
      · have : std.dset es n e' = es := List.set_eq_of_length_le (by omega)
        rw [this]
        exact hrow2
  obtain ⟨rv', hcv', hrr'⟩ := final
  have hnew : ∀ sz1 es1 ep1 v, RdUq S w tk sz1 es1 ep1 v → RdUq S w' tk sz (std.dset es n e') (ep2.meet (ep.meet ep')) v := by
    intro sz1 es1 ep1 v h
    rcases h with ⟨h, _⟩ | ⟨b', _, _, _, h, hv, _⟩
    · rw [hβ] at h; cases h
    · rw [hβ] at h; cases h
      refine .inr ⟨b, rv', _, T, hβ, hv, ?_, ht.here, hcap, ?_, w3 b he2, hG, hcv', hrr'⟩
      · simp only [std, List.length_set]; exact hlen
      · simp only [List.size_toArray, putV_len, Array.length_toList]; exact hcs
  refine ⟨_, undef, S, w', ?_, .inr ⟨rfl, rfl⟩, ?_, RdF_put (updF_sound hm.keeps hnew hA) trivial, hm.ev, hm.x⟩
  · simp only [execOp, hop, Instr.storeAt, hX, Instr.sureAddr, Sem.run_bind, Sem.run_pure, Result.andThen_ok, storeVar, sizeT_some hs]
    rw [if_neg (by omega)]
    simp only [hrun, Result.andThen_ok]
  · have hθ := (R.βlt _ b hβ).2.2
    refine ⟨by rw [updS_len]; exact R.len, R.nodup, ?_, fun c hc => ⟨by rw [ht.size]; exact (R.θlt c hc).1, (R.θlt c hc).2⟩, R.θX, fun u c hc => ⟨by rw [ht.size]; exact (R.βlt u c hc).1, (R.βlt u c hc).2⟩, R.βown, R.βinj,
      fun c hc => R.Gnew c (by rw [ht.size] at hc; exact hc), by rw [ht.size]; exact R.E, by rw [ht.size]; exact R.n0, R.D, fun b hb => ⟨by rw [ht.size]; exact (R.X b hb).1, (R.X b hb).2⟩⟩
    intro id c x hc hx
    rw [updS_get, Option.map_eq_some_iff] at hx
    obtain ⟨y, hy, rfl⟩ := hx
    have hne : c ≠ b := fun e => hθ (e ▸ List.mem_of_getElem? hc)
    exact updE_sound hm.keeps hnew (ht.rest c hne) (R.box id c y hc hy)
end
end Go.Ly
end
section
namespace Go.Ly
section
variable {E : Env} {S S' : St} {w w' : World} {A : Fm} {σ : Sto} {a : Act} {o : Oper} {ops : Array Oper}
theorem turn_id {b : Nat} {ob : Obj} (h : w.heap[b]? = some ob) : TurnO w w b ob := ⟨rfl, h, fun _ _ => rfl, .refl w⟩
theorem did_usl {t e : TypeId} {x : Operand} {x' : AO} {hi : Option Operand} {hi' : Option AO} {n tk : Nat} {es : List D} {ep : Ep} {h : Int} (R : Rep E S w σ) (hA : RdF E.φ S w A a.tmps.toList) (hop : o.op = .slice t x none hi none)
    (hu : E.P.underlying t = some (.slice e)) (hs : sizeT E.P e = some (n + 1)) (hx : opnd E.P E.ν t x = some x') (hh : optO E.P E.ν hi = some hi') (hX : x'.ev A = .uq tk (n + 1) es ep)
    (hb : boundA A (std.dlen es) hi' = some h) (h0 : 0 ≤ h) (h1 : h ≤ (es.length : Int)) :
    Did E S w a o (putA (killF [tk] A) o.dst (.uq tk (n + 1) (std.dcut es 0 h) ep)) (killS [tk] σ) := by
  have rX := opnd_sound hx hA
  rw [hX] at rX
  simp only [RdA] at rX
  have hcut : std.dcut es 0 h = es.take h.toNat := by simp [std]
  rw [hcut]
  rcases rX with ⟨hβ, rfl, hbx⟩ | ⟨b, vs, cs, T, hβ, hbx, hl, hh2, hcap, hcs, he, hG, hc, hr⟩
  · have hh0 : h = 0 := by simp at h1; omega
    subst hh0
    have hb := run_sliceBounds (w := w) (a := a) (P := E.P) (sl := true) (len := 0) (lo := none) (l := 0) (Nat.zero_le 0) (.inl ⟨rfl, rfl⟩) (boundA_sound hh hA hb) (Int.le_refl 0) h0 (by simp)
    have hm := moves_unil R tk
    refine ⟨.value (.slice none 0 0), _, _, w, ?_, .inl rfl, rep_unil R tk, RdF_put (RdF_movesU hm hA) ?_, hm.ev, hm.x⟩
    · simp only [Option.map_none] at hb
      simp only [execOp, hop, hbx, Instr.sliceAt, Instr.slice, Sem.run_bind, run_underlying hu, Result.andThen_ok, Option.map_none, hb, sizeT_some hs, Sem.run_pure]
      simp
    · exact .inl ⟨by simp [unsetβ], by simp, rfl⟩
  · rw [← hl] at hbx hcap
    have hb := run_sliceBounds (w := w) (a := a) (P := E.P) (sl := true) (lo := none) (l := 0) hcap (.inl ⟨rfl, rfl⟩) (boundA_sound hh hA hb) (Int.le_refl 0) h0 h1
    have hm := moves_uturn R hβ hG (turn_id hh2) (h.toNat, (S.ln tk).2)
    have hlt : (es.take h.toNat).length = h.toNat := by simp; omega
    obtain ⟨r1, _⟩ := RdRow_split es vs h.toNat hr (by omega)
    refine ⟨.value (.slice (some ⟨b, 0, none⟩) h.toNat (S.ln tk).2), .slice (some ⟨b, 0, none⟩) (es.take h.toNat).length (S.ln tk).2, _, w, ?_, .inl (by rw [hlt]), rep_uturn R hβ hG (turn_id hh2) _, RdF_put (RdF_movesU hm hA) ?_, hm.ev, hm.x⟩
    · simp only [Option.map_none] at hb
      simp only [execOp, hop, hbx, Instr.sliceAt, Instr.slice, Sem.run_bind, run_underlying hu, Result.andThen_ok, Option.map_none, hb, sizeT_some hs, Sem.run_pure]
      simp [add_addr]
    · refine RdUq_mk (vs := vs.take (h.toNat * (n + 1))) hβ (by rw [hlt]; exact setL_same _ _ _) hh2 (by rw [hlt]; omega) hcs he hG ?_ r1
      have := cellsAt_sub (k := 0) (m := h.toNat * (n + 1)) hc
      simpa using this
theorem key_value {w : World} {G : Nat → Nat} {B : Nat → Prop} {k : D} {v : Value} (h : RdD w G B k v) (hk : k.key = true) : (∃ q n, k = .int q n ∧ v = .int q n) ∨ ∃ s, k = .str s ∧ v = .string ⟨s.toArray⟩ := by
  cases k with
  | int q n => exact .inl ⟨q, n, rfl, h⟩
  | str s => exact .inr ⟨s, rfl, h⟩
  | _ => cases hk
def KeyD : TypeDesc → D → Prop
  | .int _, .int _ _ => True
  | .string, .str _ => True
  | _, _ => False
theorem sameNow_sound {d : TypeDesc} {k k' : D} {v v' : Value} {w : World} {G : Nat → Nat} {B B' : Nat → Prop} (hd : KeyD d k) (hf : k.fit k' = true) (hv : RdD w G B k v) (hv' : RdD w G B' k' v') : Instr.sameNow d v v' = some (k.same k') := by
  cases k with
  | int q n =>
    cases k' <;> simp only [D.fit, Bool.false_eq_true, beq_iff_eq] at hf
    subst hf
    obtain rfl : v = .int _ _ := hv
    obtain rfl : v' = .int _ _ := hv'
    cases d <;> first | exact hd.elim | skip
    simp [Instr.sameNow, D.same]
  | str s =>
    cases k' <;> simp only [D.fit, Bool.false_eq_true] at hf
    obtain rfl : v = .string _ := hv
    obtain rfl : v' = .string _ := hv'
    cases d <;> first | exact hd.elim | skip
    simp only [Instr.sameNow, D.same, Option.some.injEq]
    rw [beq_toListBytes, Lib.toList_data, Lib.toList_data]
  | _ => cases d <;> exact hd.elim
theorem findNow_sound {d : TypeDesc} {k : D} {kv : Value} {w : World} {G : Nat → Nat} {B B' : Nat → Prop} (hd : KeyD d k) (hkv : RdD w G B' k kv) (hkey : k.key = true) : ∀ (m : List (D × D)) (es : List MapEntry) (i : Nat), RdM w G B m es → (∀ p ∈ m, k.fit p.1 = true) →
    (mgetD m k = none ∧ Instr.findNow d kv es i = some none ∧ ∀ (y : D) (yv : Value) (c : Nat) (w' : World) (G' : Nat → Nat) (B2 : Nat → Prop), (∀ x v, RdD w G B x v → RdD w' G' B2 x v) → RdD w' G' B2 k kv → RdD w' G' B2 y yv → RdM w' G' B2 (msetD m k y) (es ++ [{ key := kv, val := yv, born := c }])) ∨
    ∃ j x e, mgetD m k = some x ∧ Instr.findNow d kv es i = some (some (i + j, e.val)) ∧ es[j]? = some e ∧ RdD w G B x e.val ∧ RdD w G B k e.key ∧ (e.key = kv) ∧
      ∀ (y : D) (yv : Value) (w' : World) (G' : Nat → Nat) (B2 : Nat → Prop), (∀ x v, RdD w G B x v → RdD w' G' B2 x v) → RdD w' G' B2 k kv → RdD w' G' B2 y yv → RdM w' G' B2 (msetD m k y) (es.modify j fun e => { e with key := kv, val := yv })
  | [], es, i, h, _ => by
    simp only [RdM] at h
    subst h
    refine .inl ⟨rfl, rfl, fun y yv c w' G' B2 hB hk hy => ?_⟩
    exact ⟨_, [], rfl, hkey, hk, hy, rfl⟩
  | (k', x) :: m, es, i, h, hf => by
    simp only [RdM] at h
    obtain ⟨e, rest, rfl, hk', hk1, hx, hm⟩ := h
    have hfit := hf (k', x) (by simp)
    have hs := sameNow_sound hd hfit hkv hk1
    cases hsame : k.same k' with
    | true =>
      rw [hsame] at hs
      have hek : e.key = kv := by
        rcases key_value hkv hkey with ⟨q, n, rfl, rfl⟩ | ⟨s, rfl, rfl⟩
        · cases k' <;> simp only [D.fit, Bool.false_eq_true, beq_iff_eq] at hfit
          subst hfit
          simp only [D.same, beq_iff_eq] at hsame
          subst hsame
          exact hk1
        · cases k' <;> simp only [D.fit, Bool.false_eq_true] at hfit
          simp only [D.same, beq_iff_eq] at hsame
          subst hsame
          exact hk1
      have hkk : RdD w G B k e.key := by
        rw [hek]
        rcases key_value hkv hkey with ⟨q, n, rfl, rfl⟩ | ⟨s, rfl, rfl⟩ <;> rfl
      refine .inr ⟨0, x, e, by simp [mgetD, hsame], by simp [Instr.findNow, hs], rfl, hx, hkk, hek, fun y yv w' G' B2 hB hk hy => ?_⟩
      simp only [msetD, hsame, if_true, List.modify_zero_cons]
      refine ⟨_, rest, rfl, hkey, hk, hy, ?_⟩
      have mono : ∀ (m : List (D × D)) (es : List MapEntry), RdM w G B m es → RdM w' G' B2 m es := by
        intro m
        induction m with
        | nil => intro es h; exact h
        | cons p m ih =>
          intro es h
          obtain ⟨e, rest, he, hk, h1, h2, h3⟩ := h
          exact ⟨e, rest, he, hk, hB _ _ h1, hB _ _ h2, ih rest h3⟩
      exact mono m rest hm
    | false =>
      rw [hsame] at hs
      rcases findNow_sound hd hkv hkey m rest (i + 1) hm (fun p hp => hf p (by simp [hp])) with ⟨h1, h2, h3⟩ | ⟨j, x', e', h1, h2, h3, h4, h5, h6, h7⟩
      · refine .inl ⟨by simp [mgetD, hsame, h1], by simp [Instr.findNow, hs, h2], fun y yv c w' G' B2 hB hk hy => ?_⟩
        simp only [msetD, hsame, Bool.false_eq_true, if_false, List.cons_append]
        exact ⟨e, _, rfl, hk', hB _ _ hk1, hB _ _ hx, h3 y yv c w' G' B2 hB hk hy⟩
      · refine .inr ⟨j + 1, x', e', by simp [mgetD, hsame, h1], by simp [Instr.findNow, hs, h2]; omega, by simpa using h3, h4, h5, h6, fun y yv w' G' B2 hB hk hy => ?_⟩
        simp only [msetD, hsame, Bool.false_eq_true, if_false, List.modify_succ_cons]
        exact ⟨e, _, rfl, hk', hB _ _ hk1, hB _ _ hx, h7 y yv w' G' B2 hB hk hy⟩
theorem keyZ_sound {P : Program} {kt : TypeId} {kk k : D} (h : keyZ P kt = some kk) (hf : keyFit kk k = true) : ∃ d, P.underlying kt = some d ∧ KeyD d k ∧ k.key = true := by
  unfold keyZ at h
  split at h
  · rename_i q hu
    cases h
    cases k <;> simp only [keyFit, Bool.false_eq_true] at hf
    exact ⟨_, hu, trivial, rfl⟩
  · rename_i hu
    cases h
    cases k <;> simp only [keyFit, Bool.false_eq_true] at hf
    exact ⟨_, hu, trivial, rfl⟩
  · cases h
theorem run_checkKey {P : Program} {kt : TypeId} {d : TypeDesc} {k : D} (hu : P.underlying kt = some d) (hd : KeyD d k) (v : Value) (em : Bool) : (Instr.checkKey em 10000 kt v).run P w = .ok () w := by
  rw [show (10000 : Nat) = 9999 + 1 from rfl, Instr.checkKey]
  cases d <;> first
    | (exact hd.elim)
    | (simp only [Sem.run_bind, run_underlying hu, Result.andThen_ok]; rfl)
theorem run_findKey {P : Program} {kt : TypeId} {d : TypeDesc} {kv : Value} {es : List MapEntry} {r : Option (Nat × Value)} (hu : P.underlying kt = some d) (h : Instr.findNow d kv es 0 = some r) : (Instr.findKey kt kv es).run P w = .ok r w := by
  simp only [Instr.findKey, Sem.run_bind, run_underlying hu, Result.andThen_ok, h, Sem.run_pure]
theorem run_keyStays {P : Program} {k : D} {kv : Value} {G : Nat → Nat} {B : Nat → Prop} (h : RdD w G B k kv) (hk : k.key = true) : (Instr.keyThatStays kv kv).run P w = .ok kv w := by
  unfold Instr.keyThatStays
  rcases key_value h hk with ⟨q, n, rfl, rfl⟩ | ⟨s, rfl, rfl⟩
  · simp [Instr.sameBits]
  · have e : ((⟨s.toArray⟩ : ByteArray) == ⟨s.toArray⟩) = true := by rw [beq_toListBytes]; simp
    simp [Instr.sameBits, e]
theorem run_setMap {P : Program} {b : Nat} {es : Array MapEntry} {k : Nat} (ob : Obj) (h : w.heap[b]? = some (.map es k)) : (setObj b ob).run P w = .ok () { w with heap := w.heap.setIfInBounds b ob } := by simp [setObj, Sem.run, h]
theorem did_mkm {t : TypeId} (R : Rep E S w σ) (hA : RdF E.φ S w A a.tmps.toList) (hop : o.op = .makeMap t none) : Did E S w a o (putA A o.dst (.mp (lenS σ))) (addS σ (.md .top [])) := by
  have M : More w { w with heap := w.heap.push (.map #[] 0) } (.map #[] 0) := ⟨rfl, rfl, rfl⟩
  have hm := moves_box R M
  refine ⟨.value (.map (some w.heap.size)), _, { S with θ := S.θ ++ [w.heap.size] }, _, ?_, .inl rfl, rep_box R M ⟨#[], 0, M.new, rfl⟩, RdF_put (RdF_moves0 hm hA) ?_, hm.ev, hm.x⟩
  · simp [execOp, hop, Instr.makeMap]
  · simp only [RdA]
    refine ⟨w.heap.size, ?_, rfl⟩
    rw [lenS_eq, ← R.len, List.getElem?_append_right (Nat.le_refl _)]
    simp
theorem did_mup {t kt vt : TypeId} {x k v : Operand} {x' k' v' : AO} {kk key y : D} {id : Nat} {ek ep ep' : Ep} {m : List (D × D)} (R : Rep E S w σ) (hA : RdF E.φ S w A a.tmps.toList) (hop : o.op = .mapUpdate t x k v)
    (hu : E.P.underlying t = some (.map kt vt)) (hkk : keyZ E.P kt = some kk) (hx : opnd E.P E.ν t x = some x') (hk : opnd E.P E.ν kt k = some k') (hv : opnd E.P E.ν vt v = some v')
    (hX : x'.ev A = .mp id) (hK : k'.ev A = .d ek key) (hf : keyFit kk key = true) (hs : getS σ id = some (.md ep m)) (hV : toD (v'.ev A) = some (ep', y)) (hfit : std.mfit m key) :
    Did E S w a o (putA A o.dst .any) (setS σ id (.md (ep.meet ep') (std.mset m key y))) := by
  have rX := opnd_sound hx hA
  rw [hX] at rX
  have rK := opnd_sound hk hA
  rw [hK] at rK
  have rV := toD_sound (opnd_sound hv hA) hV
  simp only [RdA] at rX rK
  obtain ⟨b, hb, hxv⟩ := rX
  obtain ⟨d, hd, hD, hkey⟩ := keyZ_sound hkk hf
  rw [getS_eq] at hs
  obtain ⟨es, clk, hh, hm⟩ := R.box id b _ hb hs
  have w1 : ∀ c, epB S.E ep c → epB S.E (ep.meet ep') c := fun c h => epB_meet_l _ _ c h
  have w2 : ∀ c, epB S.E ep' c → epB S.E (ep.meet ep') c := fun c h => epB_meet_r _ _ c h
  have hlt := heap_lt hh
  have put : ∀ ob : Obj, TurnO w { w with heap := w.heap.setIfInBounds b ob } b ob := fun ob => ⟨by simp, by simp [hlt], fun c hc => by simp [Array.getElem?_setIfInBounds_ne (Ne.symm hc)], .turn (b := b) (o' := ob) rfl rfl hh (by simp [hlt]) (fun _ _ _ e => by cases e) fun c _ hc => by simp [Array.getElem?_setIfInBounds_ne (Ne.symm hc)]⟩
  have fin : ∀ ob : Obj, (∃ es' clk', ob = .map es' clk' ∧ ∀ (w' : World), (∀ x v, RdD w S.G (epB S.E ep) x v → RdD w' S.G (epB S.E (ep.meet ep')) x v) → RdD w' S.G (epB S.E (ep.meet ep')) key (a.eval k) → RdD w' S.G (epB S.E (ep.meet ep')) y (a.eval v) →
        RdM w' S.G (epB S.E (ep.meet ep')) (std.mset m key y) es'.toList) →
      (execOp a.eval o).run E.P w = .ok .skip { w with heap := w.heap.setIfInBounds b ob } → Did E S w a o (putA A o.dst .any) (setS σ id (.md (ep.meet ep') (std.mset m key y))) := by
    rintro ob ⟨es', clk', rfl, hob⟩ hrun
    have hmv := moves_st R hb (put (.map es' clk'))
    have gr : ∀ (q : Ep), (∀ c, epB S.E q c → epB S.E (ep.meet ep') c) → Grow w S.G (epB S.E q) { w with heap := w.heap.setIfInBounds b (.map es' clk') } S.G (epB S.E (ep.meet ep')) := fun q hq => ⟨hmv.keeps.imm, hmv.keeps.G, hmv.keeps.size, fun c _ => hq c⟩
    refine ⟨.skip, undef, S, _, hrun, .inr ⟨rfl, rfl⟩, rep_stO R hb (put _) ⟨es', clk', (put _).here, hob _ (fun x v h => RdD_mono (gr ep w1) x v h) ?_ (RdD_mono (gr ep' w2) _ _ rV)⟩, RdF_put (RdF_moves0 hmv hA) trivial, hmv.ev, hmv.x⟩
    rcases key_value rK hkey with ⟨q, n, rfl, h⟩ | ⟨s, rfl, h⟩ <;> (rw [h]; rfl)
  have hget : (getObj b).run E.P w = .ok (.map es clk) w := by simp [getObj, Sem.run, hh]
  rcases findNow_sound hD rK hkey m es.toList 0 hm hfit with ⟨_, h2, h3⟩ | ⟨j, x0, e, _, h2, h4, h5, _, h6, h7⟩
  · refine fin (.map (es.push { key := a.eval k, val := a.eval v, born := clk }) (clk + 1)) ⟨_, _, rfl, fun w' hB hk' hy' => ?_⟩ ?_
    · rw [Array.toList_push]
      exact h3 y _ clk w' S.G _ hB hk' hy'
    · simp only [execOp, hop, Instr.mapUpdate, Sem.run_bind, run_underlying hu, Result.andThen_ok, hxv, hget, run_checkKey hd hD, run_findKey hd h2, run_setMap _ hh, Sem.run_pure]
  · refine fin (.map (es.modify j fun e => { e with key := a.eval k, val := a.eval v }) clk) ⟨_, _, rfl, fun w' hB hk' hy' => ?_⟩ ?_
    · rw [Array.toList_modify]
      exact h7 y _ w' S.G _ hB hk' hy'
    · rw [Nat.zero_add] at h2
      have h4' : es[j]? = some e := by rw [← Array.getElem?_toList]; exact h4
      simp only [execOp, hop, Instr.mapUpdate, Sem.run_bind, run_underlying hu, Result.andThen_ok, hxv, hget, run_checkKey hd hD, run_findKey hd h2, h4', Option.map_some, Option.getD_some, h6, run_keyStays rK hkey, run_setMap _ hh, Sem.run_pure]
theorem lit_ne : ∀ (k : D) (ks : List D), eff.litNew k ks = true → ∀ k' ∈ ks, ∃ q n n', k = .int q n ∧ k' = .int q n' ∧ n ≠ n'
  | k, [], _, k', h => by cases h
  | k, k0 :: ks, h, k', hm => by
    unfold eff.litNew at h
    split at h
    · rename_i q n q' n'
      split at h
      · rename_i hq hne
        obtain rfl := kEq_iff hq
        simp only [List.mem_cons] at hm
        rcases hm with rfl | hm
        · exact ⟨q, n, n', rfl, rfl, by simpa using hne⟩
        · exact lit_ne _ ks h k' hm
      · cases h
    · cases h
theorem addD_eq : ∀ (l : List D) (x : D), eff.addD l x = l ++ [x]
  | [], _ => rfl
  | y :: l, x => by simp [eff.addD, addD_eq l x]
theorem findNow_new {φ : Nat → FuncId} {d : TypeDesc} {k : D} {kv : Value} {w : World} {G : Nat → Nat} {B' : Nat → Prop} (hd : KeyD d k) (hkv : RdD w G B' k kv) : ∀ (vs : List AV) (ks : List D) (es : List MapEntry) (i : Nat), RdKs φ S w vs ks es → eff.litNew k ks = true →
    Instr.findNow d kv es i = some none
  | [], ks, es, i, h, _ => by
    simp only [RdKs] at h
    obtain ⟨_, rfl⟩ := h
    rfl
  | x :: vs, ks, es, i, h, hl => by
    simp only [RdKs] at h
    obtain ⟨k', ks', e, rest, rfl, rfl, _, hk1, _, _, hr⟩ := h
    obtain ⟨q, n, n', rfl, rfl, hne⟩ := lit_ne k _ hl k' (by simp)
    have hl' : eff.litNew (.int q n) ks' = true := by
      simp only [eff.litNew] at hl
      split at hl
      · exact hl
      · cases hl
    have ih := findNow_new hd hkv vs ks' rest (i + 1) hr hl'
    have hkv' : kv = .int q n := hkv
    have hek : e.key = .int q n' := hk1
    cases d <;> first | exact hd.elim | skip
    rw [hkv'] at ih ⊢
    have hb : (n == n') = false := by simpa using hne
    simp [Instr.findNow, Instr.sameNow, hek, hb, ih]
theorem RdKs_append {φ : Nat → FuncId} {x : AV} {k : D} {e : MapEntry} (hk : k.key = true) (hke : RdD w S.G (epB S.E .top) k e.key) (hn : noOwn x = true) (hx : RdA φ S w x e.val) : ∀ (vs : List AV) (ks : List D) (es : List MapEntry), RdKs φ S w vs ks es → RdKs φ S w (vs ++ [x]) (ks ++ [k]) (es ++ [e])
  | [], ks, es, h => by
    simp only [RdKs] at h
    obtain ⟨rfl, rfl⟩ := h
    simp only [List.nil_append, RdKs]
    exact ⟨k, [], e, [], rfl, rfl, hk, hke, hn, hx, rfl, rfl⟩
  | y :: vs, ks, es, h => by
    simp only [RdKs] at h
    obtain ⟨k', ks', e', rest, rfl, rfl, h1, h2, h3, h4, h5⟩ := h
    simp only [List.cons_append, RdKs]
    exact ⟨k', _, e', _, rfl, rfl, h1, h2, h3, h4, RdKs_append hk hke hn hx vs ks' rest h5⟩
theorem did_mupf {t kt vt : TypeId} {x k v : Operand} {x' k' v' : AO} {kk key : D} {id : Nat} {ek : Ep} {ks : List D} {vs : List AV} {b : Nat} {es : Array MapEntry} {clk : Nat} (R : Rep E S w σ) (hA : RdF E.φ S w A a.tmps.toList) (hop : o.op = .mapUpdate t x k v)
    (hu : E.P.underlying t = some (.map kt vt)) (hkk : keyZ E.P kt = some kk) (hx : opnd E.P E.ν t x = some x') (hk : opnd E.P E.ν kt k = some k') (hv : opnd E.P E.ν vt v = some v')
    (hX : x'.ev A = .mp id) (hK : k'.ev A = .d ek key) (hf : keyFit kk key = true) (hb : S.θ[id]? = some b) (hh : w.heap[b]? = some (.map es clk)) (hm : RdKs E.φ S w vs ks es.toList) (hl : eff.litNew key ks = true) :
    Did E S w a o (putA A o.dst .any) (setS σ id (.mf (ks ++ [key]) (vs ++ [wk (v'.ev A)]))) := by
  have rX := opnd_sound hx hA
  rw [hX] at rX
  have rK := opnd_sound hk hA
  rw [hK] at rK
  have rV := wk_sound (opnd_sound hv hA)
  simp only [RdA] at rX rK
  obtain ⟨b', hb', hxv⟩ := rX
  rw [hb] at hb'
  cases hb'
  obtain ⟨d, hd, hD, hkey⟩ := keyZ_sound hkk hf
  have hlt := heap_lt hh
  have put : ∀ ob : Obj, TurnO w { w with heap := w.heap.setIfInBounds b ob } b ob := fun ob => ⟨by simp, by simp [hlt], fun c hc => by simp [Array.getElem?_setIfInBounds_ne (Ne.symm hc)], .turn (b := b) (o' := ob) rfl rfl hh (by simp [hlt]) (fun _ _ _ e => by cases e) fun c _ hc => by simp [Array.getElem?_setIfInBounds_ne (Ne.symm hc)]⟩
  have hget : (getObj b).run E.P w = .ok (.map es clk) w := by simp [getObj, Sem.run, hh]
  have h2 := findNow_new hD rK vs ks es.toList 0 hm hl
  obtain ⟨ob, hob⟩ : ∃ ob : Obj, ob = .map (es.push { key := a.eval k, val := a.eval v, born := clk }) (clk + 1) := ⟨_, rfl⟩
  have hmv := moves_st R hb (put ob)
  refine ⟨.skip, undef, S, _, ?_, .inr ⟨rfl, rfl⟩, rep_stO R hb (put ob) ⟨es.push { key := a.eval k, val := a.eval v, born := clk }, clk + 1, by rw [(put ob).here, hob], ?_⟩, RdF_put (RdF_moves0 hmv hA) trivial, hmv.ev, hmv.x⟩
  · rw [hob]
    simp only [execOp, hop, Instr.mapUpdate, Sem.run_bind, run_underlying hu, Result.andThen_ok, hxv, hget, run_checkKey hd hD, run_findKey hd h2, run_setMap _ hh, Sem.run_pure]
  · rw [Array.toList_push]
    refine RdKs_append hkey ?_ (wk_noOwn _) ?_ _ _ _ (RdKs_keep hmv.keeps vs ks _ hm)
    · rcases key_value rK hkey with ⟨q, n, rfl, h⟩ | ⟨s, rfl, h⟩ <;> (simp only; rw [h]; rfl)
    · have := RdA_keep hmv.keeps _ _ rV
      rwa [demote1_nil, killV_nil] at this
def lookA (ok : Bool) (ep : Ep) (z : D) : Option D → AV
  | some e => pickA ok (.d ep e) true
  | none => pickA ok (.d .top z) false
theorem zeroZ_sound {E : Env} {S : St} {w : World} {vt : TypeId} {z : D} (hz : zeroZ E.P vt = some z) : ∃ zv, (zeroValue vt).run E.P w = .ok zv w ∧ RdA E.φ S w (.d .top z) zv := by
  unfold zeroZ at hz
  split at hz
  · rename_i ds cs h1 h2
    cases hz
    obtain ⟨v, hv, hr⟩ := zeroD_sound (E := E) (S := S) (w := w) h1 0
    have : v = .agg cs := by
      simp only [Option.bind_eq_some_iff] at h2
      obtain ⟨i, hi, hz⟩ := h2
      have : (zeroValue vt).run E.P w = .ok (.agg cs) w := by simp [zeroValue, typeInfo, hi, hz]
      rw [this] at hv
      cases hv; rfl
    subst this
    refine ⟨_, hv, ?_⟩
    have hw := wkL_sound hr
    have hzc : ∀ (i : Nat) (l : List D), wkL (zcells 0 i l) = dcells .top l := by
      intro i l
      induction l generalizing i with
      | nil => rfl
      | cons x l ih =>
        simp only [zcells, wkL, dcells, ih]
        congr 1
        cases x with
        | row s es => cases es <;> rfl
        | _ => rfl
    rw [hzc] at hw
    simp only [RdA, RdD]
    refine ⟨cs.toList, rfl, ?_⟩
    have dd : ∀ (l : List D) (vs : List Value), RdAs E.φ S w (dcells .top l) vs → RdDs w S.G (epB S.E .top) l vs := by
      intro l
      induction l with
      | nil => intro vs h; exact h
      | cons x l ih =>
        intro vs h
        simp only [dcells, RdAs] at h
        obtain ⟨v, rest, e, _, h1, h2⟩ := h
        simp only [RdDs]
        exact ⟨v, rest, e, h1, ih rest h2⟩
    exact dd _ _ hw
  · rename_i z' v hne h1 h2
    cases hz
    obtain ⟨v', hv, hr⟩ := zeroD_sound (E := E) (S := S) (w := w) h1 0
    have hvv : v' = v := by
      simp only [Option.bind_eq_some_iff] at h2
      obtain ⟨i, hi, hz⟩ := h2
      have : (zeroValue vt).run E.P w = .ok v w := by simp [zeroValue, typeInfo, hi, hz]
      rw [this] at hv
      cases hv; rfl
    subst hvv
    refine ⟨_, hv, ?_⟩
    have hcs : v'.cells.toList = [v'] := by
      cases v' <;> first | rfl | exact absurd rfl (hne _)
    rw [hcs] at hr
    simp only [zcells, RdAs] at hr
    obtain ⟨u, rest, e, _, h1, h2⟩ := hr
    simp only [List.cons.injEq] at e
    rw [e.1]
    cases z with
    | row s es => cases es with
      | nil => exact RdOwn_d h1
      | cons => exact h1
    | _ => exact h1
  · cases hz
theorem pick_sound {φ : Nat → FuncId} {S : St} {w : World} (ok : Bool) (x : AV) (v : Value) (bb : Bool) (hn : noOwn x = true) (hx : RdA φ S w x v) : RdA φ S w (pickA ok x bb) (if ok then .tuple #[v, .bool bb] else v) := by
  cases ok with
  | false => exact hx
  | true =>
    simp only [pickA, if_true, RdA, RdNs]
    exact ⟨[v, .bool bb], rfl, v, [.bool bb], rfl, hn, hx, .bool bb, [], rfl, rfl, rfl, rfl⟩
theorem keyEq_sound {d : TypeDesc} {k k' : D} {v v' : Value} {w : World} {G : Nat → Nat} {B B' : Nat → Prop} {b : Bool} (hd : KeyD d k) (hv : RdD w G B k v) (hv' : RdD w G B' k' v') (h : keyEq std k k' = some b) : Instr.sameNow d v v' = some b := by
  unfold keyEq at h
  split at h
  · split at h
    · rename_i hk
      obtain rfl := kEq_iff hk
      cases h
      exact sameNow_sound hd (by simp [D.fit]) hv hv'
    · cases h
  · cases h
    exact sameNow_sound hd rfl hv hv'
  · cases h
theorem chain_sound {φ : Nat → FuncId} {S : St} {d : TypeDesc} {k : D} {kv : Value} {w : World} {B' : Nat → Prop} {z : AV} {go : AV → Bool → Prop} (hd : KeyD d k) (hkv : RdD w S.G B' k kv) : ∀ (vs : List AV) (ks : List D) (es : List MapEntry) (i : Nat), RdKs φ S w vs ks es → mchain std k z go ks vs →
    (Instr.findNow d kv es i = some none ∧ go z false) ∨ ∃ (j : Nat) (x : AV) (e : MapEntry), Instr.findNow d kv es i = some (some (i + j, e.val)) ∧ noOwn x = true ∧ RdA φ S w x e.val ∧ go x true
  | [], ks, es, i, h, hc => by
    simp only [RdKs] at h
    obtain ⟨rfl, rfl⟩ := h
    exact .inl ⟨rfl, hc⟩
  | x :: vs, ks, es, i, h, hc => by
    simp only [RdKs] at h
    obtain ⟨k', ks', e, rest, rfl, rfl, _, hk1, hn, hx, hr⟩ := h
    unfold mchain at hc
    split at hc
    · rename_i b hb
      have hs := keyEq_sound hd hkv hk1 hb
      cases b with
      | true => exact .inr ⟨0, x, e, by simp [Instr.findNow, hs], hn, hx, hc⟩
      | false =>
        rcases chain_sound hd hkv vs ks' rest (i + 1) hr hc with ⟨h1, h2⟩ | ⟨j, x', e', h1, h2, h3, h4⟩
        · exact .inl ⟨by simp [Instr.findNow, hs, h1], h2⟩
        · exact .inr ⟨j + 1, x', e', by simp [Instr.findNow, hs, h1]; omega, h2, h3, h4⟩
    · cases hc
theorem g_mlc {t kt vt : TypeId} {x k : Operand} {k' : AO} {kk key z : D} {ek : Ep} {ks : List D} {vs : List AV} {ok : Bool} {b clk : Nat} {es : Array MapEntry} {go : AV → Bool → Prop} (hA : RdF E.φ S w A a.tmps.toList) (hop : o.op = .lookup t x k ok)
    (hu : E.P.underlying t = some (.map kt vt)) (hkk : keyZ E.P kt = some kk) (hz : zeroZ E.P vt = some z) (hk : opnd E.P E.ν kt k = some k') (hK : k'.ev A = .d ek key) (hf : keyFit kk key = true)
    (hxv : a.eval x = .map (some b)) (hh : w.heap[b]? = some (.map es clk)) (hm : RdKs E.φ S w vs ks es.toList) (hc : mchain std key (.d .top z) go ks vs) : ∃ v bb, Gives E S w a o (pickA ok v bb) ∧ go v bb := by
  have rK := opnd_sound hk hA
  rw [hK] at rK
  obtain ⟨d, hd, hD, hkey⟩ := keyZ_sound hkk hf
  have hget : (getObj b).run E.P w = .ok (.map es clk) w := by simp [getObj, Sem.run, hh]
  rcases chain_sound (B' := epB S.E ek) hD rK vs ks es.toList 0 hm hc with ⟨h2, hgo⟩ | ⟨j, x0, e, h2, hn, hx, hgo⟩
  · obtain ⟨zv, hzr, hzv⟩ := zeroZ_sound (E := E) (S := S) (w := w) hz
    refine ⟨_, _, ⟨_, ?_, pick_sound ok _ zv false rfl hzv⟩, hgo⟩
    simp only [execOp, hop, Instr.lookup, Sem.run_bind, run_underlying hu, Result.andThen_ok, hxv, hget, Sem.run_pure, run_checkKey hd hD, run_findKey hd h2, hzr]
  · refine ⟨_, _, ⟨_, ?_, pick_sound ok _ e.val true hn hx⟩, hgo⟩
    simp only [execOp, hop, Instr.lookup, Sem.run_bind, run_underlying hu, Result.andThen_ok, hxv, hget, Sem.run_pure, run_checkKey hd hD, run_findKey hd h2]
theorem g_mlk {t kt vt : TypeId} {x k : Operand} {k' : AO} {kk key z : D} {ek ep : Ep} {m : List (D × D)} {ok : Bool} {r : Option D} (hA : RdF E.φ S w A a.tmps.toList) (hop : o.op = .lookup t x k ok)
    (hu : E.P.underlying t = some (.map kt vt)) (hkk : keyZ E.P kt = some kk) (hz : zeroZ E.P vt = some z) (hk : opnd E.P E.ν kt k = some k') (hK : k'.ev A = .d ek key) (hf : keyFit kk key = true) (hfit : std.mfit m key)
    (hm : MapAt S w ep m (a.eval x)) (hr : std.mget m key = r) : Gives E S w a o (lookA ok ep z r) := by
  have rK := opnd_sound hk hA
  rw [hK] at rK
  obtain ⟨b, es, clk, hxv, hh, hm⟩ := hm
  obtain ⟨d, hd, hD, hkey⟩ := keyZ_sound hkk hf
  have hget : (getObj b).run E.P w = .ok (.map es clk) w := by simp [getObj, Sem.run, hh]
  have pick : ∀ (x : AV) (v : Value) (bb : Bool), noOwn x = true → RdA E.φ S w x v → RdA E.φ S w (pickA ok x bb) (if ok then .tuple #[v, .bool bb] else v) := by
    intro x v bb hn hx
    cases ok with
    | false => exact hx
    | true =>
      simp only [pickA, if_true, RdA, RdNs]
      exact ⟨[v, .bool bb], rfl, v, [.bool bb], rfl, hn, hx, .bool bb, [], rfl, rfl, rfl, rfl⟩
  subst hr
  rcases findNow_sound hD rK hkey m es.toList 0 hm hfit with ⟨h1, h2, _⟩ | ⟨j, x0, e, h1, h2, _, h5, _⟩
  · have h1 : std.mget m key = none := h1
    rw [h1]
    obtain ⟨zv, hzr, hzv⟩ := zeroZ_sound (E := E) (S := S) (w := w) hz
    refine ⟨_, ?_, pick _ zv false rfl hzv⟩
    simp only [execOp, hop, Instr.lookup, Sem.run_bind, run_underlying hu, Result.andThen_ok, hxv, hget, Sem.run_pure, run_checkKey hd hD, run_findKey hd h2, hzr]
  · have h1 : std.mget m key = some x0 := h1
    rw [h1]
    refine ⟨_, ?_, pick _ e.val true rfl h5⟩
    simp only [execOp, hop, Instr.lookup, Sem.run_bind, run_underlying hu, Result.andThen_ok, hxv, hget, Sem.run_pure, run_checkKey hd hD, run_findKey hd h2]
end
end Go.Ly
end
section
namespace Go.Ly
section
variable {E : Env} {S S' : St} {w w' : World} {A : Fm} {σ : Sto} {a : Act} {o : Oper} {ops : Array Oper} {hs : List Nat}
theorem RdRow_bytes {w : World} {G : Nat → Nat} {B : Nat → Prop} : ∀ (s : List UInt8), RdRow w G B 1 (s.map fun c => D.int .u8 c.toNat) (s.map fun c => Value.int .u8 c.toNat)
  | [] => rfl
  | c :: s => by
    simp only [List.map_cons, RdRow]
    exact ⟨.int .u8 c.toNat, _, rfl, rfl, by simp [Value.cells, oneV], rfl, RdRow_bytes s⟩
theorem did_s2b {src dst e : TypeId} {x : Operand} {y : AO} {ep : Ep} {s : List UInt8} (R : Rep E S w σ) (hA : RdF E.φ S w A a.tmps.toList) (hop : o.op = .convert src dst x)
    (hs : E.P.underlying src = some .string) (hd : E.P.underlying dst = some (.slice e)) (he : E.P.underlying e = some (.int .u8)) (hx : opnd E.P E.ν src x = some y) (hX : y.ev A = .d ep (.str s)) :
    Did E S w a o (putA A o.dst (.d .new (.row 1 (std.bytes s)))) σ := by
  have rX := opnd_sound hx hA
  rw [hX] at rX
  have hv : a.eval x = .string ⟨s.toArray⟩ := rX
  generalize hcap : Question.cut (.appendCap s.length 0 e) (w.tape w.drawn (.appendCap s.length 0 e)) = nc
  have hnc : s.length ≤ nc := by rw [← hcap]; simp [Question.cut]
  obtain ⟨cs, hcs⟩ : ∃ cs : Array Value, cs = (s.toArray.map fun b => Value.int .u8 b.toNat) ++ Array.replicate (nc - s.length) (.int .u8 0) := ⟨_, rfl⟩
  have hsz : cs.size = nc := by rw [hcs]; simp; omega
  have M : More w { w with drawn := w.drawn + 1, heap := w.heap.push (.cells cs e (nc, nc + 1)) } (.cells cs e (nc, nc + 1)) := ⟨rfl, rfl, rfl⟩
  have hm := moves_row R M s.length
  refine ⟨.value (.slice (some ⟨w.heap.size, 0, none⟩) s.length nc), _, { S with G := setG S.G w.heap.size s.length }, { w with drawn := w.drawn + 1, heap := w.heap.push (.cells cs e (nc, nc + 1)) }, ?_, .inl rfl,
    rep_row R M _, RdF_put (RdF_moves0 hm hA) ?_, hm.ev, hm.x⟩
  · have hfz : ({ w with drawn := w.drawn + 1, heap := w.heap.push (.cells cs e) } : World).freeze ⟨w.heap.size, nc, none⟩ 1 =
        { w with drawn := w.drawn + 1, heap := w.heap.push (.cells cs e (nc, nc + 1)) } := by
      simp only [World.freeze, Nat.one_ne_zero, if_false]
      congr 1
      apply Array.ext
      · simp
      · intro i h1 h2
        simp only [Array.size_modify, Array.size_push] at h1
        rw [Array.getElem_modify]
        by_cases hi : w.heap.size = i
        · subst hi; simp
        · rw [if_neg hi, Array.getElem_push_lt (by omega), Array.getElem_push_lt (by omega)]
    have hsh : World.shape? { w with drawn := w.drawn + 1, heap := w.heap.push (.cells cs e) } w.heap.size = some (e, nc) := by
      simp [World.shape?, hsz]
    simp only [execOp, hop, hv, convert, Sem.run_bind, run_underlying hs, run_underlying hd, run_underlying he, Result.andThen_ok, Conv.stringToBytes, size_mk, run_choose, Question.forced, Bool.false_eq_true, if_false,
      hcap, newRow, run_newObj, Sem.run_pure, ← hcs, markStringish, run_shape, hsh, run_freeze, hfz]
  · simp only [RdA, RdD]
    refine .inr ⟨w.heap.size, 0, nc, s.map fun c => Value.int .u8 c.toNat, by simp [std], by simp [std]; exact hnc, ⟨by rw [M.size]; omega, R.E⟩, by simp [std, setG_same], ?_, RdRow_bytes s⟩
    intro i v hi
    have hlt : i < s.length := by
      rcases Nat.lt_or_ge i s.length with h' | h'
      · exact h'
      · rw [List.getElem?_eq_none (by simpa using h')] at hi; cases hi
    simp only [World.cell?, M.new, Option.isSome_none, Bool.false_eq_true, if_false, Nat.zero_add]
    rw [hcs, Array.getElem?_append_left (by simpa using hlt)]
    simpa using hi
theorem inv_allocu {P : Program} {ν : FuncId → Option Nat} {sz : Nat} (hc : compOp P ν hs ops o = some (.allocu sz)) : ∃ e, o.op = .alloc e ∧ zeroD P e = some [.row sz []] := by
  unfold compOp at hc
  split at hc
  all_goals (repeat' split at hc)
  all_goals (simp only [Option.map_eq_some_iff, Option.bind_eq_some_iff, reduceCtorEq, and_false, exists_false, Option.some.injEq, AOp.allocu.injEq] at hc)
  rename_i e hop _ _ _ _ h
  subst hc
  exact ⟨e, hop, h⟩
theorem inv_alloc {P : Program} {ν : FuncId → Option Nat} {zs : List D} (hc : compOp P ν hs ops o = some (.alloc zs)) : ∃ e, o.op = .alloc e ∧ zeroD P e = some zs := by
  unfold compOp at hc
  split at hc
  all_goals (repeat' split at hc)
  all_goals (simp only [Option.map_eq_some_iff, Option.bind_eq_some_iff, reduceCtorEq, and_false, exists_false, Option.some.injEq, AOp.alloc.injEq] at hc)
  rename_i e hop _ _ _ _ h
  subst hc
  exact ⟨e, hop, h⟩
theorem inv_box {P : Program} {ν : FuncId → Option Nat} {y : AO} (hc : compOp P ν hs ops o = some (.box y)) : ∃ e x, o.op = .box e x ∧ opnd P ν e x = some y := by
  unfold compOp at hc
  split at hc
  all_goals (repeat' split at hc)
  all_goals (simp only [Option.map_eq_some_iff, Option.bind_eq_some_iff, reduceCtorEq, and_false, exists_false, Option.some.injEq, AOp.box.injEq] at hc)
  rename_i e x hop
  obtain ⟨y', h, rfl⟩ := hc
  exact ⟨e, x, hop, h⟩
theorem inv_st {P : Program} {ν : FuncId → Option Nat} {y z : AO} {s : Nat} (hc : compOp P ν hs ops o = some (.st y z s)) :
    ∃ t x v, o.op = .store t x v ∧ opnd P ν 0 x = some y ∧ opnd P ν t v = some z ∧ sizeT P t = some s := by
  unfold compOp at hc
  split at hc
  all_goals (repeat' split at hc)
  all_goals (simp only [Option.map_eq_some_iff, Option.bind_eq_some_iff, reduceCtorEq, and_false, exists_false, Option.some.injEq, AOp.st.injEq] at hc)
  rename_i t x v hop _ _ _ _ _ _ h1 h2 h3
  obtain ⟨rfl, rfl, rfl⟩ := hc
  exact ⟨t, x, v, hop, h1, h2, h3⟩
theorem inv_s2b {P : Program} {ν : FuncId → Option Nat} {y : AO} (hc : compOp P ν hs ops o = some (.conv .s2b y)) :
    ∃ src dst e x, o.op = .convert src dst x ∧ P.underlying src = some .string ∧ P.underlying dst = some (.slice e) ∧ P.underlying e = some (.int .u8) ∧ opnd P ν src x = some y := by
  unfold compOp at hc
  split at hc
  all_goals (repeat' split at hc)
  all_goals (simp only [Option.map_eq_some_iff, Option.bind_eq_some_iff, reduceCtorEq, and_false, false_and, exists_false, Option.some.injEq, AOp.conv.injEq, true_and] at hc)
  rename_i src dst x hop _ _ e hs hd _ he
  obtain ⟨y', h, rfl⟩ := hc
  exact ⟨src, dst, e, x, hop, hs, hd, he, h⟩
theorem inv_bslice {P : Program} {ν : FuncId → Option Nat} {ow : Nat} {s : Nat} {xs : List AO} (hc : compOp P ν hs ops o = some (.bslice ow s xs)) :
    ∃ t e len parts, o.op = .buildSlice t len parts ∧ P.underlying t = some (.slice e) ∧ sizeT P e = some s ∧ sliceParts P ν e 0 parts.toList = some xs ∧ xs.length = len ∧ len * s ≤ 16777216 ∧ (zeroD P e).isSome := by
  unfold compOp at hc
  split at hc
  all_goals (repeat' split at hc)
  all_goals (simp only [Option.map_eq_some_iff, Option.bind_eq_some_iff, reduceCtorEq, and_false, exists_false, Option.some.injEq, AOp.bslice.injEq] at hc)
  rename_i t len parts hop _ e hu _ _ _ _ h1 h2 h3
  obtain ⟨_, rfl, rfl⟩ := hc
  exact ⟨t, e, len, parts, hop, hu, h1, h2, h3.1, h3.2.1, h3.2.2⟩
theorem inv_app {P : Program} {ν : FuncId → Option Nat} {y z : AO} {s b : Nat} (hc : compOp P ν hs ops o = some (.app y z s b)) :
    ∃ args ts x v t u e e' s' b' zs, o.op = .call { callee := .builtin .append, args := args, argTypes := ts } ∧ args[0]? = some x ∧ args[1]? = some v ∧ ts[0]? = some t ∧ ts[1]? = some u ∧
      P.underlying t = some (.slice e) ∧ P.underlying u = some (.slice e') ∧ sizeT P e = some (s' + 1) ∧ bytesT P e = some (b' + 1) ∧ opnd P ν t x = some y ∧ opnd P ν u v = some z ∧ b' < 128 ∧
      zeroD P e = some zs ∧ zs.length = s' + 1 ∧ s = s' + 1 ∧ b = b' + 1 := by
  unfold compOp at hc
  split at hc
  all_goals (repeat' split at hc)
  all_goals (simp only [Option.map_eq_some_iff, Option.bind_eq_some_iff, reduceCtorEq, and_false, exists_false, Option.some.injEq, AOp.app.injEq] at hc)
  rename_i args ts hop _ _ _ _ _ x v t u h0 h1 _ h2 h3 _ _ e e' hu hu' _ _ _ _ s' b' _ _ g1 g2 g3 g4 hb
  obtain ⟨rfl, rfl, rfl, rfl⟩ := hc
  obtain ⟨hb, hz⟩ := hb
  simp only [Option.map_eq_some_iff] at hz
  obtain ⟨zs, hz, hl⟩ := hz
  exact ⟨args, ts, x, v, t, u, e, e', s', b', zs, hop, h0, h1, h2, h3, hu, hu', g1, g2, g3, g4, hb, hz, hl, rfl, rfl⟩
theorem inv_nil {P : Program} {ν : FuncId → Option Nat} {u : Bool} {s : Nat} (hc : compOp P ν hs ops o = some (.nil u s)) : ∃ x, (o.op = .move x ∨ o.op = .assign x) ∧ isNil x = true := by
  unfold compOp at hc
  split at hc
  all_goals (repeat' split at hc)
  all_goals (simp only [Option.map_eq_some_iff, Option.bind_eq_some_iff, reduceCtorEq, and_false, exists_false, Option.some.injEq, AOp.nil.injEq] at hc)
  · rename_i x hop h; exact ⟨x, .inl hop, h⟩
  · rename_i x hop h; exact ⟨x, .inr hop, h⟩
theorem inv_sl {P : Program} {ν : FuncId → Option Nat} {y : AO} {l h : Option AO} {s : Nat} (hc : compOp P ν hs ops o = some (.sl y l h s)) :
    ∃ t e x lo hi n, o.op = .slice t x lo hi none ∧ P.underlying t = some (.slice e) ∧ sizeT P e = some (n + 1) ∧ opnd P ν t x = some y ∧ optO P ν lo = some l ∧ optO P ν hi = some h ∧ s = n + 1 := by
  unfold compOp at hc
  split at hc
  all_goals (repeat' split at hc)
  all_goals (simp only [Option.map_eq_some_iff, Option.bind_eq_some_iff, reduceCtorEq, and_false, exists_false, Option.some.injEq, AOp.sl.injEq] at hc)
  rename_i t x lo hi hop _ e hu _ _ _ _ _ _ _ n h1 h2 h3 h4
  obtain ⟨rfl, rfl, rfl, rfl⟩ := hc
  exact ⟨t, e, x, lo, hi, n, hop, hu, h4, h1, h2, h3, rfl⟩
theorem inv_mkm {P : Program} {ν : FuncId → Option Nat} (hc : compOp P ν hs ops o = some .mkm) : ∃ t, o.op = .makeMap t none := by
  unfold compOp at hc
  split at hc
  all_goals (repeat' split at hc)
  all_goals (simp only [Option.map_eq_some_iff, Option.bind_eq_some_iff, reduceCtorEq, and_false, exists_false, Option.some.injEq] at hc)
  rename_i t hop _ _ _ _
  exact ⟨t, hop⟩
theorem inv_mup {P : Program} {ν : FuncId → Option Nat} {kk : D} {x k v : AO} (hc : compOp P ν hs ops o = some (.mup kk x k v)) :
    ∃ t kt vt x' k' v', o.op = .mapUpdate t x' k' v' ∧ P.underlying t = some (.map kt vt) ∧ keyZ P kt = some kk ∧ opnd P ν t x' = some x ∧ opnd P ν kt k' = some k ∧ opnd P ν vt v' = some v := by
  unfold compOp at hc
  split at hc
  all_goals (repeat' split at hc)
  all_goals (simp only [Option.map_eq_some_iff, Option.bind_eq_some_iff, reduceCtorEq, and_false, exists_false, Option.some.injEq, AOp.mup.injEq] at hc)
  rename_i t x' k' v' hop _ kt vt hu _ _ _ _ _ _ _ _ h1 h2 h3 h4
  obtain ⟨rfl, rfl, rfl, rfl⟩ := hc
  exact ⟨t, kt, vt, x', k', v', hop, hu, h1, h2, h3, h4⟩
theorem inv_mlk {P : Program} {ν : FuncId → Option Nat} {kk z : D} {x k : AO} {ok : Bool} (hc : compOp P ν hs ops o = some (.mlk kk x k z ok)) :
    ∃ t kt vt x' k', o.op = .lookup t x' k' ok ∧ P.underlying t = some (.map kt vt) ∧ keyZ P kt = some kk ∧ zeroZ P vt = some z ∧ opnd P ν t x' = some x ∧ opnd P ν kt k' = some k := by
  unfold compOp at hc
  split at hc
  all_goals (repeat' split at hc)
  all_goals (simp only [Option.map_eq_some_iff, Option.bind_eq_some_iff, reduceCtorEq, and_false, exists_false, Option.some.injEq, AOp.mlk.injEq] at hc)
  rename_i t x' k' ok' hop _ kt vt hu _ _ _ _ _ _ _ _ h1 h2 h3 h4
  obtain ⟨rfl, rfl, rfl, rfl, rfl⟩ := hc
  exact ⟨t, kt, vt, x', k', hop, hu, h1, h4, h2, h3⟩
theorem inv_isnil {P : Program} {ν : FuncId → Option Nat} {neg : Bool} {y : AO} (hc : compOp P ν hs ops o = some (.isnil neg y)) :
    ∃ t e x z u, o.op = .binOp (if neg then .neq else .eql) t x z u ∧ isNil z = true ∧ P.underlying t = some (.slice e) ∧ opnd P ν t x = some y := by
  unfold compOp at hc
  split at hc
  all_goals (repeat' split at hc)
  all_goals (simp only [Option.map_eq_some_iff, Option.bind_eq_some_iff, reduceCtorEq, and_false, exists_false, Option.some.injEq, AOp.isnil.injEq] at hc)
  · rename_i t x z u _ _ e hu hn _ _ hx hop
    obtain ⟨y', h, rfl, rfl⟩ := hc
    rw [hx, Bool.false_or] at hn
    exact ⟨t, e, x, z, u, hop, hn, hu, h⟩
  · rename_i t x z u _ _ e hu hn _ _ hx hop
    obtain ⟨y', h, rfl, rfl⟩ := hc
    rw [hx, Bool.false_or] at hn
    exact ⟨t, e, x, z, u, hop, hn, hu, h⟩
theorem app_at {t u e e' : TypeId} {args : Array Operand} {ts : Array TypeId} {x v : Operand} {s b : Nat} {zs : List D} (hop : o.op = .call { callee := .builtin .append, args := args, argTypes := ts }) (h0 : args[0]? = some x) (h1 : args[1]? = some v)
    (h2 : ts[0]? = some t) (h3 : ts[1]? = some u) (hu : E.P.underlying t = some (.slice e)) (hu' : E.P.underlying u = some (.slice e')) (g1 : sizeT E.P e = some (s + 1)) (g2 : bytesT E.P e = some (b + 1)) (hb : b < 128) (hz : zeroD E.P e = some zs) (hl : zs.length = s + 1) :
    AppAt E a o x v e s b := ⟨⟨args, ts, t, u, e', hop, h0, h1, h2, h3, hu, hu'⟩, g1, g2, hb, zs, hz, hl⟩
theorem eff_did {op : AOp} {q : Prop} {f : Eff} (hc : compOp E.P E.ν hs ops o = some op) (he : eff std (o.dst.getD 0) A σ op = some (q, f)) (hq : q)
    (R : Rep E S w σ) (hA : RdF E.φ S w A a.tmps.toList) : Did E S w a o (f.frame A σ o.dst) (f.store σ o.dst) := by
  have gen : ∀ v, laysRow op = false → evV std (o.dst.getD 0) A σ op = some (q, v) → f = .put v → Did E S w a o (f.frame A σ o.dst) (f.store σ o.dst) := by
    rintro v hl hv rfl
    exact did_gives R hA (evV_gives hc hv hq hl hA (boxes_of R) (maps_of R))
  have gen2 : laysRow op = false → (match evV std (o.dst.getD 0) A σ op with | some (q, v) => some (q, Eff.put v) | none => none) = some (q, f) → Did E S w a o (f.frame A σ o.dst) (f.store σ o.dst) := by
    intro hl h
    split at h
    · rename_i q' v hv
      simp only [Option.some.injEq, Prod.mk.injEq] at h
      obtain ⟨rfl, rfl⟩ := h
      exact gen v hl hv rfl
    · cases h
  cases op with
  | nil u s =>
    cases u with
    | true =>
      simp only [eff, Option.some.injEq, Prod.mk.injEq] at he
      obtain ⟨_, rfl⟩ := he
      obtain ⟨x, hop, hn⟩ := inv_nil hc
      simp only [Eff.frame, Eff.store, updF_none, updS_none]
      exact did_unil hop hn R hA
    | false => exact gen2 rfl he
  | alloc zs =>
    simp only [eff, Option.some.injEq, Prod.mk.injEq] at he
    obtain ⟨_, rfl⟩ := he
    obtain ⟨e, hop, hz⟩ := inv_alloc hc
    exact did_alloc R hA hop hz _
  | allocu sz =>
    simp only [eff, Option.some.injEq, Prod.mk.injEq] at he
    obtain ⟨_, rfl⟩ := he
    obtain ⟨e, hop, hz⟩ := inv_allocu hc
    simp only [Eff.frame, Eff.store, updF_none, updS_none]
    exact did_allocu R hA hop hz
  | box y =>
    simp only [eff] at he
    split at he
    · cases he
    · rename_i cs hcs
      simp only [Option.some.injEq, Prod.mk.injEq] at he
      obtain ⟨_, rfl⟩ := he
      obtain ⟨e, x, hop, hx⟩ := inv_box hc
      exact did_box R hA hop hx hcs
  | st y z s =>
    simp only [eff] at he
    split at he
    · rename_i id off hp
      split at he
      · rename_i cs hb
        split at he
        · cases he
        · rename_i vs hvs
          split at he
          · rename_i hok
            simp only [Option.some.injEq, Prod.mk.injEq] at he
            obtain ⟨_, rfl⟩ := he
            obtain ⟨t, x, v, hop, hx, hv, hs⟩ := inv_st hc
            simp only [Bool.and_eq_true, natEq_iff, natLe_iff, len_eq] at hok
            exact did_st R hA hop hx hv hs hp hb hvs hok.1 hok.2.1 hok.2.2
          · cases he
      · cases he
    · rename_i t sz' n e off ep1 hp
      split at he
      · rename_i vs sz2 es ep hvs hq2
        split at he
        · rename_i ep' ds hds
          split at he
          · rename_i hok
            split at he
            · rename_i e' hset
              simp only [Option.some.injEq, Prod.mk.injEq] at he
              obtain ⟨_, rfl⟩ := he
              obtain ⟨t, x, v, hop, hx, hv, hs⟩ := inv_st hc
              simp only [Bool.and_eq_true, natEq_iff, natLe_iff, len_eq, dlen_eq] at hok
              exact did_ust R hA hop hx hv hs hp hvs hq2 hds hok.1 hok.2.1 hok.2.2.1 hok.2.2.2 hset
            · cases he
          · cases he
        · cases he
      · cases he
    · cases he
  | app y z s b =>
    simp only [eff] at he
    split at he
    · rename_i tk sz es ep ep' sz' ys hX hY
      split at he
      · rename_i hok
        simp only [Option.some.injEq, Prod.mk.injEq] at he
        obtain ⟨rfl, rfl⟩ := he
        simp only [Bool.and_eq_true, natEq_iff] at hok
        obtain ⟨rfl, rfl⟩ := hok
        obtain ⟨args, ts, x, v, t, u, e, e', s', b', zs, hop, h0, h1, h2, h3, hu, hu', g1, g2, g3, g4, hb, hz, hl, rfl, rfl⟩ := inv_app hc
        exact did_app R hA (app_at hop h0 h1 h2 h3 hu hu' g1 g2 hb hz hl) g3 g4 hX hY hq
      · cases he
    · rename_i tk sz es ep ep' sz' ys hX hY
      split at he
      · rename_i hok
        simp only [Option.some.injEq, Prod.mk.injEq] at he
        obtain ⟨rfl, rfl⟩ := he
        simp only [Bool.and_eq_true, natEq_iff] at hok
        obtain ⟨rfl, rfl⟩ := hok
        obtain ⟨args, ts, x, v, t, u, e, e', s', b', zs, hop, h0, h1, h2, h3, hu, hu', g1, g2, g3, g4, hb, hz, hl, rfl, rfl⟩ := inv_app hc
        simp only [Eff.frame, Eff.store, updF_none, updS_none]
        exact did_uapp R hA (app_at hop h0 h1 h2 h3 hu hu' g1 g2 hb hz hl) g3 g4 hX hY hq
      · cases he
    · rename_i sz ep' sz' ys hX hY
      split at he
      · rename_i hok
        simp only [Option.some.injEq, Prod.mk.injEq] at he
        obtain ⟨rfl, rfl⟩ := he
        simp only [Bool.and_eq_true, natEq_iff] at hok
        obtain ⟨rfl, rfl⟩ := hok
        obtain ⟨args, ts, x, v, t, u, e, e', s', b', zs, hop, h0, h1, h2, h3, hu, hu', g1, g2, g3, g4, hb, hz, hl, rfl, rfl⟩ := inv_app hc
        have := did_app_nil (tk := 100 * o.dst.getD 0 + 96) R hA (app_at hop h0 h1 h2 h3 hu hu' g1 g2 hb hz hl) g3 g4 hX hY hq
        simp only [Eff.frame, Eff.store, tokV, tokA, tok1, goneU, upsF, upsS, instV, instA, inst, updF_none, updS_none]
        exact this
      · cases he
    · cases he
  | sl y lo hi s =>
    simp only [eff] at he
    split at he
    · rename_i t sz' es ep hX
      split at he
      · rename_i h hb hsz
        simp only [Option.some.injEq, Prod.mk.injEq] at he
        obtain ⟨rfl, rfl⟩ := he
        rw [natEq_iff] at hsz
        subst hsz
        obtain ⟨t, e, x, lo', hi', n, hop, hu, hs, hx, hl, hh, rfl⟩ := inv_sl hc
        have hlo : lo' = none := by
          cases lo' with
          | none => rfl
          | some z => simp [optO] at hl
        subst hlo
        simp only [Eff.frame, Eff.store, updF_none, updS_none]
        exact did_usl R hA hop hu hs hx hh hX hb hq.2.1 hq.2.2
      · cases he
    · exact gen2 rfl he
  | mkm =>
    simp only [eff, Option.some.injEq, Prod.mk.injEq] at he
    obtain ⟨_, rfl⟩ := he
    obtain ⟨t, hop⟩ := inv_mkm hc
    exact did_mkm R hA hop
  | mup kk x k v =>
    obtain ⟨t, kt, vt, x', k', v', hop, hu, hkk, hx, hk, hv⟩ := inv_mup hc
    simp only [eff] at he
    split at he
    · rename_i id ek key hX hK
      have rX := opnd_sound hx hA
      rw [hX] at rX
      simp only [RdA] at rX
      obtain ⟨b, hb, hxv⟩ := rX
      split at he
      · cases he
      · rename_i hf
        split at he
        · rename_i ep m hm
          split at he
          · rename_i ep' y hy
            simp only [Option.some.injEq, Prod.mk.injEq] at he
            obtain ⟨rfl, rfl⟩ := he
            exact did_mup R hA hop hu hkk hx hk hv hX hK hf hm hy hq
          · split at he
            · split at he
              · simp only [Option.some.injEq, Prod.mk.injEq] at he
                obtain ⟨rfl, rfl⟩ := he
                have hm' := hm
                rw [getS_eq] at hm'
                obtain ⟨es, clk, hh, hr⟩ := R.box id b _ hb hm'
                simp only [RdM] at hr
                exact did_mupf (ks := []) (vs := []) R hA hop hu hkk hx hk hv hX hK hf hb hh ⟨rfl, hr⟩ rfl
              · cases he
            · cases he
        · rename_i ks vs hm
          split at he
          · rename_i hok
            simp only [Bool.and_eq_true] at hok
            simp only [Option.some.injEq, Prod.mk.injEq] at he
            obtain ⟨rfl, rfl⟩ := he
            have hm' := hm
            rw [getS_eq] at hm'
            obtain ⟨es, clk, hh, hr⟩ := R.box id b _ hb hm'
            rw [addD_eq, appendL_eq]
            exact did_mupf R hA hop hu hkk hx hk hv hX hK hf hb hh hr hok.1
          · cases he
        · cases he
    · cases he
  | bslice ow s xs =>
    obtain ⟨t, e, len, parts, hop, hu, hs', hp, hlen, hbig, hz⟩ := inv_bslice hc
    have plain : ow ≠ 1 → ow ≠ 2 → (match evV std (o.dst.getD 0) A σ (.bslice ow s xs) with | some (q, v) => some (q, Eff.put v) | none => none) = some (q, f) → Did E S w a o (f.frame A σ o.dst) (f.store σ o.dst) := by
      intro _ _ he
      split at he
      · rename_i q' v hv
        simp only [Option.some.injEq, Prod.mk.injEq] at he
        obtain ⟨rfl, rfl⟩ := he
        simp only [evV] at hv
        split at hv
        · split at hv
          · rename_i ep ys hd
            simp only [yes, Option.some.injEq, Prod.mk.injEq] at hv
            obtain ⟨_, rfl⟩ := hv
            exact did_bslice_d R hop hu hs' hp hlen hbig hz hd hA
          · cases hv
        · split at hv
          · rename_i cs hd
            simp only [yes, Option.some.injEq, Prod.mk.injEq] at hv
            obtain ⟨_, rfl⟩ := hv
            exact did_bslice_sb R hop hu hs' hp hlen hbig hz hd hA
          · cases hv
        · cases hv
      · cases he
    match ow, he, plain with
    | 1, he, _ =>
      simp only [eff] at he
      split at he
      · rename_i ep ys hd
        simp only [Option.some.injEq, Prod.mk.injEq] at he
        obtain ⟨_, rfl⟩ := he
        exact did_bslice_own R hop hu hs' hp hlen hbig hz hd hA
      · cases he
    | 2, he, _ =>
      simp only [eff] at he
      split at he
      · rename_i ep ys hd
        simp only [Option.some.injEq, Prod.mk.injEq] at he
        obtain ⟨_, rfl⟩ := he
        simp only [Eff.frame, Eff.store, updF_none, updS_none]
        exact did_bslice_uq R hop hu hs' hp hlen hbig hz hd hA
      · cases he
    | 0, he, plain => exact plain (by decide) (by decide) he
    | n + 3, he, plain => exact plain (by omega) (by omega) he
  | conv k x =>
    cases k with
    | s2b =>
      obtain ⟨src, dst, e, y, hop, hs', hd, hu8, hx⟩ := inv_s2b hc
      simp only [eff, evV] at he
      split at he
      · rename_i q' v hv
        split at hv
        · rename_i h1 _; cases h1
        · rename_i h1 _; cases h1
        · rename_i ep z _ hX
          simp only [yes, Option.some.injEq, Prod.mk.injEq] at hv he
          obtain ⟨rfl, rfl⟩ := hv
          obtain ⟨_, rfl⟩ := he
          exact did_s2b R hA hop hs' hd hu8 hx hX
        · exact absurd ‹CK.s2b = CK.b2s› (by simp)
        · cases hv
      · cases he
    | _ => exact gen2 rfl he
  | _ => exact gen2 rfl he
end
end Go.Ly
end
section
namespace Go.Ly
def Res (E : Env) (S : St) (w : World) : AV → Value → Prop
  | .fresh sz es ep, v => RdOwn S w (fun b => S.n0 ≤ b ∧ ¬ S.X b) sz es ep v
  | r, v => solid r = true ∧ RdA E.φ S w r v
def lentV (n : Nat) : AV → Bool
  | .ptr k _ => natLe (k + 1) n
  | .mp k => natLe (k + 1) n
  | v => solid v
def lentL (n : Nat) : List AV → Bool
  | [] => true
  | v :: vs => lentV n v && lentL n vs
def lentE (n : Nat) : SE → Bool
  | .bx cs => lentL n cs
  | .md _ _ => true
  | .mf _ vs => solidL vs
def lentS (n : Nat) : Sto → Bool
  | [] => true
  | s :: σ => lentE n s && lentS n σ
structure Begins (E : Env) (S : St) (w : World) (σ0 : Sto) (args : List AV) (vs : List Value) : Prop where
  rep : Rep E S w σ0
  β : ∀ t, S.β t = none
  n0 : S.n0 = w.heap.size
  eE : S.E = w.heap.size
  D : S.D = w.heap.size
  args : RdNs E.φ S w args vs
def Invokes (E : Env) (v : Value) (vs : List Value) (w : World) (R : Ending → World → Prop) : Prop :=
  ∃ fn x y, v = .func fn x y ∧
    ((∃ f args, (invoke (.fn fn y) (x ++ ⟨vs⟩)).run E.P w = .ok (.enter f args) w ∧ Calls E.P f args w R) ∨
     (∃ l f tmps asg body, (invoke (.fn fn y) (x ++ ⟨vs⟩)).run E.P w = .ok (.round l f tmps asg body) w ∧ RoundIn Fence.wide 0 E.P l f tmps asg body w R))
structure Left (E : Env) (S : St) (w : World) (S' : St) (w' : World) (σ' : Sto) (r : AV) (v : Value) : Prop where
  rep : Rep E S' w' σ'
  θ : S'.θ = S.θ
  clean : lentS S.θ.length σ' = true
  res : Res E S' w' r v
  ev : Ev S w S' w'
def Glob (E : Env) (S : St) (w : World) : Prop := ∀ p ∈ E.gl, cellsAt w p.1 0 p.2 ∧ p.2.length ≤ S.G p.1 ∧ ∃ cs T f, w.heap[p.1]? = some (.cells cs T f) ∧ cs.size = p.2.length
theorem Glob.mono {E : Env} {S S' : St} {w w' : World} (h : Glob E S w) (ho : SameOs w w') (hi : Imm All w S.G w') (hG : ∀ b, S.G b ≤ S'.G b) : Glob E S' w' :=
  fun p hp => ⟨cellsAt_mono (h p hp).1 (by have := (h p hp).2.1; omega) hi, Nat.le_trans (h p hp).2.1 (hG _), by
    obtain ⟨cs, T, f, e, hs⟩ := (h p hp).2.2
    obtain ⟨o', e', h'⟩ := ho.2.2 _ _ e
    obtain ⟨cs', T', f', rfl, h2⟩ := h' cs T f rfl
    exact ⟨cs', T', f', e', h2.trans hs⟩⟩
structure Outer (E : Env) where
  Ω : Type
  J : Ω → St → World → Prop
  call : Nat → List AV → Ω → (AV → Ω → Prop) → Prop
  glob : ∀ {ω S w}, J ω S w → Glob E S w
  mono : ∀ {i xs ω K K'}, call i xs ω K → (∀ r ω, K r ω → K' r ω) → call i xs ω K'
  stable : ∀ {ω S w S' w'}, J ω S w → SameOs w w' → S'.X = S.X → S'.xv = S.xv → w.heap.size ≤ w'.heap.size → (∀ b, b < w.heap.size → S.X b → w'.heap[b]? = w.heap[b]? ∧ S'.G b = S.G b) →
    Imm All w S.G w' → (∀ b, S.G b ≤ S'.G b) → (∀ b, w'.heap.size ≤ b → S'.G b = 0) → J ω S' w'
  sound : ∀ {i args ω K S w vs v}, call i args ω K → J ω S w → Begins E S w [] args vs → S.xv[i]? = some v →
    Invokes E v vs w fun e w' => ∃ u r ω' S', e = .returned u ∧ K r ω' ∧ J ω' S' w' ∧ Left E S w S' w' [] r u
def Returns (E : Env) (O : Outer E) (S : St) (w : World) (K : AV → Sto → O.Ω → Prop) : Ending → World → Prop := fun e w' =>
  ∃ v r σ' ω' S', e = .returned v ∧ K r σ' ω' ∧ O.J ω' S' w' ∧ Left E S w S' w' σ' r v
def Bodied (E : Env) (k : Nat) : Prop := ∃ fn, E.P.funcs[E.φ k]? = some fn ∧ (fn.name == "runtime.NumGoroutine") = false ∧ fn.body.isNone = false
def Fun (E : Env) (O : Outer E) (k : Nat) (args : List AV) (σ0 : Sto) (ω : O.Ω) (K : AV → Sto → O.Ω → Prop) : Prop :=
  Bodied E k ∧ ∀ S w (vs : List Value), Begins E S w σ0 args vs → O.J ω S w → Calls E.P (E.φ k) ⟨vs⟩ w (Returns E O S w K)
def alone (E : Env) : Outer E where
  Ω := Unit
  J _ S w := (∀ b, ¬ S.X b) ∧ Glob E S w
  glob h := h.2
  call _ _ _ _ := False
  mono := fun h _ => h
  stable := fun h ho hX _ _ _ hi hG _ => ⟨fun b => by rw [hX]; exact h.1 b, h.2.mono ho hi hG⟩
  sound := fun h => h.elim
def Pure (E : Env) (k : Nat) (args : List AV) (r : AV) : Prop := Fun E (alone E) k args [] () fun r' _ _ => r' = r
def Lent (E : Env) (k : Nat) (args : List AV) (σ0 : Sto) (K : AV → Sto → Prop) : Prop := Fun E (alone E) k args σ0 () fun r σ' _ => K r σ'
def idsOk (ids : List Nat) (σ : Sto) : Bool := nodupN ids && ltAll (lenS σ) ids
structure GTurn (w w' : World) (b : Nat) (o : Obj) : Prop where
  size : w.heap.size ≤ w'.heap.size
  here : w'.heap[b]? = some o
  rest : ∀ c, c < w.heap.size → c ≠ b → w'.heap[c]? = w.heap[c]?
  os : SameOs w w'
def InPlace (E : Env) (k sz : Nat) (es es' : List D) : Prop :=
  Bodied E k ∧ es'.length = es.length ∧ (es = [] → ∀ w, Calls E.P (E.φ k) #[.slice none 0 0] w fun e w' => e = .returned (.tuple #[]) ∧ w' = w) ∧
  ∀ (w : World) (b cap : Nat) (cs : Array Value) (T : TypeId) (vs : List Value) (G : Nat → Nat) (B : Nat → Prop), w.heap[b]? = some (.cells cs T (0, 0)) → cellsAt w b 0 vs → RdRow w G B sz es vs → G b = 0 →
    Calls E.P (E.φ k) #[.slice (some ⟨b, 0, none⟩) es.length cap] w fun e w' => e = .returned (.tuple #[]) ∧ ∃ cs' vs', cs'.size = cs.size ∧ GTurn w w' b (.cells cs' T (0, 0)) ∧ cellsAt w' b 0 vs' ∧ RdRow w' G B sz es' vs'
inductive callA (E : Env) (O : Outer E) : CallP O.Ω
  | pure {k first cap xs σ ω K r} (h : Pure E k (frzs [] σ (appendL first (appendL xs cap))) r) (hu : (noUqs (appendL first (appendL xs cap)) || newish r) = true) (hK : K (upV r) [] σ ω) : callA E O (.fn k first cap) xs σ ω K
  | pureN {k first cap xs σ ω K r} (h : Pure E k (frzsN [] σ (appendL first (appendL xs cap))) r) (hu : noUqs (appendL first (appendL xs cap)) = true) (hK : K (upV r) [] σ ω) : callA E O (.fn k first cap) xs σ ω K
  | alone {k first cap xs σ ω K} (ids : List Nat) (hi : idsOk ids σ = true) (hu : noUqs (appendL first (appendL xs cap)) = true)
      (h : Lent E k (frzs ids σ (appendL first (appendL xs cap))) (lendS ids σ ids) fun r σ1 => K (upV r) [] (backS ids σ ids σ1) ω) : callA E O (.fn k first cap) xs σ ω K
  | outer {k first cap xs σ ω K} (ids : List Nat) (hi : idsOk ids σ = true) (hu : noUqs (appendL first (appendL xs cap)) = true)
      (h : Fun E O k (frzs ids σ (appendL first (appendL xs cap))) (lendS ids σ ids) ω fun r σ1 ω' => K (upV r) [] (backS ids σ ids σ1) ω') : callA E O (.fn k first cap) xs σ ω K
  | ext {i xs σ ω K} (hu : noUqs xs = true) (h : O.call i (frzs [] σ xs) ω fun r ω' => K (upV r) [] σ ω') : callA E O (.ext i) xs σ ω K
  | inpl {k σ ω K t sz es ep es'} (h : InPlace E k sz es es') (hK : K (.tup []) [(t, some (sz, es', ep))] σ ω) : callA E O (.fn k [] []) [.uq t sz es ep] σ ω K
section
variable {E : Env} {S S' : St} {w w' : World} {A : Fm} {σ : Sto} {a : Act} {o : Oper} {ops : Array Oper}
theorem closed_noOwn : ∀ x : AV, closed x = true → noOwn x = true := by
  intro x h
  cases x with
  | own => simp [closed] at h
  | uq => simp [closed] at h
  | up => simp [closed] at h
  | fresh => simp [closed] at h
  | pk => simp [closed] at h
  | agg cs =>
    simp only [closed] at h
    simp only [noOwn]
    induction cs with
    | nil => rfl
    | cons c cs ih =>
      simp only [closedL, Bool.and_eq_true] at h
      cases c <;> first
        | (simp [closed] at h; done)
        | (simp only [noOwn.noOwnL]; exact ih h.2)
  | _ => rfl
theorem noOwnL_old : ∀ cs : List AV, noOwn.noOwnL cs = true → noOwn.noOwnL (oldL cs) = true
  | [], _ => rfl
  | c :: cs, h => by
    cases c <;> first
      | (simp only [noOwn.noOwnL, Bool.false_eq_true] at h; done)
      | exact noOwnL_old cs h
theorem noOwn_old (x : AV) (h : noOwn x = true) : noOwn (oldV x) = true := by
  cases x <;> first
    | rfl
    | cases h
    | exact noOwnL_old _ h
theorem notAgg_old (x : AV) (h : notAgg x) : notAgg (oldV x) := by
  cases x <;> first
    | trivial
    | exact h.elim
theorem oldL_len : ∀ cs : List AV, (oldL cs).length = cs.length
  | [] => rfl
  | c :: cs => by simp [oldL, oldL_len cs]
structure Sees (S S' : St) (w : World) : Prop where
  E : S'.E = w.heap.size
  xv : S'.xv = S.xv
  G : ∀ b, S.G b ≤ S'.G b
  fb : ∀ b, b < S.n0 → ¬ S.X b → b ∉ S.θ → (∀ t, S.β t ≠ some b) → b < S'.n0 ∧ ¬ S'.X b ∧ b ∉ S'.θ ∧ ∀ t, S'.β t ≠ some b
theorem Sees.d (V : Sees S S' w) {ep : Ep} {x : D} {v : Value} (h : RdD w S.G (epB S.E ep) x v) : RdD w S'.G (epB S'.E .old) x v :=
  RdD_mono ⟨.refl _ _, V.G, Nat.le_refl _, fun b hb _ => by rw [V.E]; exact hb⟩ x v h
theorem Sees.row (V : Sees S S' w) {ep : Ep} {sz : Nat} {x : List D} {v : List Value} (h : RdRow w S.G (epB S.E ep) sz x v) : RdRow w S'.G (epB S'.E .old) sz x v :=
  RdRow_mono ⟨.refl _ _, V.G, Nat.le_refl _, fun b hb _ => by rw [V.E]; exact hb⟩ sz x v h
theorem Sees.m (V : Sees S S' w) {ep : Ep} {m : List (D × D)} {es : List MapEntry} (h : RdM w S.G (epB S.E ep) m es) : RdM w S'.G (epB S'.E .old) m es :=
  RdM_mono ⟨.refl _ _, V.G, Nat.le_refl _, fun b hb _ => by rw [V.E]; exact hb⟩ m es h
theorem RdD_key {G G' : Nat → Nat} {B B' : Nat → Prop} {k : D} {v : Value} (hk : k.key = true) (h : RdD w G B k v) : RdD w' G' B' k v := by
  rcases key_value h hk with ⟨q, n, rfl, rfl⟩ | ⟨s, rfl, rfl⟩ <;> rfl
mutual
theorem closed_sees (V : Sees S S' w) : ∀ (x : AV) (v : Value), closed x = true → RdA E.φ S w x v → RdA E.φ S' w (oldV x) v
  | .any, _, _, _ => trivial
  | .d ep x, v, _, h => V.d h
  | .at ep x off, v, _, h => by
    simp only [RdA, oldV] at h ⊢
    obtain ⟨b, o, y, e, hy, hc, hg⟩ := h
    exact ⟨b, o, y, e, V.d hy, hc, Nat.le_trans hg (V.G b)⟩
  | .ext i, v, _, h => by
    simp only [RdA, oldV] at h ⊢
    rw [V.xv]; exact h
  | .agg cs, v, hx, h => by
    simp only [closed] at hx
    simp only [RdA, oldV] at h ⊢
    obtain ⟨vs, e, h⟩ := h
    exact ⟨vs, e, closedAs_sees V cs vs hx h⟩
  | .tup cs, v, hx, h => by
    simp only [closed] at hx
    simp only [RdA, oldV] at h ⊢
    obtain ⟨vs, e, h⟩ := h
    exact ⟨vs, e, closedNs_sees V cs vs hx h⟩
  | .cb cs off, v, hx, h => by
    simp only [closed] at hx
    simp only [RdA, oldV] at h ⊢
    obtain ⟨b, vs, e, hc, hg, ho, hn⟩ := h
    exact ⟨b, vs, e, hc, Nat.le_trans hg (V.G b), noOwnL_old cs ho, closedAs_sees V cs vs hx hn⟩
  | .fb cs off, v, hx, h => by
    simp only [closed] at hx
    simp only [RdA, oldV] at h ⊢
    obtain ⟨b, vs, e, hc, ⟨h1, h2, h3, h4⟩, ho, hn⟩ := h
    exact ⟨b, vs, e, hc, V.fb b h1 h2 h3 h4, noOwnL_old cs ho, closedAs_sees V cs vs hx hn⟩
  | .sb sz n cs, v, hx, h => by
    simp only [closed] at hx
    simp only [RdA, oldV] at h ⊢
    obtain ⟨b, cap, vs, e, h1, h2, hc, hg, ho, hn⟩ := h
    exact ⟨b, cap, vs, e, h1, by rw [oldL_len]; exact h2, hc, Nat.le_trans hg (V.G b), noOwnL_old cs ho, closedAs_sees V cs vs hx hn⟩
  | .cmd ep m, v, _, h => by
    simp only [RdA, oldV] at h ⊢
    obtain ⟨b, es, k, e, hb, hg, hm⟩ := h
    exact ⟨b, es, k, e, hb, Nat.lt_of_lt_of_le hg (V.G b), V.m hm⟩
  | .cm ks cs, v, hx, h => by
    simp only [closed] at hx
    simp only [RdA, oldV] at h ⊢
    obtain ⟨b, es, k, e, hb, hg, hm⟩ := h
    exact ⟨b, es, k, e, hb, Nat.lt_of_lt_of_le hg (V.G b), closedKs_sees V cs ks _ hx hm⟩
  | .fn f x c, v, hx, h => by
    simp only [closed, Bool.and_eq_true] at hx
    simp only [RdA, oldV] at h ⊢
    obtain ⟨va, vc, e, h1, h2⟩ := h
    exact ⟨va, vc, e, closedNs_sees V x va hx.1 h1, closedNs_sees V c vc hx.2 h2⟩
  | .own _ _ _ _, _, hx, _ => by simp [closed] at hx
  | .uq _ _ _ _, _, hx, _ => by simp [closed] at hx
  | .up _ _ _ _ _ _, _, hx, _ => by simp [closed] at hx
  | .fresh _ _ _, _, hx, _ => by simp [closed] at hx
  | .pk _, _, hx, _ => by simp [closed] at hx
  | .mp _, _, hx, _ => by simp [closed] at hx
  | .ptr _ _, _, hx, _ => by simp [closed] at hx
theorem closedAs_sees (V : Sees S S' w) : ∀ (xs : List AV) (vs : List Value), closedL xs = true → RdAs E.φ S w xs vs → RdAs E.φ S' w (oldL xs) vs
  | [], vs, _, h => by simp only [RdAs, oldL] at h ⊢; exact h
  | x :: xs, vs, hx, h => by
    simp only [closedL, Bool.and_eq_true] at hx
    simp only [RdAs, oldL] at h ⊢
    obtain ⟨v, rest, e, hn, h1, h2⟩ := h
    exact ⟨v, rest, e, notAgg_old x hn, closed_sees V x v hx.1 h1, closedAs_sees V xs rest hx.2 h2⟩
theorem closedNs_sees (V : Sees S S' w) : ∀ (xs : List AV) (vs : List Value), closedL xs = true → RdNs E.φ S w xs vs → RdNs E.φ S' w (oldL xs) vs
  | [], vs, _, h => by simp only [RdNs, oldL] at h ⊢; exact h
  | x :: xs, vs, hx, h => by
    simp only [closedL, Bool.and_eq_true] at hx
    simp only [RdNs, oldL] at h ⊢
    obtain ⟨v, rest, e, hn, h1, h2⟩ := h
    exact ⟨v, rest, e, noOwn_old x hn, closed_sees V x v hx.1 h1, closedNs_sees V xs rest hx.2 h2⟩
theorem closedKs_sees (V : Sees S S' w) : ∀ (xs : List AV) (ks : List D) (es : List MapEntry), closedL xs = true → RdKs E.φ S w xs ks es → RdKs E.φ S' w (oldL xs) ks es
  | [], ks, es, _, h => by simp only [RdKs, oldL] at h ⊢; exact h
  | x :: xs, ks, es, hx, h => by
    simp only [closedL, Bool.and_eq_true] at hx
    simp only [RdKs, oldL] at h ⊢
    obtain ⟨k, ks', e, rest, e1, e2, hk, h0, hn, h1, h2⟩ := h
    exact ⟨k, ks', e, rest, e1, e2, hk, RdD_key hk h0, noOwn_old x hn, closed_sees V x _ hx.1 h1, closedKs_sees V xs ks' rest hx.2 h2⟩
end
structure Sees0 (S S' : St) : Prop where
  E : S'.E ≤ S.E
  xv : S'.xv = S.xv
  G : ∀ b, S.G b ≤ S'.G b
theorem epB_up {e e' : Nat} (h : e' ≤ e) (ep : Ep) (b : Nat) (hb : epB e ep b) : epB e' ep.up b := by
  cases ep <;> simp_all [epB, Ep.up]
  omega
theorem Sees0.d (V : Sees0 S S') {ep : Ep} {x : D} {v : Value} (h : RdD w S.G (epB S.E ep) x v) : RdD w S'.G (epB S'.E ep.up) x v :=
  RdD_mono ⟨.refl _ _, V.G, Nat.le_refl _, fun b _ hb => epB_up V.E ep b hb⟩ x v h
theorem noOwnL_up : ∀ cs : List AV, noOwn.noOwnL cs = true → noOwn.noOwnL (upL cs) = true
  | [], _ => rfl
  | c :: cs, h => by
    cases c <;> first
      | (simp only [noOwn.noOwnL, Bool.false_eq_true] at h; done)
      | exact noOwnL_up cs h
theorem noOwn_up (x : AV) (h : noOwn x = true) : noOwn (upV x) = true := by
  cases x <;> first
    | rfl
    | cases h
    | exact noOwnL_up _ h
theorem notAgg_up (x : AV) (h : notAgg x) : notAgg (upV x) := by
  cases x <;> first
    | trivial
    | exact h.elim
theorem upL_len : ∀ cs : List AV, (upL cs).length = cs.length
  | [] => rfl
  | c :: cs => by simp [upL, upL_len cs]
mutual
theorem solid_sees (V : Sees0 S S') : ∀ (x : AV) (v : Value), solid x = true → RdA E.φ S w x v → RdA E.φ S' w (upV x) v
  | .any, _, _, _ => trivial
  | .d ep x, v, _, h => V.d h
  | .at ep x off, v, _, h => by
    simp only [RdA, upV] at h ⊢
    obtain ⟨b, o, y, e, hy, hc, hg⟩ := h
    exact ⟨b, o, y, e, V.d hy, hc, Nat.le_trans hg (V.G b)⟩
  | .ext i, v, _, h => by
    simp only [RdA, upV] at h ⊢
    rw [V.xv]; exact h
  | .agg cs, v, hx, h => by
    simp only [solid] at hx
    simp only [RdA, upV] at h ⊢
    obtain ⟨vs, e, h⟩ := h
    exact ⟨vs, e, solidAs_sees V cs vs hx h⟩
  | .tup cs, v, hx, h => by
    simp only [solid] at hx
    simp only [RdA, upV] at h ⊢
    obtain ⟨vs, e, h⟩ := h
    exact ⟨vs, e, solidNs_sees V cs vs hx h⟩
  | .cb cs off, v, hx, h => by
    simp only [solid] at hx
    simp only [RdA, upV] at h ⊢
    obtain ⟨b, vs, e, hc, hg, ho, hn⟩ := h
    exact ⟨b, vs, e, hc, Nat.le_trans hg (V.G b), noOwnL_up cs ho, solidAs_sees V cs vs hx hn⟩
  | .fb cs off, v, hx, _ => by simp [solid] at hx
  | .sb sz n cs, v, hx, h => by
    simp only [solid] at hx
    simp only [RdA, upV] at h ⊢
    obtain ⟨b, cap, vs, e, h1, h2, hc, hg, ho, hn⟩ := h
    exact ⟨b, cap, vs, e, h1, by rw [upL_len]; exact h2, hc, Nat.le_trans hg (V.G b), noOwnL_up cs ho, solidAs_sees V cs vs hx hn⟩
  | .cmd ep m, v, _, h => by
    simp only [RdA, upV] at h ⊢
    obtain ⟨b, es, k, e, hb, hg, hm⟩ := h
    exact ⟨b, es, k, e, hb, Nat.lt_of_lt_of_le hg (V.G b), RdM_mono ⟨.refl _ _, V.G, Nat.le_refl _, fun b _ hb => epB_up V.E ep b hb⟩ m _ hm⟩
  | .cm ks cs, v, hx, h => by
    simp only [solid] at hx
    simp only [RdA, upV] at h ⊢
    obtain ⟨b, es, k, e, hb, hg, hm⟩ := h
    exact ⟨b, es, k, e, hb, Nat.lt_of_lt_of_le hg (V.G b), solidKs_sees V cs ks _ hx hm⟩
  | .fn f x c, v, hx, h => by
    simp only [solid, Bool.and_eq_true] at hx
    simp only [RdA, upV] at h ⊢
    obtain ⟨va, vc, e, h1, h2⟩ := h
    exact ⟨va, vc, e, solidNs_sees V x va hx.1 h1, solidNs_sees V c vc hx.2 h2⟩
  | .own _ _ _ _, _, hx, _ => by simp [solid] at hx
  | .uq _ _ _ _, _, hx, _ => by simp [solid] at hx
  | .up _ _ _ _ _ _, _, hx, _ => by simp [solid] at hx
  | .fresh _ _ _, _, hx, _ => by simp [solid] at hx
  | .pk _, _, hx, _ => by simp [solid] at hx
  | .mp _, _, hx, _ => by simp [solid] at hx
  | .ptr _ _, _, hx, _ => by simp [solid] at hx
theorem solidAs_sees (V : Sees0 S S') : ∀ (xs : List AV) (vs : List Value), solidL xs = true → RdAs E.φ S w xs vs → RdAs E.φ S' w (upL xs) vs
  | [], vs, _, h => by simp only [RdAs, upL] at h ⊢; exact h
  | x :: xs, vs, hx, h => by
    simp only [solidL, Bool.and_eq_true] at hx
    simp only [RdAs, upL] at h ⊢
    obtain ⟨v, rest, e, hn, h1, h2⟩ := h
    exact ⟨v, rest, e, notAgg_up x hn, solid_sees V x v hx.1 h1, solidAs_sees V xs rest hx.2 h2⟩
theorem solidNs_sees (V : Sees0 S S') : ∀ (xs : List AV) (vs : List Value), solidL xs = true → RdNs E.φ S w xs vs → RdNs E.φ S' w (upL xs) vs
  | [], vs, _, h => by simp only [RdNs, upL] at h ⊢; exact h
  | x :: xs, vs, hx, h => by
    simp only [solidL, Bool.and_eq_true] at hx
    simp only [RdNs, upL] at h ⊢
    obtain ⟨v, rest, e, hn, h1, h2⟩ := h
    exact ⟨v, rest, e, noOwn_up x hn, solid_sees V x v hx.1 h1, solidNs_sees V xs rest hx.2 h2⟩
theorem solidKs_sees (V : Sees0 S S') : ∀ (xs : List AV) (ks : List D) (es : List MapEntry), solidL xs = true → RdKs E.φ S w xs ks es → RdKs E.φ S' w (upL xs) ks es
  | [], ks, es, _, h => by simp only [RdKs, upL] at h ⊢; exact h
  | x :: xs, ks, es, hx, h => by
    simp only [solidL, Bool.and_eq_true] at hx
    simp only [RdKs, upL] at h ⊢
    obtain ⟨k, ks', e, rest, e1, e2, hk, h0, hn, h1, h2⟩ := h
    exact ⟨k, ks', e, rest, e1, e2, hk, RdD_key hk h0, noOwn_up x hn, solid_sees V x _ hx.1 h1, solidKs_sees V xs ks' rest hx.2 h2⟩
end
end
end Go.Ly
end
section
namespace Go.Ly
open Classical
noncomputable def raiseG (S : St) (w : World) : Nat → Nat := fun b =>
  if (∃ t, S.β (2 * t + 1) = some b) then max (S.G b) (match w.heap[b]? with | some (.cells cs _ _) => cs.size | _ => 0) else S.G b
noncomputable def callee (S : St) (w : World) (ids : List Nat) (raise : Bool) (X : Nat → Prop) : St :=
  { θ := ids.map fun id => S.θ.getD id 0, β := fun _ => none, ln := S.ln, G := if raise then raiseG S w else S.G, E := w.heap.size, D := w.heap.size, L := fun _ => False, n0 := w.heap.size, X, xv := S.xv }
noncomputable def after (S S' : St) : St := { S with G := fun b => if (∃ t, S.β (2 * t + 1) = some b) then S.G b else S'.G b, X := fun b => S.X b ∨ S'.X b }
theorem nodupN_iff : ∀ {l : List Nat}, nodupN l = true → l.Nodup
  | [], _ => List.nodup_nil
  | x :: l, h => by
    simp only [nodupN] at h
    split at h
    · cases h
    · rename_i hm
      refine List.nodup_cons.2 ⟨fun hx => ?_, nodupN_iff h⟩
      have : ∀ (l : List Nat), x ∈ l → memN x l = true := by
        intro l
        induction l with
        | nil => intro h; cases h
        | cons y l ih =>
          intro h
          simp only [memN]
          cases hxy : natEq x y with
          | true => rfl
          | false =>
            simp only [List.mem_cons] at h
            rcases h with rfl | h
            · rw [natEq_iff.2 rfl] at hxy; cases hxy
            · exact ih h
      rw [this l hx] at hm
      cases hm
theorem ltAll_iff {n : Nat} : ∀ {l : List Nat}, ltAll n l = true → ∀ x ∈ l, x < n
  | [], _, x, h => by cases h
  | y :: l, h, x, hx => by
    simp only [ltAll, Bool.and_eq_true, natLe_iff] at h
    simp only [List.mem_cons] at hx
    rcases hx with rfl | hx
    · exact h.1
    · exact ltAll_iff h.2 x hx
theorem posN_some {id : Nat} : ∀ {ids : List Nat} {k : Nat}, posN id ids = some k → ids[k]? = some id
  | [], _, h => by cases h
  | j :: ids, k, h => by
    simp only [posN] at h
    split at h
    · rename_i hj
      cases h
      rw [natEq_iff] at hj
      subst hj
      rfl
    · split at h
      · rename_i k' hk
        cases h
        simpa using posN_some hk
      · cases h
theorem posN_none {id : Nat} : ∀ {ids : List Nat}, posN id ids = none → id ∉ ids
  | [], _ => by simp
  | j :: ids, h => by
    simp only [posN] at h
    split at h
    · cases h
    · rename_i hj
      split at h
      · cases h
      · rename_i hk
        simp only [List.mem_cons, not_or]
        refine ⟨fun e => ?_, posN_none hk⟩
        subst e
        rw [natEq_iff.2 rfl] at hj
        cases hj
section
variable {E : Env} {S S' : St} {w w' : World} {A : Fm} {σ : Sto} {a : Act} {o : Oper} {ops : Array Oper} {ids : List Nat} {raise : Bool} {X : Nat → Prop}
theorem raise_ge (b : Nat) : S.G b ≤ (callee S w ids raise X).G b := by
  simp only [callee]
  cases raise with
  | false => exact Nat.le_refl _
  | true =>
    simp only [if_true, raiseG]
    split
    · exact Nat.le_max_left _ _
    · exact Nat.le_refl _
theorem raise_same {b : Nat} (h : ∀ t, S.β (2 * t + 1) ≠ some b) : (callee S w ids raise X).G b = S.G b := by
  simp only [callee]
  cases raise with
  | false => rfl
  | true =>
    simp only [if_true, raiseG]
    rw [if_neg (fun ⟨t, ht⟩ => h t ht)]
theorem callee_θ {b : Nat} (hlt : ∀ x ∈ ids, x < S.θ.length) (h : b ∈ (callee S w ids raise X).θ) : ∃ id ∈ ids, S.θ[id]? = some b := by
  simp only [callee, List.mem_map] at h
  obtain ⟨id, hid, rfl⟩ := h
  have := hlt id hid
  exact ⟨id, hid, by rw [List.getElem?_eq_getElem this, List.getD_eq_getElem?_getD, List.getElem?_eq_getElem this]; rfl⟩
theorem callee_get {k id b : Nat} (hk : ids[k]? = some id) (hb : S.θ[id]? = some b) : (callee S w ids raise X).θ[k]? = some b := by
  simp only [callee, List.getElem?_map, hk, Option.map_some, List.getD_eq_getElem?_getD, hb, Option.getD_some]
theorem sees_callee (R : Rep E S w σ) (hX : ∀ b, X b → S.X b) (hlt : ∀ x ∈ ids, x < S.θ.length) : Sees S (callee S w ids raise X) w :=
  ⟨rfl, rfl, raise_ge, fun b h1 h2 h3 _ => ⟨Nat.lt_of_lt_of_le h1 R.n0, fun h => h2 (hX b h), fun hm => by
    obtain ⟨id, _, hid⟩ := callee_θ hlt hm
    exact h3 (List.mem_of_getElem? hid), fun t => by simp [callee]⟩⟩
theorem clL_sound : ∀ {cs : List AV} {vs : List Value}, RdAs E.φ S w cs vs → RdAs E.φ S w (clL cs) vs ∧ closedL (clL cs) = true
  | [], vs, h => ⟨h, rfl⟩
  | c :: cs, vs, h => by
    simp only [RdAs] at h
    obtain ⟨v, rest, rfl, hn, h1, h2⟩ := h
    obtain ⟨i1, i2⟩ := clL_sound h2
    cases hc : closed c with
    | true =>
      simp only [clL, hc, RdAs, closedL, Bool.and_eq_true]
      exact ⟨⟨v, rest, rfl, hn, h1, i1⟩, trivial, i2⟩
    | false =>
      simp only [clL, hc, RdAs, closedL, Bool.and_eq_true]
      exact ⟨⟨v, rest, rfl, trivial, trivial, i1⟩, rfl, i2⟩
theorem clK_sound : ∀ {cs : List AV} {ks : List D} {es : List MapEntry}, RdKs E.φ S w cs ks es → RdKs E.φ S w (clL cs) ks es ∧ closedL (clL cs) = true
  | [], ks, es, h => ⟨h, rfl⟩
  | c :: cs, ks, es, h => by
    simp only [RdKs] at h
    obtain ⟨k, ks', e, rest, e1, e2, hk, h0, hn, h1, h2⟩ := h
    obtain ⟨i1, i2⟩ := clK_sound h2
    cases hc : closed c with
    | true =>
      simp only [clL, hc, RdKs, closedL, Bool.and_eq_true]
      exact ⟨⟨k, ks', e, rest, e1, e2, hk, h0, hn, h1, i1⟩, trivial, i2⟩
    | false =>
      simp only [clL, hc, RdKs, closedL, Bool.and_eq_true]
      exact ⟨⟨k, ks', e, rest, e1, e2, hk, h0, rfl, trivial, i1⟩, rfl, i2⟩
theorem closedL_noOwnL : ∀ cs : List AV, closedL cs = true → noOwn.noOwnL cs = true := by
  intro cs h
  have := closed_noOwn (.agg cs) (by simpa [closed] using h)
  exact this
structure Frz (S : St) (w : World) (ids : List Nat) (raise : Bool) (X : Nat → Prop) (σ : Sto) : Prop where
  X : ∀ b, X b → S.X b
  lt : ∀ x ∈ ids, x < S.θ.length
theorem frz1_sound (R : Rep E S w σ) (F : Frz S w ids raise X σ) {x : AV} {v : Value} (hu : raise = true ∨ noUq1 x = true) (h : RdA E.φ S w x v) :
    noOwn (frz1 ids σ x) = true ∧ RdA E.φ (callee S w ids raise X) w (frz1 ids σ x) v ∧ (notAgg x → notAgg (frz1 ids σ x)) := by
  have V := sees_callee (raise := raise) R F.X F.lt
  have gen : ∀ y : AV, RdA E.φ S w y v → noOwn (match closed y with | true => oldV y | false => AV.any) = true ∧ RdA E.φ (callee S w ids raise X) w (match closed y with | true => oldV y | false => AV.any) v ∧
      (notAgg y → notAgg (match closed y with | true => oldV y | false => AV.any)) := by
    intro y hy
    cases hc : closed y with
    | true => exact ⟨noOwn_old y (closed_noOwn y hc), closed_sees V y v hc hy, notAgg_old y⟩
    | false => exact ⟨rfl, trivial, fun _ => trivial⟩
  cases x with
  | ptr id off =>
    simp only [RdA] at h
    obtain ⟨b, hb, rfl⟩ := h
    simp only [frz1]
    cases hp : posN id ids with
    | some k => exact ⟨rfl, ⟨b, callee_get (posN_some hp) hb, rfl⟩, fun _ => trivial⟩
    | none =>
      simp only
      rw [getS_eq]
      cases hs : σ[id]? with
      | none => exact ⟨rfl, trivial, fun _ => trivial⟩
      | some s =>
        cases s with
        | bx cs =>
          obtain ⟨vs, T, hh, hr⟩ := R.box id b _ hb hs
          obtain ⟨h1, h2⟩ := clL_sound (wkL_sound hr)
          have hm := List.mem_of_getElem? hb
          refine ⟨rfl, ?_, fun _ => trivial⟩
          simp only [RdA]
          refine ⟨b, vs, rfl, ?_, ⟨(R.θlt b hm).1, fun h => R.θX b hm (F.X b h), fun hm' => ?_, fun t => by simp [callee]⟩, noOwnL_old _ (closedL_noOwnL _ h2), closedAs_sees V _ vs h2 h1⟩
          · intro i v hv
            rw [Nat.zero_add, cell_of_box hh]
            exact hv
          · obtain ⟨id', hid', hb'⟩ := callee_θ F.lt hm'
            have h1 := (List.getElem?_eq_some_iff.1 hb).1
            have : id = id' := (List.getElem?_inj h1 R.nodup).1 (hb.trans hb'.symm)
            subst this
            exact posN_none hp hid'
        | md _ _ => exact ⟨rfl, trivial, fun _ => trivial⟩
        | mf _ _ => exact ⟨rfl, trivial, fun _ => trivial⟩
  | mp id =>
    simp only [RdA] at h
    obtain ⟨b, hb, rfl⟩ := h
    simp only [frz1]
    cases hp : posN id ids with
    | some k => exact ⟨rfl, ⟨b, callee_get (posN_some hp) hb, rfl⟩, fun _ => trivial⟩
    | none => exact ⟨rfl, trivial, fun _ => trivial⟩
  | own t sz es ep => exact ⟨rfl, V.d (RdOwn_d h), fun _ => trivial⟩
  | uq t sz es ep =>
    have hr : raise = true := hu.resolve_right (by simp [noUq1])
    subst hr
    refine ⟨rfl, ?_, fun _ => trivial⟩
    simp only [frz1, RdA]
    rcases h with ⟨_, rfl, rfl⟩ | ⟨b, vs, cs, T, hβ, rfl, hl, hh, hcap, hcs, he, hG, hc, hr⟩
    · exact (RdD_nilrow (.inl rfl))
    · rw [← hl] at hcap ⊢
      simp only [RdD]
      refine .inr ⟨b, 0, _, vs, rfl, hcap, ⟨heap_lt hh, heap_lt hh⟩, ?_, hc, V.row hr⟩
      have : (callee S w ids true X).G b = max (S.G b) cs.size := by
        simp only [callee, if_true, raiseG]
        rw [if_pos ⟨t, hβ⟩, hh]
      rw [this, Nat.zero_add]
      have h5 : es.length * sz ≤ (S.ln t).2 * sz := Nat.mul_le_mul_right _ hcap
      have := Nat.le_max_right (S.G b) cs.size
      omega
  | _ => exact gen _ h
theorem frzAs_sound (R : Rep E S w σ) (F : Frz S w ids raise X σ) : ∀ {xs : List AV} {vs : List Value}, (raise = true ∨ noUqL xs = true) → RdAs E.φ S w xs vs → noOwn.noOwnL (frzL ids σ xs) = true ∧ RdAs E.φ (callee S w ids raise X) w (frzL ids σ xs) vs
  | [], vs, _, h => ⟨rfl, h⟩
  | x :: xs, vs, hu, h => by
    simp only [RdAs] at h
    obtain ⟨v, rest, e, hn, h1, h2⟩ := h
    have hu' : (raise = true ∨ noUq1 x = true) ∧ (raise = true ∨ noUqL xs = true) := by
      rcases hu with h | h
      · exact ⟨.inl h, .inl h⟩
      · simp only [noUqL] at h
        split at h
        · exact ⟨.inr (by assumption), .inr h⟩
        · cases h
    obtain ⟨g1, g2, g3⟩ := frz1_sound R F hu'.1 h1
    obtain ⟨i1, i2⟩ := frzAs_sound R F hu'.2 h2
    simp only [frzL, RdAs]
    refine ⟨?_, v, rest, e, g3 hn, g2, i2⟩
    have hng := g3 hn
    generalize frz1 ids σ x = y at *
    cases y <;> first
      | exact i1
      | cases g1
      | exact hng.elim
theorem frzNs_sound (R : Rep E S w σ) (F : Frz S w ids raise X σ) : ∀ {xs : List AV} {vs : List Value}, (raise = true ∨ noUqL xs = true) → RdNs E.φ S w xs vs → RdNs E.φ (callee S w ids raise X) w (frzL ids σ xs) vs
  | [], vs, _, h => by simp only [RdNs, frzL] at h ⊢; exact h
  | x :: xs, vs, hu, h => by
    simp only [RdNs] at h
    obtain ⟨v, rest, e, _, h1, h2⟩ := h
    have hu' : (raise = true ∨ noUq1 x = true) ∧ (raise = true ∨ noUqL xs = true) := by
      rcases hu with h | h
      · exact ⟨.inl h, .inl h⟩
      · simp only [noUqL] at h
        split at h
        · exact ⟨.inr (by assumption), .inr h⟩
        · cases h
    obtain ⟨g1, g2, _⟩ := frz1_sound R F hu'.1 h1
    simp only [frzL, RdNs]
    exact ⟨v, rest, e, g1, g2, frzNs_sound R F hu'.2 h2⟩
def RdArgs (φ : Nat → FuncId) (S : St) (w : World) (xs : List AV) (vs : List Value) : Prop := RdF φ S w xs vs
theorem frzs_sound (R : Rep E S w σ) (F : Frz S w ids raise X σ) : ∀ {xs : List AV} {vs : List Value}, (raise = true ∨ noUqs xs = true) → RdF E.φ S w xs vs → RdNs E.φ (callee S w ids raise X) w (frzs ids σ xs) vs
  | [], vs, _, h => by simp only [RdNs, frzs] at h ⊢; exact h
  | x :: xs, vs, hu, h => by
    obtain ⟨v, rest, e, h1, h2⟩ := h
    have hu' : (raise = true ∨ noUqV x = true) ∧ (raise = true ∨ noUqs xs = true) := by
      rcases hu with h | h
      · exact ⟨.inl h, .inl h⟩
      · simp only [noUqs] at h
        split at h
        · exact ⟨.inr (by assumption), .inr h⟩
        · cases h
    have one : ∀ y : AV, RdA E.φ S w y v → (raise = true ∨ noUq1 y = true) → noOwn (frz1 ids σ y) = true ∧ RdA E.φ (callee S w ids raise X) w (frz1 ids σ y) v := fun y hy hu =>
      let ⟨g1, g2, _⟩ := frz1_sound R F hu hy; ⟨g1, g2⟩
    have key : noOwn (frz ids σ x) = true ∧ RdA E.φ (callee S w ids raise X) w (frz ids σ x) v := by
      cases x with
      | fn f a c =>
        simp only [RdA] at h1
        obtain ⟨va, vc, e', g1, g2⟩ := h1
        have hf : (raise = true ∨ noUqL a = true) ∧ (raise = true ∨ noUqL c = true) := by
          rcases hu'.1 with h | h
          · exact ⟨.inl h, .inl h⟩
          · simp only [noUqV, Bool.and_eq_true] at h
            exact ⟨.inr h.1, .inr h.2⟩
        refine ⟨rfl, ?_⟩
        simp only [frz, RdA]
        exact ⟨va, vc, e', frzNs_sound R F hf.1 g1, frzNs_sound R F hf.2 g2⟩
      | agg cs =>
        simp only [RdA] at h1
        obtain ⟨us, rfl, h1⟩ := h1
        obtain ⟨i1, i2⟩ := frzAs_sound R F hu'.1 h1
        have hm := mkAgg_sound i2
        simp only [frz]
        unfold mkAgg at hm ⊢
        split at hm
        · simp only [oldD]
          refine ⟨rfl, ?_⟩
          exact RdD_weak' (fun b hb _ => hb) hm
        · exact ⟨i1, hm⟩
      | _ => exact one _ h1 hu'.1
    simp only [frzs, RdNs]
    exact ⟨v, rest, e, key.1, key.2, frzs_sound R F hu'.2 h2⟩
theorem nodup_map {α β : Type} {f : α → β} : ∀ {l : List α}, (∀ x ∈ l, ∀ y ∈ l, f x = f y → x = y) → l.Nodup → (l.map f).Nodup
  | [], _, _ => List.nodup_nil
  | x :: l, h, hn => by
    obtain ⟨h1, h2⟩ := List.nodup_cons.1 hn
    simp only [List.map_cons]
    refine List.nodup_cons.2 ⟨fun hm => ?_, nodup_map (fun a ha b hb => h a (by simp [ha]) b (by simp [hb])) h2⟩
    rw [List.mem_map] at hm
    obtain ⟨y, hy, e⟩ := hm
    have := h y (by simp [hy]) x (by simp) e
    exact h1 (this ▸ hy)
theorem noUqL_wkL : ∀ cs : List AV, noUqL (wkL cs) = true
  | [] => rfl
  | c :: cs => by
    have : noUq1 (wk1 c) = true := by cases c <;> rfl
    simp only [wkL, noUqL, this, noUqL_wkL cs]
theorem lendS_get : ∀ (l : List Nat) (k id : Nat), l[k]? = some id → (lendS ids σ l)[k]? = some (lend1 ids σ id)
  | [], _, _, h => by simp at h
  | x :: l, 0, id, h => by
    simp only [List.getElem?_cons_zero, Option.some.injEq] at h
    subst h
    rfl
  | x :: l, k + 1, id, h => by
    simp only [List.getElem?_cons_succ] at h
    simpa [lendS] using lendS_get l k id h
theorem lendS_len : ∀ l : List Nat, (lendS ids σ l).length = l.length
  | [] => rfl
  | x :: l => by simp [lendS, lendS_len l]
theorem rep_callee (R : Rep E S w σ) (F : Frz S w ids raise X σ) (hnd : ids.Nodup) : Rep E (callee S w ids raise X) w (lendS ids σ ids) where
  len := by simp [callee, lendS_len]
  nodup := by
    simp only [callee]
    refine nodup_map ?_ hnd
    intro x hx y hy h
    have h1 := F.lt x hx
    have h2 := F.lt y hy
    simp only [List.getD_eq_getElem?_getD, List.getElem?_eq_getElem h1, List.getElem?_eq_getElem h2, Option.getD_some] at h
    exact (List.getElem?_inj h1 R.nodup).1 (by rw [List.getElem?_eq_getElem h1, List.getElem?_eq_getElem h2, h])
  box := by
    intro k b s hb hs
    have hk : k < ids.length := by
      have := (List.getElem?_eq_some_iff.1 hb).1
      simpa [callee] using this
    have hid := List.getElem?_eq_getElem hk
    rw [lendS_get ids k _ hid] at hs
    cases hs
    have hlt := F.lt _ (List.getElem_mem hk)
    have hθ := List.getElem?_eq_getElem hlt
    rw [callee_get hid hθ] at hb
    cases hb
    have hσ : ids[k] < σ.length := by rw [← R.len]; exact hlt
    have hs := List.getElem?_eq_getElem hσ
    have hbox := R.box _ _ _ hθ hs
    have V := sees_callee (raise := raise) R F.X F.lt
    simp only [lend1, getS_eq, hs]
    cases hse : σ[ids[k]] with
    | bx cs =>
      rw [hse] at hbox
      obtain ⟨vs, T, hh, hr⟩ := hbox
      exact ⟨vs, T, hh, (frzAs_sound R F (.inr (noUqL_wkL cs)) (wkL_sound hr)).2⟩
    | md ep m =>
      rw [hse] at hbox
      obtain ⟨es, clk, hh, hm⟩ := hbox
      exact ⟨es, clk, hh, V.m hm⟩
    | mf ks vs =>
      rw [hse] at hbox
      obtain ⟨es, clk, hh, hm⟩ := hbox
      obtain ⟨h1, h2⟩ := clK_sound hm
      exact ⟨es, clk, hh, closedKs_sees V _ ks _ h2 h1⟩
  θlt := fun b hb => by
    obtain ⟨id, _, hid⟩ := callee_θ F.lt hb
    have hm := List.mem_of_getElem? hid
    obtain ⟨h1, h2⟩ := R.θlt b hm
    exact ⟨h1, by rw [raise_same fun t ht => (R.βlt _ b ht).2.2 hm]; exact h2⟩
  θX := fun b hb h => by
    obtain ⟨id, _, hid⟩ := callee_θ F.lt hb
    exact R.θX b (List.mem_of_getElem? hid) (F.X b h)
  βlt := fun t b hb => by simp [callee] at hb
  βown := fun t b hb => by simp [callee] at hb
  βinj := fun t t' b hb => by simp [callee] at hb
  Gnew := fun b hb => by
    rw [raise_same fun t ht => by have := (R.βlt _ b ht).1; omega]
    exact R.Gnew b hb
  E := Nat.le_refl _
  n0 := Nat.le_refl _
  D := trivial
  X := fun b hb => ⟨(R.X b (F.X b hb)).1, fun t => by simp [callee]⟩
mutual
theorem RdD_on {w : World} {G G' : Nat → Nat} {B B' : Nat → Prop} (h : ∀ b, B b → G b ≤ G' b ∧ B' b) : ∀ (x : D) (v : Value), RdD w G B x v → RdD w G' B' x v
  | .bool _, _, h => h
  | .int _ _, _, h => h
  | .str _, _, h => h
  | .nf, _, h => h
  | .np, _, h => h
  | .nm, _, h => h
  | .agg cs, v, hv => by
    simp only [RdD] at hv ⊢
    obtain ⟨vs, e, hv⟩ := hv
    exact ⟨vs, e, RdDs_on h cs vs hv⟩
  | .row sz es, v, hv => by
    simp only [RdD] at hv ⊢
    rcases hv with ⟨⟨p, cap, hv⟩, he⟩ | ⟨b, o, cap, vs, e, hc, hb, hg, hv, hr⟩
    · exact .inl ⟨⟨p, ⟨cap.1, cap.2.imp id fun ⟨b, h1, h2⟩ => ⟨b, h1, (h b h2).2⟩⟩, hv⟩, he⟩
    · exact .inr ⟨b, o, cap, vs, e, hc, ⟨hb.1, (h b hb.2).2⟩, Nat.le_trans hg (h b hb.2).1, hv, RdRow_on h sz es vs hr⟩
theorem RdDs_on {w : World} {G G' : Nat → Nat} {B B' : Nat → Prop} (h : ∀ b, B b → G b ≤ G' b ∧ B' b) : ∀ (xs : List D) (vs : List Value), RdDs w G B xs vs → RdDs w G' B' xs vs
  | [], vs, hv => by simp only [RdDs] at hv ⊢; exact hv
  | x :: xs, vs, hv => by
    simp only [RdDs] at hv ⊢
    obtain ⟨v, rest, e, h1, h2⟩ := hv
    exact ⟨v, rest, e, RdD_on h x v h1, RdDs_on h xs rest h2⟩
theorem RdRow_on {w : World} {G G' : Nat → Nat} {B B' : Nat → Prop} (h : ∀ b, B b → G b ≤ G' b ∧ B' b) (sz : Nat) : ∀ (xs : List D) (vs : List Value), RdRow w G B sz xs vs → RdRow w G' B' sz xs vs
  | [], vs, hv => by simp only [RdRow] at hv ⊢; exact hv
  | x :: xs, vs, hv => by
    simp only [RdRow] at hv ⊢
    obtain ⟨v, rest, e, hs, ho, h1, h2⟩ := hv
    exact ⟨v, rest, e, hs, ho, RdD_on h x v h1, RdRow_on h sz xs rest h2⟩
end
theorem frzsN_sound (R : Rep E S w σ) (F : Frz S w ids raise X σ) : ∀ {xs : List AV} {vs : List Value}, (raise = true ∨ noUqs xs = true) → RdF E.φ S w xs vs → RdNs E.φ (callee S w ids raise X) w (frzsN ids σ xs) vs
  | [], vs, _, h => by simp only [RdNs, frzsN] at h ⊢; exact h
  | x :: xs, vs, hu, h => by
    obtain ⟨v, rest, e, h1, h2⟩ := h
    have hu' : (raise = true ∨ noUqs [x] = true) ∧ (raise = true ∨ noUqs xs = true) := by
      rcases hu with h | h
      · exact ⟨.inl h, .inl h⟩
      · simp only [noUqs] at h ⊢
        split at h
        · rename_i hx; exact ⟨.inr (by first | rfl | trivial | simp [hx]), .inr h⟩
        · cases h
    have key : noOwn (frzN ids σ x) = true ∧ RdA E.φ (callee S w ids raise X) w (frzN ids σ x) v := by
      unfold frzN
      split
      · refine ⟨rfl, ?_⟩
        simp only [RdA] at h1 ⊢
        exact RdD_on (fun b hb => hb.elim) _ _ h1
      · have := frzs_sound R F (xs := [x]) (vs := [v]) hu'.1 ⟨v, [], rfl, h1, rfl⟩
        simp only [frzs, RdNs] at this
        obtain ⟨v', rest', e', g1, g2, _⟩ := this
        cases e'
        exact ⟨g1, g2⟩
    simp only [frzsN, RdNs]
    exact ⟨v, rest, e, key.1, key.2, frzsN_sound R F hu'.2 h2⟩
theorem begins_calleeN (R : Rep E S w σ) (F : Frz S w ids raise X σ) (hnd : ids.Nodup) {xs : List AV} {vs : List Value} (hu : raise = true ∨ noUqs xs = true) (h : RdF E.φ S w xs vs) : Begins E (callee S w ids raise X) w (lendS ids σ ids) (frzsN ids σ xs) vs :=
  ⟨rep_callee R F hnd, fun _ => rfl, rfl, rfl, rfl, frzsN_sound R F hu h⟩
theorem begins_callee (R : Rep E S w σ) (F : Frz S w ids raise X σ) (hnd : ids.Nodup) {xs : List AV} {vs : List Value} (hu : raise = true ∨ noUqs xs = true) (h : RdF E.φ S w xs vs) : Begins E (callee S w ids raise X) w (lendS ids σ ids) (frzs ids σ xs) vs :=
  ⟨rep_callee R F hnd, fun _ => rfl, rfl, rfl, rfl, frzs_sound R F hu h⟩
theorem moves_call (R : Rep E S w σ) (F : Frz S w ids raise X σ) (V : Ev (callee S w ids raise X) w S' w') :
    Keeps [] [] S w (after S S') w' ∧ Ev S w (after S S') w' ∧ (∀ b, b < w.heap.size → b ∉ (callee S w ids raise X).θ → ¬ X b → w'.heap[b]? = w.heap[b]? ∧ (after S S').G b = S.G b) := by
  have fr : ∀ b, b < w.heap.size → b ∉ (callee S w ids raise X).θ → ¬ X b → w'.heap[b]? = w.heap[b]? ∧ S'.G b = (callee S w ids raise X).G b := fun b hb hθ hn => V.frame b hb hθ (fun t => by simp [callee]) hn (.inl hb)
  have fr2 : ∀ b, b < w.heap.size → b ∉ (callee S w ids raise X).θ → ¬ X b → w'.heap[b]? = w.heap[b]? ∧ (after S S').G b = S.G b := fun b hb hθ hn => by
    obtain ⟨h1, h2⟩ := fr b hb hθ hn
    refine ⟨h1, ?_⟩
    simp only [after]
    split
    · rfl
    · rename_i h
      rw [h2]
      exact raise_same fun t ht => h ⟨t, ht⟩
  have hXn : ∀ t b, S.β t = some b → ¬ X b := fun t b hb h => (R.X b (F.X b h)).2 t hb
  have hθn : ∀ t b, S.β t = some b → b ∉ (callee S w ids raise X).θ := fun t b hb hm => by
    obtain ⟨id, _, hid⟩ := callee_θ F.lt hm
    exact (R.βlt t b hb).2.2 (List.mem_of_getElem? hid)
  have hnew : ∀ b, S'.X b → S.X b ∨ w.heap.size ≤ b := fun b hb => (V.newX b hb).imp (F.X b) id
  have hG : ∀ b, S.G b ≤ (after S S').G b := fun b => by
    simp only [after]
    split
    · exact Nat.le_refl _
    · rcases Nat.lt_or_ge b w.heap.size with h | h
      · exact Nat.le_trans (raise_ge b) (V.G b h)
      · rw [R.Gnew b h]; exact Nat.zero_le _
  have himm : ∀ {Q}, Imm Q w S.G w' := ⟨fun b i v _ hi hc => V.imm.cell b i v (cell_lt hc) (Nat.lt_of_lt_of_le hi (raise_ge b)) hc, fun b es k _ hi hb => V.imm.map b es k (heap_lt hb) (Nat.lt_of_lt_of_le hi (raise_ge b)) hb⟩
  have k0 : Keeps0 [] [] S w (after S S') w' := ⟨fun _ _ h => h, rfl, rfl, hG, V.size, himm, fun t b _ hb => by
    obtain ⟨h1, h2, _⟩ := R.βlt t b hb
    obtain ⟨g1, g2⟩ := fr2 b h1 (hθn t b hb) (hXn t b hb)
    exact ⟨hb, g2, g1⟩, fun _ _ h => h, fun _ _ => rfl⟩
  have hsub : ∀ b, b ∉ S.θ → b ∉ (callee S w ids raise X).θ := fun b h hm => by
    obtain ⟨id, _, hid⟩ := callee_θ F.lt hm
    exact h (List.mem_of_getElem? hid)
  have ev : Ev S w (after S S') w' := ⟨fun _ _ h => h, ⟨rfl, rfl, rfl⟩, fun _ h => .inl h, rfl, rfl, V.size, fun b hb hθ _ hn _ => fr2 b hb (hsub b hθ) (fun h => hn (F.X b h)), fun b _ => hG b, himm, fun _ h => .inl h, fun t _ h => .inl ⟨t, h⟩,
    fun b hb => hb.elim .inl (hnew b), V.os⟩
  exact ⟨⟨k0, fun b h1 h2 h3 h4 => ⟨⟨h1, fun hx => hx.elim h2 (fun hx => (hnew b hx).elim h2 (fun hge => by have := R.n0; omega)), h3, h4⟩, (fr2 b (Nat.lt_of_lt_of_le h1 R.n0) (hsub b h3) (fun h => h2 (F.X b h))).1⟩⟩, ev, fr2⟩
theorem setS_get (σ : Sto) (id : Nat) (s : SE) (j : Nat) (h : id < σ.length) : (setS σ id s)[j]? = if id = j then some s else σ[j]? := by
  rw [setS_eq]
  by_cases hj : id = j
  · subst hj; rw [if_pos rfl, List.getElem?_set_self h]
  · rw [if_neg hj, List.getElem?_set_ne hj]
theorem setS_len (σ : Sto) (id : Nat) (s : SE) : (setS σ id s).length = σ.length := by rw [setS_eq]; simp
theorem backS_len : ∀ (l : List Nat) (σ σ1 : Sto), (backS ids σ l σ1).length = σ.length
  | [], σ, σ1 => by cases σ1 <;> rfl
  | id :: l, σ, [] => rfl
  | id :: l, σ, s :: σ1 => by simp only [backS]; rw [backS_len l, setS_len]
theorem backS_other : ∀ (l : List Nat) (σ σ1 : Sto) (j : Nat), (∀ x ∈ l, x < σ.length) → j ∉ l → (backS ids σ l σ1)[j]? = σ[j]?
  | [], σ, σ1, j, _, _ => by cases σ1 <;> rfl
  | id :: l, σ, [], j, _, _ => rfl
  | id :: l, σ, s :: σ1, j, hl, hj => by
    simp only [List.mem_cons, not_or] at hj
    simp only [backS]
    rw [backS_other l _ σ1 j (fun x hx => by rw [setS_len]; exact hl x (by simp [hx])) hj.2, setS_get _ _ _ _ (hl id (by simp)), if_neg (Ne.symm hj.1)]
theorem backS_get : ∀ (l : List Nat) (σ σ1 : Sto) (k j : Nat) (s : SE), (∀ x ∈ l, x < σ.length) → l.Nodup → l[k]? = some j → σ1[k]? = some s → (backS ids σ l σ1)[j]? = some (backE ids s)
  | [], _, _, _, _, _, _, _, h, _ => by simp at h
  | id :: l, σ, [], k, j, s, _, _, _, h => by simp at h
  | id :: l, σ, s0 :: σ1, 0, j, s, hl, hnd, h, hs => by
    simp only [List.getElem?_cons_zero, Option.some.injEq] at h hs
    subst h
    subst hs
    simp only [backS]
    rw [backS_other l _ σ1 _ (fun x hx => by rw [setS_len]; exact hl x (by simp [hx])) (List.nodup_cons.1 hnd).1, setS_get _ _ _ _ (hl id (by simp)), if_pos rfl]
  | id :: l, σ, s0 :: σ1, k + 1, j, s, hl, hnd, h, hs => by
    simp only [List.getElem?_cons_succ] at h hs
    simp only [backS]
    exact backS_get l _ σ1 k j s (fun x hx => by rw [setS_len]; exact hl x (by simp [hx])) (List.nodup_cons.1 hnd).2 h hs
theorem nth_get : ∀ (l : List Nat) (k : Nat), k < l.length → l[k]? = some (nth l k)
  | [], _, h => by simp at h
  | x :: l, 0, _ => rfl
  | x :: l, k + 1, h => by simpa [nth] using nth_get l k (by simpa using h)
theorem back1_sound (hlt : ∀ x ∈ ids, x < S.θ.length) (hθ : S'.θ = (callee S w ids raise X).θ) (V : Sees0 S' (after S S')) {x : AV} {v : Value} (hn : notAgg x) (hl : lentV ids.length x = true) (h : RdA E.φ S' w' x v) :
    notAgg (back1 ids x) ∧ RdA E.φ (after S S') w' (back1 ids x) v := by
  have look : ∀ k b, k < ids.length → S'.θ[k]? = some b → S.θ[nth ids k]? = some b := by
    intro k b hk hb
    rw [hθ] at hb
    have hid := nth_get ids k hk
    have hm := hlt _ (List.mem_of_getElem? hid)
    rw [callee_get hid (List.getElem?_eq_getElem hm)] at hb
    rw [List.getElem?_eq_getElem hm]
    exact hb
  cases x with
  | ptr k off =>
    simp only [lentV, natLe_iff] at hl
    simp only [RdA] at h
    obtain ⟨b, hb, rfl⟩ := h
    exact ⟨trivial, b, look k b hl hb, rfl⟩
  | mp k =>
    simp only [lentV, natLe_iff] at hl
    simp only [RdA] at h
    obtain ⟨b, hb, rfl⟩ := h
    exact ⟨trivial, b, look k b hl hb, rfl⟩
  | _ => exact ⟨notAgg_up _ hn, solid_sees V _ v hl h⟩
theorem backL_sound (hlt : ∀ x ∈ ids, x < S.θ.length) (hθ : S'.θ = (callee S w ids raise X).θ) (V : Sees0 S' (after S S')) : ∀ {xs : List AV} {vs : List Value}, lentL ids.length xs = true → RdAs E.φ S' w' xs vs → RdAs E.φ (after S S') w' (backL ids xs) vs
  | [], vs, _, h => h
  | x :: xs, vs, hl, h => by
    simp only [lentL, Bool.and_eq_true] at hl
    simp only [RdAs] at h
    obtain ⟨v, rest, e, hn, h1, h2⟩ := h
    obtain ⟨g1, g2⟩ := back1_sound hlt hθ V hn hl.1 h1
    simp only [backL, RdAs]
    exact ⟨v, rest, e, g1, g2, backL_sound hlt hθ V hl.2 h2⟩
theorem lentS_get : ∀ {σ : Sto} {n k : Nat} {s : SE}, lentS n σ = true → σ[k]? = some s → lentE n s = true
  | [], _, _, _, _, h => by simp at h
  | x :: σ, n, 0, s, hl, h => by
    simp only [List.getElem?_cons_zero, Option.some.injEq] at h
    subst h
    simp only [lentS, Bool.and_eq_true] at hl
    exact hl.1
  | x :: σ, n, k + 1, s, hl, h => by
    simp only [lentS, Bool.and_eq_true] at hl
    exact lentS_get hl.2 (by simpa using h)
theorem rep_call (R : Rep E S w σ) (F : Frz S w ids raise X σ) (hnd : ids.Nodup) {σ1 : Sto} (V : Ev (callee S w ids raise X) w S' w') (hθ : S'.θ = (callee S w ids raise X).θ) (R' : Rep E S' w' σ1) (hcl : lentS (callee S w ids raise X).θ.length σ1 = true)
    (hsee : ids = [] ∨ Sees0 S' (after S S')) : Rep E (after S S') w' (backS ids σ ids σ1) := by
  obtain ⟨K, _, fr⟩ := moves_call R F V
  have hnew : ∀ b, S'.X b → S.X b ∨ w.heap.size ≤ b := fun b hb => (V.newX b hb).imp (F.X b) id
  have hσlt : ∀ x ∈ ids, x < σ.length := fun x hx => by rw [← R.len]; exact F.lt x hx
  have hlen1 : σ1.length = ids.length := by rw [← R'.len, hθ]; simp [callee]
  have hn : (callee S w ids raise X).θ.length = ids.length := by simp [callee]
  rw [hn] at hcl
  refine ⟨by rw [backS_len]; exact R.len, R.nodup, ?_, ?_, ?_, ?_, R.βown, R.βinj, ?_, Nat.le_trans R.E V.size, Nat.le_trans R.n0 V.size, R.D, ?_⟩
  · intro id b s hb hs
    by_cases hid : id ∈ ids
    · obtain ⟨k, hk⟩ := List.getElem?_of_mem hid
      have hkl : k < σ1.length := by rw [hlen1]; exact (List.getElem?_eq_some_iff.1 hk).1
      have hs1 := List.getElem?_eq_getElem hkl
      rw [backS_get ids σ σ1 k id _ hσlt hnd hk hs1] at hs
      cases hs
      have hb' : S'.θ[k]? = some b := by rw [hθ]; exact callee_get hk hb
      have hbox := R'.box k b _ hb' hs1
      have hc := lentS_get hcl hs1
      have V0 : Sees0 S' (after S S') := hsee.resolve_left fun e => by subst e; cases hid
      cases hse : σ1[k] with
      | bx cs =>
        rw [hse] at hbox hc
        obtain ⟨vs, T, hh, hr⟩ := hbox
        exact ⟨vs, T, hh, backL_sound F.lt hθ V0 hc hr⟩
      | md ep m =>
        rw [hse] at hbox
        obtain ⟨es, clk, hh, hm⟩ := hbox
        exact ⟨es, clk, hh, RdM_mono ⟨.refl _ _, V0.G, Nat.le_refl _, fun b _ hb => epB_up V0.E ep b hb⟩ m _ hm⟩
      | mf ks vs =>
        rw [hse] at hbox hc
        obtain ⟨es, clk, hh, hm⟩ := hbox
        exact ⟨es, clk, hh, solidKs_sees V0 vs ks _ hc hm⟩
    · rw [backS_other ids σ σ1 id hσlt hid] at hs
      have hm := List.mem_of_getElem? hb
      have hbn : b ∉ (callee S w ids raise X).θ := fun hm' => by
        obtain ⟨id', hid', hb'⟩ := callee_θ F.lt hm'
        have h1 := (List.getElem?_eq_some_iff.1 hb).1
        have : id = id' := (List.getElem?_inj h1 R.nodup).1 (hb.trans hb'.symm)
        exact hid (this ▸ hid')
      have := RepE_keep K (fr b (R.θlt b hm).1 hbn (fun h => R.θX b hm (F.X b h))).1 (R.box id b s hb hs)
      rwa [SE.demote_nil] at this
  · intro b hb
    obtain ⟨h1, h2⟩ := R.θlt b hb
    refine ⟨Nat.lt_of_lt_of_le h1 V.size, ?_⟩
    by_cases hm : b ∈ (callee S w ids raise X).θ
    · simp only [after]
      rw [if_neg (fun ⟨t, ht⟩ => (R.βlt _ b ht).2.2 hb)]
      exact (R'.θlt b (by rw [hθ]; exact hm)).2
    · exact (fr b h1 hm (fun h => R.θX b hb (F.X b h))).2.trans h2
  · intro b hb hx
    have hlt := (R.θlt b hb).1
    exact hx.elim (R.θX b hb) (fun hx => (hnew b hx).elim (R.θX b hb) (fun hge => by omega))
  · intro t b hb
    obtain ⟨h1, h2, h3⟩ := R.βlt t b hb
    exact ⟨Nat.lt_of_lt_of_le h1 V.size, h2, h3⟩
  · intro b hb
    simp only [after]
    rw [if_neg (fun ⟨t, ht⟩ => by have := (R.βlt _ b ht).1; have := V.size; omega)]
    exact R'.Gnew b hb
  · intro b hb
    rcases hb with hb | hb
    · exact ⟨Nat.lt_of_lt_of_le (R.X b hb).1 V.size, (R.X b hb).2⟩
    · refine ⟨(R'.X b hb).1, fun t ht => ?_⟩
      rcases hnew b hb with h | h
      · exact (R.X b h).2 t ht
      · have := (R.βlt t b ht).1
        omega
end
end Go.Ly
end
section
namespace Go.Ly
def markOf (r : Nat) : Deferred := { target := .collected r, args := #[] }
def Marks (S : St) (w : World) (ds : List Deferred) : Prop :=
  ∃ rs : List Nat, ds = rs.map markOf ∧ rs.Nodup ∧ ∀ r ∈ rs, w.heap[r]? = some (.deferred (some [])) ∧ r ∉ S.θ ∧ (∀ t, S.β t ≠ some r) ∧ ¬ S.X r ∧ S.n0 ≤ r
theorem noC_deferred {w : World} {r : Nat} {ds} (h : w.heap[r]? = some (.deferred ds)) : NoC w r := ⟨fun i => by simp [World.cell?, h], fun es k e => by rw [h] at e; cases e⟩
theorem noC_loop {w : World} {r : Nat} {l : Loop} (h : w.heap[r]? = some (.loop l)) : NoC w r := ⟨fun i => by simp [World.cell?, h], fun es k e => by rw [h] at e; cases e⟩
theorem Marks.ev {S w S' w' ds} (h : Marks S w ds) (V : Ev S w S' w') : Marks S' w' ds := by
  obtain ⟨rs, hds, hnd, h⟩ := h
  refine ⟨rs, hds, hnd, fun r hr => ?_⟩
  obtain ⟨hh, hθ, hβ, hX, hn⟩ := h r hr
  have hlt := heap_lt hh
  refine ⟨(V.frame r hlt hθ hβ hX (.inr (noC_deferred hh))).1.trans hh, fun hm => ?_, fun t ht => ?_, fun hx => (V.newX r hx).elim hX (fun hge => by omega), by rw [V.n0.1]; exact hn⟩
  · exact (V.newθ r hm).elim hθ (fun hge => by omega)
  · exact (V.newβ t r ht).elim (fun ⟨t', h'⟩ => hβ t' h') (fun hge => by omega)
structure Here (E : Env) (O : Outer E) (S : St) (w : World) (ω : O.Ω) (σ : Sto) (A : Fm) (a : Act) : Prop where
  rep : Rep E S w σ
  fr : RdF E.φ S w A a.tmps.toList
  marks : Marks S w a.defers
  out : O.J ω S w
def fence (ro : Option Nat) : Fence := { Fence.wide with round := ro }
theorem calls_fence {ro : Option Nat} {P : Program} {f : FuncId} {args : Array Value} {w : World} {R : Ending → World → Prop} (h : Calls P f args w R) : CallsIn (fence ro) 0 P f args w R :=
  (callsIn_wide (n := 0)).2 h
section
variable {E : Env} {O : Outer E} {S S' S0 : St} {w w' w0 : World} {A : Fm} {σ : Sto} {ω : O.Ω} {a : Act} {o : Oper} {ops : Array Oper} {ro : Option Nat} {Q : Exit → Act → World → Prop} {hs : List Nat}
theorem Here.did {A' : Fm} {σ' : Sto} (H : Here E O S w ω σ A a) (h : Did E S w a o A' σ') : ∃ nx u S' w', (execOp a.eval o).run E.P w = .ok nx w' ∧ (nx = .value u ∨ (nx = .skip ∧ u = undef)) ∧
    Here E O S' w' ω σ' A' (a.put o.dst u) ∧ Ev S w S' w' := by
  obtain ⟨nx, u, S', w', hr, hn, R, hF, V, hx⟩ := h
  refine ⟨nx, u, S', w', hr, hn, ⟨R, hF, ?_, O.stable H.out V.os hx.1 V.xv V.size hx.2 V.imm V.G R.Gnew⟩, V.weak⟩
  have : (a.put o.dst u).defers = a.defers := by cases o.dst <;> rfl
  rw [this]
  exact H.marks.ev V.weak
def quietOp (o : Oper) : Prop := ∀ c, o.op ≠ .defer c
theorem comp_quiet {op : AOp} (hc : compOp E.P E.ν hs ops o = some op) : quietOp o := by
  intro c h
  simp [compOp, h] at hc
theorem wp_did {A' : Fm} {σ' : Sto} {next : Act → World → Prop} (hq : quietOp o) (H : Here E O S w ω σ A a) (h : Did E S w a o A' σ')
    (hn : ∀ S' w' u, Here E O S' w' ω σ' A' (a.put o.dst u) → Ev S w S' w' → next (a.put o.dst u) w') : o.wpIn (fence ro) 0 E.P a w next Q := by
  obtain ⟨nx, u, S', w', hr, hnx, H', V⟩ := H.did h
  refine ⟨fun _ _ => trivial, ?_⟩
  rw [Oper.semAt_eq _ _ _ hq, hr]
  rcases hnx with rfl | ⟨rfl, rfl⟩
  · exact hn S' w' u H' V
  · exact hn S' w' undef H' V
def Recv (E : Env) (S : St) (w : World) (N : Nat) : AV → Value → Prop
  | .fresh sz es ep, v => RdOwn S w (fun b => N ≤ b ∧ ¬ S.X b) sz es ep v
  | .pk _, _ => False
  | r, v => RdA E.φ S w r v
theorem recv {S0 : St} {w0 : World} {u : Bool} {r : AV} {v : Value} (H : Here E O S w ω σ A a) (V : Ev S0 w0 S w) (hθ : ∀ b, b ∈ S.θ → b < w0.heap.size) (hβ : ∀ t b, S.β t = some b → b < w0.heap.size) (hn0 : S.n0 ≤ w0.heap.size)
    (hr : Recv E S w w0.heap.size r v) : ∃ S'', Here E O S'' w ω ((callEff u o.dst r).store σ o.dst) ((callEff u o.dst r).frame A σ o.dst) (a.put o.dst v) ∧ Ev S0 w0 S'' w := by
  have hmk : (a.put o.dst v).defers = a.defers := by cases o.dst <;> rfl
  generalize o.dst = dst at *
  have other : RdA E.φ S w r v → ∃ S'', Here E O S'' w ω σ (putA A dst r) (a.put dst v) ∧ Ev S0 w0 S'' w := fun hv =>
    ⟨S, ⟨H.rep, RdF_put H.fr hv, by rw [hmk]; exact H.marks, H.out⟩, V⟩
  cases r with
  | fresh sz es ep =>
    cases dst with
    | none => exact ⟨S, ⟨H.rep, RdF_put (dst := none) (v := .any) (u := v) H.fr trivial, by rw [hmk]; exact H.marks, H.out⟩, V⟩
    | some d =>
      simp only [callEff, Eff.store, Eff.frame]
      generalize 100 * d + 97 = tk
      rcases hr with hr | ⟨b, of, cap, vs, cs, T, ⟨hb, hbX⟩, rfl, hh, hcap, hcs, he, hg, hc, hrow⟩
      · have Kt : Keeps [tk] [] S w S w := ⟨⟨fun _ _ h => h, rfl, rfl, fun _ => Nat.le_refl _, Nat.le_refl _, .refl _ _, fun r b _ h => ⟨h, rfl, rfl⟩, fun _ _ h => h, fun _ _ => rfl⟩, fun b h1 h2 h3 h4 => ⟨⟨h1, h2, h3, h4⟩, rfl⟩⟩
        refine ⟨S, ⟨?_, RdF_put (RdF_keep Kt A _ H.fr) (.inl hr), by rw [hmk]; exact H.marks, H.out⟩, V⟩
        have R1 := H.rep
        refine ⟨by rw [demoteS_len]; exact R1.len, R1.nodup, ?_, R1.θlt, R1.θX, R1.βlt, R1.βown, R1.βinj, R1.Gnew, R1.E, R1.n0, R1.D, R1.X⟩
        intro id c x hc hx
        rw [demoteS_get, Option.map_eq_some_iff] at hx
        obtain ⟨y, hy, rfl⟩ := hx
        exact RepE_keep Kt rfl (R1.box id c y hc hy)
      · have hlt := heap_lt hh
        have hbθ : b ∉ S.θ := fun hm => by have := hθ b hm; omega
        have hbβ : ∀ t, S.β t ≠ some b := fun t ht => by have := hβ t b ht; omega
        let S2 : St := { S with β := setβ S.β (2 * tk) b }
        have hset : ∀ {u c}, S2.β u = some c → (u = 2 * tk ∧ c = b) ∨ S.β u = some c := by
          intro u c hc
          simp only [S2, setβ] at hc
          split at hc
          · simp only [Option.some.injEq] at hc
            exact .inl ⟨by assumption, hc.symm⟩
          · exact .inr hc
        have Kt : Keeps [tk] [] S w S2 w := ⟨⟨fun _ _ h => h, rfl, rfl, fun _ => Nat.le_refl _, Nat.le_refl _, .refl _ _, fun r c hr h => by
            have hne : r ≠ 2 * tk := fun e => by have := hr.1 tk e; simp [memN, natEq] at this
            exact ⟨by simp only [S2, setβ, hne, if_false]; exact h, rfl, rfl⟩, fun u _ h => by
            simp only [S2, setβ]
            rw [if_neg (by omega)]
            exact h, fun _ _ => rfl⟩, fun c h1 h2 h3 h4 => ⟨⟨h1, h2, h3, fun t ht => by
            rcases hset ht with ⟨_, rfl⟩ | h
            · omega
            · exact h4 t h⟩, rfl⟩⟩
        have R1 := H.rep
        have R2 : Rep E S2 w (demoteS [tk] σ) := by
          refine ⟨by rw [demoteS_len]; exact R1.len, R1.nodup, ?_, R1.θlt, R1.θX, ?_, ?_, ?_, R1.Gnew, R1.E, R1.n0, R1.D, fun c hX => ⟨(R1.X c hX).1, fun t ht => ?_⟩⟩
          · intro id c x hc hx
            rw [demoteS_get, Option.map_eq_some_iff] at hx
            obtain ⟨y, hy, rfl⟩ := hx
            exact RepE_keep Kt rfl (R1.box id c y hc hy)
          · intro t c ht
            rcases hset ht with ⟨_, rfl⟩ | h
            · exact ⟨hlt, .inl (Nat.le_trans hn0 hb), hbθ⟩
            · exact R1.βlt t c h
          · intro t c ht
            rcases hset ht with ⟨_, rfl⟩ | h
            · exact Nat.le_trans hn0 hb
            · exact R1.βown t c h
          · intro t t' c ht ht'
            rcases hset ht with ⟨h1, rfl⟩ | h <;> rcases hset ht' with ⟨h2, h3⟩ | h'
            · rw [h1, h2]
            · exact absurd h' (hbβ t')
            · exact absurd (h3 ▸ h) (hbβ t)
            · exact R1.βinj t t' c h h'
          · rcases hset ht with ⟨_, rfl⟩ | h
            · exact hbX hX
            · exact (R1.X c hX).2 t h
        refine ⟨S2, ⟨R2, RdF_put (RdF_keep Kt A _ H.fr) ?_, ?_, O.stable H.out (.refl _) rfl rfl (Nat.le_refl _) (fun _ _ _ => ⟨rfl, rfl⟩) (.refl _ _) (fun _ => Nat.le_refl _) R1.Gnew⟩, ?_⟩
        · exact .inr ⟨b, of, cap, vs, cs, T, by simp [S2, setβ], rfl, hh, hcap, hcs, he, hg, hc, hrow⟩
        · rw [hmk]
          obtain ⟨rs, hds, hnd, hm⟩ := H.marks
          refine ⟨rs, hds, hnd, fun r hr => ?_⟩
          obtain ⟨h1, h2, h3, h4⟩ := hm r hr
          exact ⟨h1, h2, fun t ht => by
            rcases hset ht with ⟨_, rfl⟩ | h
            · rw [h1] at hh; cases hh
            · exact h3 t h, h4⟩
        · exact ⟨V.θ, V.n0, V.X, V.E, V.xv, V.size, V.frame, V.G, V.imm, V.newθ, fun t c ht => by
            rcases hset ht with ⟨_, rfl⟩ | h
            · exact .inr hb
            · exact V.newβ t c h, V.newX, V.os⟩
  | pk r => exact hr.elim
  | _ =>
    simp only [callEff, Eff.store, Eff.frame]
    exact other hr
theorem exec_call {f : Operand} {args : Array Operand} {ts : Array TypeId} {fn : Fn} {x y : Array Value} (hop : o.op = .call { callee := .value f, args := args, argTypes := ts }) (hf : a.eval f = .func fn x y) :
    (execOp a.eval o).run E.P w = (invoke (.fn fn y) (x ++ args.map a.eval)).run E.P w := by
  simp [execOp, hop, resolve, hf, Deferred.ofValue]
theorem run_callFunc {k : Nat} {args : Array Value} (hb : Bodied E k) : (callFunc (E.φ k) args).run E.P w = .ok (.enter (E.φ k) args) w := by
  obtain ⟨fn, h1, h2, h3⟩ := hb
  have h4 : fn.body ≠ none := fun e => by rw [e] at h3; cases h3
  have h5 : ¬ fn.name = "runtime.NumGoroutine" := fun e => by simp [e] at h2
  simp [callFunc, go_sem, h1, h5, h4]
theorem inv_call {P : Program} {ν : FuncId → Option Nat} {u : Bool} {y : AO} {xs : List AO} (hc : compOp P ν hs ops o = some (.call u y xs)) :
    ∃ f args ts, o.op = .call { callee := .value f, args := args, argTypes := ts } ∧ opnd P ν 0 f = some y ∧ opndL P ν ts 0 args.toList = some xs := by
  unfold compOp at hc
  split at hc
  all_goals (repeat' split at hc)
  all_goals (simp only [Option.map_eq_some_iff, Option.bind_eq_some_iff, reduceCtorEq, and_false, exists_false, Option.some.injEq, AOp.call.injEq] at hc)
  rename_i f args ts hop _ _ _ _ h1 h2
  obtain ⟨_, rfl, rfl⟩ := hc
  exact ⟨f, args, ts, hop, h1, h2⟩
theorem args_sound {ts : Array TypeId} (hA : RdF E.φ S w A a.tmps.toList) : ∀ {i : Nat} {xs : List Operand} {ys : List AO}, opndL E.P E.ν ts i xs = some ys →
    RdF E.φ S w (evs A ys) (xs.map a.eval)
  | i, [], ys, h => by
    simp only [opndL, Option.some.injEq] at h
    subst h
    simp [evs, RdF]
  | i, x :: xs, ys, h => by
    simp only [opndL] at h
    split at h
    · rename_i y ys' h1 h2
      simp only [Option.some.injEq] at h
      subst h
      simp only [evs, List.map_cons]
      exact ⟨_, _, rfl, opnd_sound h1 hA, args_sound hA h2⟩
    · cases h
theorem RdN_F : ∀ {xs : List AV} {vs : List Value}, RdNs E.φ S w xs vs → RdF E.φ S w xs vs
  | [], _, h => h
  | x :: xs, vs, h => by
    simp only [RdNs] at h
    obtain ⟨v, rest, e, _, h1, h2⟩ := h
    exact ⟨v, rest, e, h1, RdN_F h2⟩
theorem RdF_app : ∀ {xs ys : Fm} {us vs : List Value}, RdF E.φ S w xs us → RdF E.φ S w ys vs → RdF E.φ S w (xs ++ ys) (us ++ vs)
  | [], _, _, _, h, h' => by rw [show _ = [] from h]; exact h'
  | x :: xs, ys, us, vs, h, h' => by
    obtain ⟨v, rest, rfl, h1, h2⟩ := h
    exact ⟨v, rest ++ vs, rfl, h1, RdF_app h2 h'⟩
theorem noUqs_app : ∀ {xs ys : List AV}, noUqs (xs ++ ys) = (noUqs xs && noUqs ys)
  | [], _ => rfl
  | x :: xs, ys => by
    simp only [List.cons_append, noUqs]
    cases noUqV x with
    | true => exact noUqs_app
    | false => rfl
theorem here_after {ids : List Nat} {raise : Bool} {X : Nat → Prop} {σ1 : Sto} {r : AV} {v : Value} {ω' : O.Ω} (H : Here E O S w ω σ A a) (F : Frz S w ids raise X σ) (hnd : ids.Nodup) (hL : Left E (callee S w ids raise X) w S' w' σ1 r v)
    (hsee : ids = [] ∨ Sees0 S' (after S S')) (hJ : O.J ω' (after S S') w') : Here E O (after S S') w' ω' (backS ids σ ids σ1) A a ∧ Ev S w (after S S') w' := by
  obtain ⟨K, V, _⟩ := moves_call H.rep F hL.ev
  have R := rep_call H.rep F hnd hL.ev hL.θ hL.rep hL.clean hsee
  refine ⟨⟨R, ?_, H.marks.ev V, hJ⟩, V⟩
  have := RdF_keep K A _ H.fr
  rwa [demoteA_nil] at this
theorem recv_solid {r : AV} {v : Value} (hres : Res E S' w' r v) (hE : S'.E = w.heap.size) (hn : S'.n0 = w.heap.size) (hX : ∀ b, S.X b → b < w.heap.size) (V : Sees0 S' (after S S')) (hodd : ∀ t b, S.β (2 * t + 1) = some b → b < w.heap.size) : Recv E (after S S') w' w.heap.size (upV r) v := by
  have gen : solid r = true → RdA E.φ S' w' r v → Recv E (after S S') w' w.heap.size (upV r) v := by
    intro h1 h2
    have h3 := solid_sees V r v h1 h2
    cases r <;> first
      | exact h3
      | (simp [solid] at h1; done)
  cases r with
  | fresh sz es ep =>
    simp only [Res] at hres
    simp only [upV, Recv]
    rcases hres with ⟨hp, hd⟩ | ⟨b, o', cap, vs, cs, T, ⟨hb, hbX⟩, e, hh, hcap, hsz, he, hg, hv, hr⟩
    · exact .inl ⟨hp, V.d hd⟩
    · rw [hn] at hb
      refine .inr ⟨b, o', cap, vs, cs, T, ⟨hb, fun h => h.elim (fun h => by have := hX b h; omega) hbX⟩, e, hh, hcap, hsz, epB_up V.E ep b he, ?_, hv, RdRow_mono ⟨.refl _ _, V.G, Nat.le_refl _, fun b _ hb => epB_up V.E ep b hb⟩ _ _ _ hr⟩
      simp only [after]
      rw [if_neg (fun ⟨t, ht⟩ => by have := hodd t b ht; omega)]
      exact hg
  | _ => exact gen hres.1 hres.2
theorem RdNs_append {φ S w} : ∀ {xs ys : List AV} {us vs : List Value}, RdNs φ S w xs us → RdNs φ S w ys vs → RdNs φ S w (xs ++ ys) (us ++ vs)
  | [], ys, us, vs, h, h' => by simp only [RdNs] at h; subst h; exact h'
  | x :: xs, ys, us, vs, h, h' => by
    simp only [RdNs] at h
    obtain ⟨v, rest, rfl, hn, h1, h2⟩ := h
    simp only [List.cons_append, RdNs]
    exact ⟨v, rest ++ vs, rfl, hn, h1, RdNs_append h2 h'⟩
theorem epNew_on {ep : Ep} {E0 : Nat} (h : epNew ep = true) (b : Nat) (hb : epB E0 ep b) : E0 ≤ b := by
  cases ep <;> first
    | exact hb.elim
    | exact hb
    | cases h
mutual
theorem newish_sees {w : World} (hE : S'.E ≤ S.E) (hG : ∀ b, S.E ≤ b → S'.G b = S.G b) : ∀ (x : AV) (v : Value), newish x = true → solid x = true → RdA E.φ S w x v → RdA E.φ S' w (upV x) v
  | .any, _, _, _, _ => trivial
  | .d ep x, v, hx, _, h => by
    simp only [newish] at hx
    exact RdD_on (fun b hb => ⟨by rw [hG b (epNew_on hx b hb)]; exact Nat.le_refl _, epB_up hE ep b hb⟩) x v h
  | .at _ _ _, _, hx, _, _ => by simp [newish] at hx
  | .agg cs, v, hx, hs, h => by
    simp only [newish] at hx
    simp only [solid] at hs
    simp only [RdA, upV] at h ⊢
    obtain ⟨vs, e, h⟩ := h
    exact ⟨vs, e, newishAs_sees hE hG cs vs hx hs h⟩
  | .tup cs, v, hx, hs, h => by
    simp only [newish] at hx
    simp only [solid] at hs
    simp only [RdA, upV] at h ⊢
    obtain ⟨vs, e, h⟩ := h
    exact ⟨vs, e, newishNs_sees hE hG cs vs hx hs h⟩
  | .cmd _ _, _, hx, _, _ => by simp [newish] at hx
  | .cb _ _, _, hx, _, _ => by simp [newish] at hx
  | .fb _ _, _, hx, _, _ => by simp [newish] at hx
  | .sb _ _ _, _, hx, _, _ => by simp [newish] at hx
  | .cm _ _, _, hx, _, _ => by simp [newish] at hx
  | .fn _ _ _, _, hx, _, _ => by simp [newish] at hx
  | .ext _, _, hx, _, _ => by simp [newish] at hx
  | .own _ _ _ _, _, _, hs, _ => by simp [solid] at hs
  | .uq _ _ _ _, _, _, hs, _ => by simp [solid] at hs
  | .up _ _ _ _ _ _, _, _, hs, _ => by simp [solid] at hs
  | .fresh _ _ _, _, _, hs, _ => by simp [solid] at hs
  | .pk _, _, _, hs, _ => by simp [solid] at hs
  | .mp _, _, _, hs, _ => by simp [solid] at hs
  | .ptr _ _, _, _, hs, _ => by simp [solid] at hs
theorem newishAs_sees {w : World} (hE : S'.E ≤ S.E) (hG : ∀ b, S.E ≤ b → S'.G b = S.G b) : ∀ (xs : List AV) (vs : List Value), newishL xs = true → solidL xs = true → RdAs E.φ S w xs vs → RdAs E.φ S' w (upL xs) vs
  | [], vs, _, _, h => by simp only [RdAs, upL] at h ⊢; exact h
  | x :: xs, vs, hx, hs, h => by
    simp only [newishL, Bool.and_eq_true] at hx
    simp only [solidL, Bool.and_eq_true] at hs
    simp only [RdAs, upL] at h ⊢
    obtain ⟨v, rest, e, hn, h1, h2⟩ := h
    exact ⟨v, rest, e, notAgg_up x hn, newish_sees hE hG x v hx.1 hs.1 h1, newishAs_sees hE hG xs rest hx.2 hs.2 h2⟩
theorem newishNs_sees {w : World} (hE : S'.E ≤ S.E) (hG : ∀ b, S.E ≤ b → S'.G b = S.G b) : ∀ (xs : List AV) (vs : List Value), newishL xs = true → solidL xs = true → RdNs E.φ S w xs vs → RdNs E.φ S' w (upL xs) vs
  | [], vs, _, _, h => by simp only [RdNs, upL] at h ⊢; exact h
  | x :: xs, vs, hx, hs, h => by
    simp only [newishL, Bool.and_eq_true] at hx
    simp only [solidL, Bool.and_eq_true] at hs
    simp only [RdNs, upL] at h ⊢
    obtain ⟨v, rest, e, hn, h1, h2⟩ := h
    exact ⟨v, rest, e, noOwn_up x hn, newish_sees hE hG x v hx.1 hs.1 h1, newishNs_sees hE hG xs rest hx.2 hs.2 h2⟩
end
end
end Go.Ly
end
section
namespace Go.Ly
open Classical
section
variable {E : Env} {O : Outer E} {S S' S0 : St} {w w' w0 : World} {A : Fm} {σ : Sto} {ω : O.Ω} {a : Act} {o : Oper} {ops : Array Oper} {ro : Option Nat} {Q : Exit → Act → World → Prop}
theorem sees0_after {ids : List Nat} {X : Nat → Prop} (R : Rep E S w σ) (F : Frz S w ids false X σ) (V : Ev (callee S w ids false X) w S' w') : Sees0 S' (after S S') := by
  refine ⟨?_, V.xv.symm, fun b => ?_⟩
  · have : S'.E = w.heap.size := V.E
    rw [this]
    exact R.E
  · simp only [after]
    split
    · rename_i h
      obtain ⟨t, ht⟩ := h
      have hlt := (R.βlt _ b ht).1
      have hθ : b ∉ (callee S w ids false X).θ := fun hm => by
        obtain ⟨id, _, hid⟩ := callee_θ F.lt hm
        exact (R.βlt _ b ht).2.2 (List.mem_of_getElem? hid)
      have := (V.frame b hlt hθ (fun t => by simp [callee]) (fun hX => (R.X b (F.X b hX)).2 _ ht) (.inl hlt)).2
      rw [this]
      exact Nat.le_refl _
    · exact Nat.le_refl _
theorem stable_after {ids : List Nat} {raise : Bool} {σ1 : Sto} {r : AV} {v : Value} (H : Here E O S w ω σ A a) (F : Frz S w ids raise (fun _ => False) σ) (hnd : ids.Nodup) (hL : Left E (callee S w ids raise fun _ => False) w S' w' σ1 r v)
    (hsee : ids = [] ∨ Sees0 S' (after S S')) (hX0 : ∀ b, ¬ S'.X b) : O.J ω (after S S') w' := by
  obtain ⟨K, V, fr⟩ := moves_call H.rep F hL.ev
  have R := rep_call H.rep F hnd hL.ev hL.θ hL.rep hL.clean hsee
  have hXe : (after S S').X = S.X := funext fun b => propext ⟨fun h => h.elim id (fun h => absurd h (hX0 b)), .inl⟩
  refine O.stable H.out hL.ev.os hXe rfl V.size (fun b hb hX => fr b hb (fun hm => ?_) (fun h => h)) K.imm K.G R.Gnew
  obtain ⟨id, _, hid⟩ := callee_θ F.lt hm
  exact H.rep.θX b (List.mem_of_getElem? hid) hX
theorem bounds (R : Rep E S w σ) : (∀ b, b ∈ S.θ → b < w.heap.size) ∧ (∀ t b, S.β t = some b → b < w.heap.size) ∧ (∀ b, S.X b → b < w.heap.size) :=
  ⟨fun b hb => (R.θlt b hb).1, fun t b hb => (R.βlt t b hb).1, fun b hb => (R.X b hb).1⟩
theorem idsOk_sound {ids : List Nat} (R : Rep E S w σ) (h : idsOk ids σ = true) : ids.Nodup ∧ ∀ x ∈ ids, x < S.θ.length := by
  simp only [idsOk, Bool.and_eq_true] at h
  refine ⟨nodupN_iff h.1, fun x hx => ?_⟩
  rw [R.len, ← lenS_eq]
  exact ltAll_iff h.2 x hx
theorem moves_gturn (R : Rep E S w σ) {t b : Nat} {o : Obj} (hb : S.β (2 * t + 1) = some b) (hG : S.G b = 0) (ht : GTurn w w' b o) : Moves [] [t] S w S w' := by
  have imm : Imm All w S.G w' := by
    refine ⟨fun c i v _ hi hc => ?_, fun c es k _ hi hc => ?_⟩
    · have hne : c ≠ b := fun e => by subst e; rw [hG] at hi; omega
      have hlt : c < w.heap.size := by
        rcases Nat.lt_or_ge c w.heap.size with h | h
        · exact h
        · simp [World.cell?, Array.getElem?_eq_none h] at hc
      simp only [World.cell?, ht.rest c hlt hne] at hc ⊢
      exact hc
    · have hne : c ≠ b := fun e => by subst e; rw [hG] at hi; omega
      rw [ht.rest c (heap_lt hc) hne]
      exact hc
  refine ⟨⟨fun _ _ h => h, rfl, rfl, fun _ => Nat.le_refl _, ht.size, imm, ?_, fun _ _ h => h, fun _ _ => rfl⟩,
    ⟨fun _ _ h => h, ⟨rfl, rfl, rfl⟩, fun _ h => h, rfl, rfl, ht.size, ?_, fun _ => Nat.le_refl _, imm, fun _ h => .inl h, fun t _ h => .inl ⟨t, h⟩, fun _ h => .inl h, ht.os⟩, R.n0, rfl, fun c hlt hX => ?_⟩
  · intro u c hu hc
    have hne : c ≠ b := fun e => by
      subst e
      have := R.βinj u _ c hc hb
      exact mem_one (hu.2 t this) rfl
    exact ⟨hc, rfl, ht.rest c (R.βlt u c hc).1 hne⟩
  · intro c hlt _ hβ _
    exact ⟨ht.rest c hlt fun e => hβ _ (e ▸ hb), rfl⟩
  · exact ⟨ht.rest c hlt fun e => by subst e; exact (R.X c hX).2 _ hb, rfl⟩
theorem wp_call {f : Operand} {args_ : Array Operand} {ts : Array TypeId} {y : AO} {xs : List AO} {u : Bool} {K : AV → Ups → Sto → O.Ω → Prop} {next : Act → World → Prop}
    (hop : o.op = .call { callee := .value f, args := args_, argTypes := ts }) (hf : opnd E.P E.ν 0 f = some y) (hx : opndL E.P E.ν ts 0 args_.toList = some xs)
    (H : Here E O S w ω σ A a) (h : callA E O (y.ev A) (evs A xs) σ ω K)
    (hn : ∀ S' w' v r us σ' ω', K r us σ' ω' → Here E O S' w' ω' ((callEff u o.dst r).store (upsS us σ') o.dst) ((callEff u o.dst r).frame (upsF us A) (upsS us σ') o.dst) (a.put o.dst v) → Ev S w S' w' → next (a.put o.dst v) w') :
    o.wpIn (fence ro) 0 E.P a w next Q := by
  have hq : quietOp o := fun c h => by rw [hop] at h; cases h
  have hF := opnd_sound hf H.fr
  have hargs := args_sound H.fr hx
  refine ⟨fun _ _ => trivial, ?_⟩
  rw [Oper.semAt_eq _ _ _ hq]
  generalize y.ev A = fv at *
  generalize evs A xs = xs at *
  obtain ⟨bθ, bβ, bX⟩ := bounds H.rep
  have enter : ∀ k va vc, a.eval f = .func (.func (E.φ k)) ⟨va⟩ ⟨vc⟩ → Bodied E k →
      (execOp a.eval o).run E.P w = .ok (.enter (E.φ k) ⟨va ++ (args_.toList.map a.eval ++ vc)⟩) w := by
    intro k va vc hfe hb
    rw [exec_call hop hfe]
    simp only [invoke]
    rw [run_callFunc hb]
    congr 2
    apply Array.ext'
    simp
  have all : ∀ k first cap, fv = .fn k first cap → ∃ va vc : List Value, a.eval f = .func (.func (E.φ k)) ⟨va⟩ ⟨vc⟩ ∧ RdF E.φ S w (appendL first (appendL xs cap)) (va ++ (args_.toList.map a.eval ++ vc)) := by
    rintro k first cap rfl
    simp only [RdA] at hF
    obtain ⟨va, vc, hfe, h1, h2⟩ := hF
    refine ⟨va, vc, hfe, ?_⟩
    rw [appendL_eq, appendL_eq]
    exact RdF_app (RdN_F h1) (RdF_app hargs (RdN_F h2))
  cases h with
  | @pure k first cap _ _ _ _ r h hu hK =>
    obtain ⟨va, vc, hfe, hall⟩ := all k first cap rfl
    obtain ⟨hb, hc⟩ := h
    rw [enter k va vc hfe hb]
    rw [Bool.or_eq_true] at hu
    by_cases hno : noUqs (appendL first (appendL xs cap)) = true
    · have F : Frz S w [] false (fun _ => False) σ := ⟨fun _ h => h.elim, fun x hx => by cases hx⟩
      have hbeg := begins_callee H.rep F List.nodup_nil (.inr hno) hall
      refine ⟨(fun h => by cases h), (calls_fence (ro := ro) (hc _ w _ hbeg ⟨fun _ h => h, (O.glob H.out).mono (.refl _) (.refl _ _) fun b => raise_ge b⟩)).mono ?_⟩
      rintro e w1 ⟨v, r', σ1, _, S1, rfl, rfl, hJ0, hL⟩
      have V0 := sees0_after H.rep F hL.ev
      obtain ⟨H2, V2⟩ := here_after H F List.nodup_nil hL (.inl rfl) (stable_after H F List.nodup_nil hL (.inl rfl) hJ0.1)
      obtain ⟨S3, H3, V3⟩ := recv (u := u) H2 V2 bθ bβ H.rep.n0 (recv_solid (S := S) hL.res hL.ev.E hL.ev.n0.1 bX V0 fun t b hb => bβ _ b hb)
      exact hn S3 w1 v _ [] σ ω hK (by cases σ1 <;> exact H3) V3
    · have hnew : newish r = true := hu.resolve_left hno
      have F : Frz S w [] true (fun _ => False) σ := ⟨fun _ h => h.elim, fun x hx => by cases hx⟩
      have hbeg := begins_callee H.rep F List.nodup_nil (.inl rfl) hall
      refine ⟨(fun h => by cases h), (calls_fence (ro := ro) (hc _ w _ hbeg ⟨fun _ h => h, (O.glob H.out).mono (.refl _) (.refl _ _) fun b => raise_ge b⟩)).mono ?_⟩
      rintro e w1 ⟨v, r', σ1, _, S1, rfl, rfl, hJ0, hL⟩
      obtain ⟨H2, V2⟩ := here_after H F List.nodup_nil hL (.inl rfl) (stable_after H F List.nodup_nil hL (.inl rfl) hJ0.1)
      have hE1 : S1.E = w.heap.size := hL.ev.E
      have hG1 : ∀ b, S1.E ≤ b → (after S S1).G b = S1.G b := fun b hb => by
        simp only [after]
        rw [if_neg (fun ⟨t, ht⟩ => by have := bβ _ b ht; omega)]
      have hEE : (after S S1).E ≤ S1.E := by rw [hE1]; exact H.rep.E
      have hrecv : Recv E (after S S1) w1 w.heap.size (upV r') v := by
        have gen : solid r' = true → RdA E.φ S1 w1 r' v → Recv E (after S S1) w1 w.heap.size (upV r') v := by
          intro h1 h2
          have h3 := newish_sees hEE hG1 r' v hnew h1 h2
          cases r' <;> first
            | exact h3
            | (simp [solid] at h1; done)
        have hres := hL.res
        cases r' with
        | fresh sz es ep =>
          simp only [newish] at hnew
          simp only [Res] at hres
          simp only [upV, Recv]
          have mono : ∀ b, epB S1.E ep b → S1.G b ≤ (after S S1).G b ∧ epB (after S S1).E ep.up b := fun b hb => ⟨by rw [hG1 b (epNew_on hnew b hb)]; exact Nat.le_refl _, epB_up hEE ep b hb⟩
          rcases hres with ⟨hp, hd⟩ | ⟨b, o', cap, vs, cs, T, ⟨hb, hbX⟩, e, hh, hcap, hsz, he, hg, hv, hr⟩
          · exact .inl ⟨hp, RdD_on mono _ _ hd⟩
          · rw [hL.ev.n0.1] at hb
            have hb : w.heap.size ≤ b := hb
            refine .inr ⟨b, o', cap, vs, cs, T, ⟨hb, fun h => h.elim (fun h => by have := bX b h; omega) hbX⟩, e, hh, hcap, hsz, epB_up hEE ep b he, ?_, hv, RdRow_on mono _ _ _ hr⟩
            rw [hG1 b (by omega)]
            exact hg
        | _ => exact gen hres.1 hres.2
      obtain ⟨S3, H3, V3⟩ := recv (u := u) H2 V2 bθ bβ H.rep.n0 hrecv
      exact hn S3 w1 v _ [] σ ω hK (by cases σ1 <;> exact H3) V3
  | @pureN k first cap _ _ _ _ r h hno hK =>
    obtain ⟨va, vc, hfe, hall⟩ := all k first cap rfl
    obtain ⟨hb, hc⟩ := h
    rw [enter k va vc hfe hb]
    have F : Frz S w [] false (fun _ => False) σ := ⟨fun _ h => h.elim, fun x hx => by cases hx⟩
    have hbeg := begins_calleeN H.rep F List.nodup_nil (.inr hno) hall
    refine ⟨(fun h => by cases h), (calls_fence (ro := ro) (hc _ w _ hbeg ⟨fun _ h => h, (O.glob H.out).mono (.refl _) (.refl _ _) fun b => raise_ge b⟩)).mono ?_⟩
    rintro e w1 ⟨v, r', σ1, _, S1, rfl, rfl, hJ0, hL⟩
    have V0 := sees0_after H.rep F hL.ev
    obtain ⟨H2, V2⟩ := here_after H F List.nodup_nil hL (.inl rfl) (stable_after H F List.nodup_nil hL (.inl rfl) hJ0.1)
    obtain ⟨S3, H3, V3⟩ := recv (u := u) H2 V2 bθ bβ H.rep.n0 (recv_solid (S := S) hL.res hL.ev.E hL.ev.n0.1 bX V0 fun t b hb => bβ _ b hb)
    exact hn S3 w1 v _ [] σ ω hK (by cases σ1 <;> exact H3) V3
  | @alone k first cap _ _ _ _ ids hi hu h =>
    obtain ⟨va, vc, hfe, hall⟩ := all k first cap rfl
    obtain ⟨hb, hc⟩ := h
    rw [enter k va vc hfe hb]
    obtain ⟨hnd, hlt⟩ := idsOk_sound H.rep hi
    have F : Frz S w ids false (fun _ => False) σ := ⟨fun _ h => h.elim, hlt⟩
    have hbeg := begins_callee H.rep F hnd (.inr hu) hall
    refine ⟨(fun h => by cases h), (calls_fence (ro := ro) (hc _ w _ hbeg ⟨fun _ h => h, (O.glob H.out).mono (.refl _) (.refl _ _) fun b => raise_ge b⟩)).mono ?_⟩
    rintro e w1 ⟨v, r, σ1, _, S1, rfl, hK, hJ0, hL⟩
    have V0 := sees0_after H.rep F hL.ev
    obtain ⟨H2, V2⟩ := here_after H F hnd hL (.inr V0) (stable_after H F hnd hL (.inr V0) hJ0.1)
    obtain ⟨S3, H3, V3⟩ := recv (u := u) H2 V2 bθ bβ H.rep.n0 (recv_solid (S := S) hL.res hL.ev.E hL.ev.n0.1 bX V0 fun t b hb => bβ _ b hb)
    exact hn S3 w1 v _ [] _ ω hK H3 V3
  | @outer k first cap _ _ _ _ ids hi hu h =>
    obtain ⟨va, vc, hfe, hall⟩ := all k first cap rfl
    obtain ⟨hb, hc⟩ := h
    rw [enter k va vc hfe hb]
    obtain ⟨hnd, hlt⟩ := idsOk_sound H.rep hi
    have F : Frz S w ids false S.X σ := ⟨fun _ h => h, hlt⟩
    have hbeg := begins_callee H.rep F hnd (.inr hu) hall
    have hJ : O.J ω (callee S w ids false S.X) w := O.stable H.out (.refl _) rfl rfl (Nat.le_refl _) (fun _ _ _ => ⟨rfl, rfl⟩) (.refl _ _) (fun _ => Nat.le_refl _) H.rep.Gnew
    refine ⟨(fun h => by cases h), (calls_fence (ro := ro) (hc _ w _ hbeg hJ)).mono ?_⟩
    rintro e w1 ⟨v, r, σ1, ω', S1, rfl, hK, hJ1, hL⟩
    have V0 := sees0_after H.rep F hL.ev
    have hX1 : (after S S1).X = S1.X := funext fun b => propext ⟨fun h => h.elim (hL.ev.X b) id, .inr⟩
    have hnodd : ∀ b, S1.X b → ¬ ∃ t, S.β (2 * t + 1) = some b := fun b hX ⟨t, ht⟩ => by
      rcases hL.ev.newX b hX with h | h
      · exact (H.rep.X b h).2 _ ht
      · have := bβ _ b ht; omega
    have hJ2 : O.J ω' (after S S1) w1 := by
      refine O.stable hJ1 (.refl _) hX1 hL.ev.xv.symm (Nat.le_refl _) (fun b _ hX => ⟨rfl, ?_⟩) (.refl _ _) V0.G (rep_call H.rep F hnd hL.ev hL.θ hL.rep hL.clean (.inr V0)).Gnew
      simp only [after]
      rw [if_neg (hnodd b hX)]
    obtain ⟨H2, V2⟩ := here_after H F hnd hL (.inr V0) hJ2
    obtain ⟨S3, H3, V3⟩ := recv (u := u) H2 V2 bθ bβ H.rep.n0 (recv_solid (S := S) hL.res hL.ev.E hL.ev.n0.1 bX V0 fun t b hb => bβ _ b hb)
    exact hn S3 w1 v _ [] _ ω' hK H3 V3
  | @ext i _ _ _ _ hu h =>
    simp only [RdA] at hF
    obtain ⟨hxv, fn0, x0, y0, hfe⟩ := hF
    have F : Frz S w [] false S.X σ := ⟨fun _ h => h, fun x hx => by cases hx⟩
    have hbeg := begins_callee H.rep F List.nodup_nil (.inr hu) hargs
    have hJ : O.J ω (callee S w [] false S.X) w := O.stable H.out (.refl _) rfl rfl (Nat.le_refl _) (fun _ _ _ => ⟨rfl, rfl⟩) (.refl _ _) (fun _ => Nat.le_refl _) H.rep.Gnew
    have fin : ∀ e w1, (∃ u r ω' S', e = Ending.returned u ∧ K (upV r) [] σ ω' ∧ O.J ω' S' w1 ∧ Left E (callee S w [] false S.X) w S' w1 [] r u) →
        (match e, w1 with | .returned v, w'' => next (a.put o.dst v) w'' | .panicked chain, w'' => Q (.panic chain) a w'' | .outgrown, _ => LetsOut Q) := by
      rintro e w1 ⟨v, r, ω', S1, rfl, hK, hJ1, hL⟩
      have V0 := sees0_after H.rep F hL.ev
      have hX1 : (after S S1).X = S1.X := funext fun b => propext ⟨fun h => h.elim (hL.ev.X b) id, .inr⟩
      have hnodd : ∀ b, S1.X b → ¬ ∃ t, S.β (2 * t + 1) = some b := fun b hX ⟨t, ht⟩ => by
        rcases hL.ev.newX b hX with h | h
        · exact (H.rep.X b h).2 _ ht
        · have := bβ _ b ht; omega
      have hJ2 : O.J ω' (after S S1) w1 := by
        refine O.stable hJ1 (.refl _) hX1 hL.ev.xv.symm (Nat.le_refl _) (fun b _ hX => ⟨rfl, ?_⟩) (.refl _ _) V0.G (rep_call H.rep F List.nodup_nil hL.ev hL.θ hL.rep hL.clean (.inr V0)).Gnew
        simp only [after]
        rw [if_neg (hnodd b hX)]
      obtain ⟨H2, V2⟩ := here_after H F List.nodup_nil hL (.inr V0) hJ2
      obtain ⟨S3, H3, V3⟩ := recv (u := u) H2 V2 bθ bβ H.rep.n0 (recv_solid (S := S) hL.res hL.ev.E hL.ev.n0.1 bX V0 fun t b hb => bβ _ b hb)
      exact hn S3 w1 v _ [] σ ω' hK H3 V3
    have hxv' : (callee S w [] false S.X).xv[i]? = some (a.eval f) := hxv
    obtain ⟨fn, x, y', hfe', hinv⟩ := O.sound h hJ hbeg hxv'
    rw [exec_call hop hfe']
    have hmk : args_.map a.eval = ⟨args_.toList.map a.eval⟩ := map_mk _ _
    rw [hmk]
    rcases hinv with ⟨g, gargs, hr, hc⟩ | ⟨l, g, tmps, asg, body, hr, hc⟩
    · rw [hr]
      exact ⟨(fun h => by cases h), (calls_fence (ro := ro) hc).mono fun e w1 h => fin e w1 h⟩
    · rw [hr]
      exact ⟨(fun h => by cases h), RoundIn.mono (F := fence ro) hc fun e w1 h => fin e w1 h⟩
  | @inpl k _ _ _ t sz es ep es' h hK =>
    obtain ⟨va, vc, hfe, hall⟩ := all k [] [] rfl
    simp only [RdA, RdNs] at hF
    obtain ⟨va', vc', hfe', h1, h2⟩ := hF
    rw [hfe] at hfe'
    simp only [Value.func.injEq, Array.mk.injEq, true_and] at hfe'
    obtain ⟨rfl, rfl⟩ := hfe'
    subst h1
    subst h2
    obtain ⟨hb, hlen, hnil, hc⟩ := h
    rw [enter k [] [] hfe hb]
    simp only [RdF] at hargs
    obtain ⟨v, rest, hv, hq0, hrest⟩ := hargs
    subst hrest
    rw [hv]
    simp only [RdA] at hq0
    have hmk : (a.put o.dst (.tuple #[])).defers = a.defers := by cases o.dst <;> rfl
    refine ⟨(fun h => by cases h), ?_⟩
    simp only [List.nil_append, List.append_nil]
    rcases hq0 with ⟨hβ, rfl, rfl⟩ | ⟨b, vs, cs, T, hβ, rfl, hl, hh, hcap, hcs, he, hG, hcv, hr⟩
    · have hes' : es' = [] := List.length_eq_zero_iff.1 hlen
      subst hes'
      refine (calls_fence (ro := ro) (hnil rfl w)).mono ?_
      rintro e w1 ⟨rfl, rfl⟩
      have K0 : Keeps [] [t] S w1 S w1 := ⟨⟨fun _ _ h => h, rfl, rfl, fun _ => Nat.le_refl _, Nat.le_refl _, .refl _ _, fun _ _ _ h => ⟨h, rfl, rfl⟩, fun _ _ h => h, fun _ _ => rfl⟩, fun _ h1 h2 h3 h4 => ⟨⟨h1, h2, h3, h4⟩, rfl⟩⟩
      have hnew : ∀ sz1 es1 ep1 v, RdUq S w1 t sz1 es1 ep1 v → RdUq S w1 t sz [] ep v := by
        intro sz1 es1 ep1 v h
        rcases h with ⟨h, _, h'⟩ | ⟨b', _, _, _, h, _⟩
        · exact .inl ⟨h, rfl, h'⟩
        · rw [hβ] at h; cases h
      refine hn S w1 _ _ _ _ _ hK ⟨?_, RdF_put (updF_sound K0 hnew H.fr) ⟨[], rfl, rfl⟩, by rw [hmk]; exact H.marks, H.out⟩ (.refl _ _)
      have R := H.rep
      refine ⟨by simp only [callEff, Eff.store, upsS]; rw [updS_len]; exact R.len, R.nodup, ?_, R.θlt, R.θX, R.βlt, R.βown, R.βinj, R.Gnew, R.E, R.n0, R.D, R.X⟩
      intro id c x hc hx
      simp only [callEff, Eff.store, upsS] at hx
      rw [updS_get, Option.map_eq_some_iff] at hx
      obtain ⟨y, hy, rfl⟩ := hx
      exact updE_sound K0 hnew rfl (R.box id c y hc hy)
    · rw [← hl]
      refine (calls_fence (ro := ro) (hc w b _ cs T vs S.G _ hh hcv hr hG)).mono ?_
      rintro e w1 ⟨rfl, cs', vs', hsz, ht, hcv', hr'⟩
      have R := H.rep
      have hm := moves_gturn R hβ hG ht
      have hnew : ∀ sz1 es1 ep1 v, RdUq S w t sz1 es1 ep1 v → RdUq S w1 t sz es' ep v := by
        intro sz1 es1 ep1 v h
        rcases h with ⟨h, _⟩ | ⟨b', _, _, _, h, hv, _⟩
        · rw [hβ] at h; cases h
        · rw [hβ] at h; cases h
          exact .inr ⟨b, vs', cs', T, hβ, hv, by omega, ht.here, hcap, by omega, he, hG, hcv', hr'⟩
      have hθ := (R.βlt _ b hβ).2.2
      refine hn S w1 _ _ _ _ _ hK ⟨?_, RdF_put (updF_sound hm.keeps hnew H.fr) ⟨[], rfl, rfl⟩, by rw [hmk]; exact H.marks.ev hm.ev.weak, ?_⟩ hm.ev.weak
      · refine ⟨by simp only [callEff, Eff.store, upsS]; rw [updS_len]; exact R.len, R.nodup, ?_, fun c hc => ⟨Nat.lt_of_lt_of_le (R.θlt c hc).1 ht.size, (R.θlt c hc).2⟩, R.θX, fun u c hc => ⟨Nat.lt_of_lt_of_le (R.βlt u c hc).1 ht.size, (R.βlt u c hc).2⟩, R.βown, R.βinj,
          fun c hc => R.Gnew c (Nat.le_trans ht.size hc), Nat.le_trans R.E ht.size, Nat.le_trans R.n0 ht.size, R.D, fun b hb => ⟨Nat.lt_of_lt_of_le (R.X b hb).1 ht.size, (R.X b hb).2⟩⟩
        intro id c x hc hx
        simp only [callEff, Eff.store, upsS] at hx
        rw [updS_get, Option.map_eq_some_iff] at hx
        obtain ⟨y, hy, rfl⟩ := hx
        have hmem := List.mem_of_getElem? hc
        have hne : c ≠ b := fun e => hθ (e ▸ hmem)
        exact updE_sound hm.keeps hnew (ht.rest c (R.θlt c hmem).1 hne) (R.box id c y hc hy)
      · exact O.stable H.out hm.ev.os rfl rfl ht.size (fun c hlt hX => ⟨ht.rest c hlt fun e => by subst e; exact (R.X c hX).2 _ hβ, rfl⟩) hm.keeps.imm hm.keeps.G fun c hc => R.Gnew c (Nat.le_trans ht.size hc)
end
end Go.Ly
end
section
namespace Go.Ly
inductive All2 {α β : Type} (R : α → β → Prop) : List α → List β → Prop
  | nil : All2 R [] []
  | cons {x y l l'} (h : R x y) (hl : All2 R l l') : All2 R (x :: l) (y :: l')
section
variable {E : Env} {O : Outer E} {S S' : St} {w w' : World} {A : Fm} {σ : Sto} {ω : O.Ω} {a : Act} {o : Oper} {ops : Array Oper} {ro : Option Nat} {Q : Exit → Act → World → Prop} {hs : List Nat}
theorem g_ia {t e : TypeId} {x i : Operand} {x' i' : AO} {n : Nat} {ep ep' : Ep} {es : List D} {j : Int} {el : D} (hop : o.op = .indexAddr t x i) (hu : E.P.underlying t = some (.slice e))
    (hs : sizeT E.P e = some (n + 1)) (hx : opnd E.P E.ν t x = some x') (hi : opnd E.P E.ν 0 i = some i') (hA : RdF E.φ S w A a.tmps.toList)
    (hX : rowOf (x'.ev A) = some (ep, n + 1, es)) (hI : i'.ev A = .d ep' (.int .i64 j)) (hg : std.dget es j = some el) : Gives E S w a o (.at ep el 0) := by
  have rX := rowOf_sound (opnd_sound hx hA) hX
  have rI := opnd_sound hi hA
  rw [hI] at rI
  have hI' : a.eval i = .int .i64 j := rI
  simp only [std] at hg
  split at hg
  · rename_i h0
    have hlt : j.toNat < es.length := by
      rcases Nat.lt_or_ge j.toNat es.length with h' | h'
      · exact h'
      · rw [List.getElem?_eq_none h'] at hg; cases hg
    simp only [RdA, RdD] at rX
    rcases rX with ⟨⟨p, cap, _⟩, rfl⟩ | ⟨b, of, cap, vs, hv, hcap, hB, hG, hc, hr⟩
    · simp at hlt
    · obtain ⟨_, r2⟩ := RdRow_split es vs j.toNat hr (by omega)
      have hd : es.drop j.toNat = el :: es.drop (j.toNat + 1) := by
        rw [List.drop_eq_getElem_cons hlt]
        rw [List.getElem?_eq_getElem hlt] at hg
        simp only [Option.some.injEq] at hg
        rw [hg]
      rw [hd] at r2
      simp only [RdRow] at r2
      obtain ⟨v, rest, hv2, hsz, hone, hel, hrest⟩ := r2
      refine ⟨.pointer (some ⟨b, of + j.toNat * (n + 1), none⟩), ?_, ?_⟩
      · simp only [execOp, hop, hv, hI', Instr.indexAt, Sem.run_bind, asIntOf_run, run_underlying hu, Result.andThen_ok, Sem.run_pure]
        rw [if_pos ⟨h0, by omega⟩]
        simp only [Sem.run_bind, sizeT_some hs, Result.andThen_ok, Sem.run_pure, add_addr]
      · simp only [RdA]
        refine ⟨b, of + j.toNat * (n + 1), v, rfl, hel, ?_, ?_⟩
        · have := cellsAt_sub (k := j.toNat * (n + 1)) (m := v.cells.toList.length) hc
          rw [hv2, List.take_left] at this
          exact this
        · rw [hsz]
          have : (j.toNat + 1) * (n + 1) ≤ es.length * (n + 1) := Nat.mul_le_mul_right _ hlt
          rw [Nat.add_mul, Nat.one_mul] at this
          omega
  · cases hg
theorem g_iau {t e : TypeId} {x i : Operand} {x' i' : AO} {n tk : Nat} {ep ep' : Ep} {es : List D} {j : Int} {el : D} (hop : o.op = .indexAddr t x i) (hu : E.P.underlying t = some (.slice e))
    (hs : sizeT E.P e = some (n + 1)) (hx : opnd E.P E.ν t x = some x') (hi : opnd E.P E.ν 0 i = some i') (hA : RdF E.φ S w A a.tmps.toList)
    (hX : x'.ev A = .uq tk (n + 1) es ep) (hI : i'.ev A = .d ep' (.int .i64 j)) (hg : std.dget es j = some el) : Gives E S w a o (.up tk (n + 1) j.toNat el 0 ep) := by
  have rX := opnd_sound hx hA
  rw [hX] at rX
  have rI := opnd_sound hi hA
  rw [hI] at rI
  have hI' : a.eval i = .int .i64 j := rI
  simp only [std] at hg
  split at hg
  · rename_i h0
    have hlt : j.toNat < es.length := by
      rcases Nat.lt_or_ge j.toNat es.length with h' | h'
      · exact h'
      · rw [List.getElem?_eq_none h'] at hg; cases hg
    simp only [RdA] at rX
    rcases rX with ⟨_, rfl, _⟩ | ⟨b, vs, cs, T, hβ, hv, hl, hh, hcap, hcs, he, hG, hc, hr⟩
    · simp at hlt
    · obtain ⟨_, r2⟩ := RdRow_split es vs j.toNat hr (by omega)
      have hd : es.drop j.toNat = el :: es.drop (j.toNat + 1) := by
        rw [List.drop_eq_getElem_cons hlt]
        rw [List.getElem?_eq_getElem hlt] at hg
        simp only [Option.some.injEq] at hg
        rw [hg]
      rw [hd] at r2
      simp only [RdRow] at r2
      obtain ⟨v, rest, hv2, hsz, hone, hel, hrest⟩ := r2
      refine ⟨.pointer (some ⟨b, 0 + j.toNat * (n + 1), none⟩), ?_, ?_⟩
      · simp only [execOp, hop, hv, hI', Instr.indexAt, Sem.run_bind, asIntOf_run, run_underlying hu, Result.andThen_ok, Sem.run_pure]
        rw [if_pos ⟨h0, by omega⟩]
        simp only [Sem.run_bind, sizeT_some hs, Result.andThen_ok, Sem.run_pure, add_addr]
      · simp only [RdA]
        refine ⟨b, v, hβ, by simp, hel, ?_, hsz⟩
        have := cellsAt_sub (k := j.toNat * (n + 1)) (m := v.cells.toList.length) hc
        rw [hv2, List.take_left, Nat.zero_add] at this
        exact this
  · cases hg
theorem g_ias {t e : TypeId} {x i : Operand} {x' i' : AO} {n m : Nat} {ep' : Ep} {cs : List AV} {j : Int} (hop : o.op = .indexAddr t x i) (hu : E.P.underlying t = some (.slice e))
    (hs : sizeT E.P e = some (n + 1)) (hx : opnd E.P E.ν t x = some x') (hi : opnd E.P E.ν 0 i = some i') (hA : RdF E.φ S w A a.tmps.toList)
    (hX : x'.ev A = .sb (n + 1) m cs) (hI : i'.ev A = .d ep' (.int .i64 j)) (hg : std.below j m) : Gives E S w a o (.cb cs (j.toNat * (n + 1))) := by
  have rX := opnd_sound hx hA
  rw [hX] at rX
  have rI := opnd_sound hi hA
  rw [hI] at rI
  have hI' : a.eval i = .int .i64 j := rI
  obtain ⟨h0, h1⟩ : 0 ≤ j ∧ j < (m : Int) := hg
  simp only [RdA] at rX
  obtain ⟨b, cap, vs, hv, h2, h3, hc, hg, ho, hr⟩ := rX
  refine ⟨.pointer (some ⟨b, 0 + j.toNat * (n + 1), none⟩), ?_, ?_⟩
  · simp only [execOp, hop, hv, hI', Instr.indexAt, Sem.run_bind, asIntOf_run, run_underlying hu, Result.andThen_ok, Sem.run_pure]
    rw [if_pos ⟨h0, by omega⟩]
    simp only [Sem.run_bind, sizeT_some hs, Result.andThen_ok, Sem.run_pure, add_addr]
  · simp only [RdA]
    exact ⟨b, vs, by simp, hc, hg, ho, hr⟩
theorem g_isnil {t e : TypeId} {x z : Operand} {u : TypeId} {x' : AO} {neg : Bool} {es : List D} (hop : o.op = .binOp (if neg then .neq else .eql) t x z u) (hz : isNil z = true) (hu : E.P.underlying t = some (.slice e))
    (hx : opnd E.P E.ν t x = some x') (hA : RdF E.φ S w A a.tmps.toList) (hr : rowU (x'.ev A) = some es) : ∃ b : Bool, (b = true → es = []) ∧ Gives E S w a o (.d .top (.bool (negA std neg b))) := by
  have hX := opnd_sound hx hA
  have hzv : a.eval z = .slice none 0 0 := by
    cases z with
    | const v =>
      unfold isNil at hz
      split at hz
      · rename_i heq; cases heq; rfl
      · cases hz
    | _ => cases hz
  obtain ⟨p, c, hv⟩ := rowU_sound hX hr
  have hes : p = none → es = [] := by
    intro hp
    subst hp
    rcases rowU_cells hX hr with ⟨_, _, _, h⟩ | ⟨b, o', cap, sz, ep, vs, h, _⟩
    · exact h
    · rw [hv] at h; cases h
  have heq : (Op.equal t (a.eval x) (.slice none 0 0)).run E.P w = .ok p.isNone w := by
    rw [hv]
    unfold Op.equal Op.maxDepth
    rw [show (10000 : Nat) = 9999 + 1 from rfl, Op.equalIn]
    simp only [Sem.run_bind, run_underlying hu, Result.andThen_ok]
    cases p <;> rfl
  refine ⟨p.isNone, fun h => hes (by simpa using h), ?_⟩
  have hg : ∀ op, (eqGuard op t x z (a.eval x) (.slice none 0 0)).run E.P w = .ok () w := fun op => eqGuard_ok op t x z _ _ (by rw [hv]; simp) (by rw [hv]; simp)
  cases neg with
  | false =>
    simp only [Bool.false_eq_true, if_false] at hop
    refine ⟨.bool p.isNone, ?_, rfl⟩
    simp only [execOp, hop, hzv, Sem.run_bind, hg, Result.andThen_ok]
    rw [hv] at heq ⊢
    simp only [binOp, Sem.run_bind, heq, Result.andThen_ok, Sem.run_pure]
  | true =>
    simp only [if_true] at hop
    refine ⟨.bool (!p.isNone), ?_, rfl⟩
    simp only [execOp, hop, hzv, Sem.run_bind, hg, Result.andThen_ok]
    rw [hv] at heq ⊢
    simp only [binOp, Sem.run_bind, heq, Result.andThen_ok, Sem.run_pure]
theorem inv_ia {P : Program} {ν : FuncId → Option Nat} {y z : AO} {s : Nat} (hc : compOp P ν hs ops o = some (.ia y z s)) :
    ∃ t e x i n, o.op = .indexAddr t x i ∧ P.underlying t = some (.slice e) ∧ sizeT P e = some (n + 1) ∧ opnd P ν t x = some y ∧ opnd P ν 0 i = some z ∧ s = n + 1 := by
  unfold compOp at hc
  split at hc
  all_goals (repeat' split at hc)
  all_goals (simp only [Option.map_eq_some_iff, Option.bind_eq_some_iff, reduceCtorEq, and_false, exists_false, Option.some.injEq, AOp.ia.injEq] at hc)
  rename_i t x i hop _ e hu _ _ _ _ _ n h1 h2 h3
  obtain ⟨rfl, rfl, rfl⟩ := hc
  exact ⟨t, e, x, i, n, hop, hu, h3, h1, h2, rfl⟩
theorem RdF_weak {x y : AV} (hxy : ∀ u, RdA E.φ S w x u → RdA E.φ S w y u) : ∀ (A : Fm) (vs : List Value) (d : Nat), RdF E.φ S w (upd A d x) vs → RdF E.φ S w (upd A d y) vs
  | [], _, _, h => h
  | z :: A, vs, 0, h => by
    obtain ⟨v, rest, e, h1, h2⟩ := h
    exact ⟨v, rest, e, hxy v h1, h2⟩
  | z :: A, vs, d + 1, h => by
    obtain ⟨v, rest, e, h1, h2⟩ := h
    exact ⟨v, rest, e, h1, RdF_weak hxy A rest d h2⟩
theorem drV_sound {x : AV} {u : Value} (h : RdA E.φ S w x u) : RdA E.φ S w (drV x) u := by
  cases x with
  | agg cs => exact wk_sound h
  | _ => exact h
theorem Did.calm {dr : Bool} {e : Eff} (h : Did E S w a o (e.frame A σ o.dst) (e.store σ o.dst)) : Did E S w a o ((e.calm dr).frame A σ o.dst) ((e.calm dr).store σ o.dst) := by
  cases dr with
  | false => exact h
  | true =>
    cases e with
    | put v =>
      obtain ⟨nx, u, S', w', h1, h2, h3, h4, h5⟩ := h
      refine ⟨nx, u, S', w', h1, h2, h3, ?_, h5⟩
      simp only [Eff.calm, Eff.frame] at h4 ⊢
      cases hd : o.dst with
      | none => rw [hd] at h4; exact h4
      | some d =>
        rw [hd] at h4
        exact RdF_weak (fun u => drV_sound) A _ d h4
    | _ => exact h
theorem guard_sound {j t : Nat} {ep : Ep} {b : Bool} (hA : RdF E.φ S w A a.tmps.toList) (hj : slotOf ops j = some t) (hb : gt A t = .d ep (.bool b)) : yielded ops a.tmps j = some b := by
  have h := RdF_get A _ t hA
  rw [hb] at h
  have h' : (a.tmps.toList[t]?).getD undef = .bool b := h
  simp only [slotOf] at hj
  simp only [yielded, hj, Option.bind_some]
  rw [Array.getElem?_toList] at h'
  cases hv : a.tmps[t]? with
  | none => rw [hv] at h'; cases h'
  | some v => rw [hv] at h'; simp only [Option.getD_some] at h'; subst h'; rfl
theorem guard_skip {j t : Nat} (hA : RdF E.φ S w A a.tmps.toList) (hj : slotOf ops j = some t) (hb : gt A t = .tup []) : yielded ops a.tmps j = none := by
  have h := RdF_get A _ t hA
  rw [hb] at h
  obtain ⟨vs, h', hvs⟩ : ∃ vs : List Value, (a.tmps.toList[t]?).getD undef = .tuple ⟨vs⟩ ∧ RdNs E.φ S w [] vs := by simpa only [RdA] using h
  simp only [slotOf] at hj
  simp only [yielded, hj, Option.bind_some]
  rw [Array.getElem?_toList] at h'
  cases hv : a.tmps[t]? with
  | none => rfl
  | some v => rw [hv] at h'; simp only [Option.getD_some] at h'; subst h'; rfl
theorem here_skip (H : Here E O S w ω σ A a) : Here E O S w ω σ (putA A o.dst (.tup [])) (a.put o.dst undef) := by
  have hmk : (a.put o.dst undef).defers = a.defers := by cases o.dst <;> rfl
  exact ⟨H.rep, RdF_put H.fr ⟨[], rfl, rfl⟩, by rw [hmk]; exact H.marks, H.out⟩
theorem wp_one {dr : Bool} {C : CallP O.Ω} {i : AI} {K : SK O.Ω} {next : Act → World → Prop} (hc : compI E.P E.ν hs ops o = some i) (H : Here E O S w ω σ A a) (h : hN std dr C [i] A σ ω K)
    (hC : ∀ {fv xs σ ω K}, C fv xs σ ω K → callA E O fv xs σ ω K)
    (hn : ∀ S' w' u A' σ' ω', K A' σ' ω' → Here E O S' w' ω' σ' A' (a.put o.dst u) → Ev S w S' w' → next (a.put o.dst u) w') :
    if Region.wanted o (yielded ops a.tmps) = true then o.wpIn (fence ro) 0 E.P a w next Q
    else (∀ f, o.about E.P w a.eval = some f → (fence ro).fn f) ∧ next (a.put o.dst undef) w := by
  obtain ⟨op, hop, hdst, hop2⟩ : ∃ op, compOp E.P E.ν hs ops o = some op ∧ i.dst = o.dst ∧ i.op = op := by
    unfold compI at hc
    split at hc
    · rename_i op h1 h2; cases hc; exact ⟨op, h1, rfl, rfl⟩
    · rename_i op j want h1 h2
      split at hc
      · cases hc; exact ⟨op, h1, rfl, rfl⟩
      · cases hc
    · cases hc
  have core : stepA std dr C i.dst A σ ω (fun A σ ω => K A σ ω) i.op → o.wpIn (fence ro) 0 E.P a w next Q := by
    rw [hop2, hdst]
    have put : ∀ v : AV, Gives E S w a o v → K (putA A o.dst v) σ ω → o.wpIn (fence ro) 0 E.P a w next Q := fun v hg hK =>
      wp_did (comp_quiet hop) H (did_gives H.rep H.fr hg) fun S' w' u H' V => hn S' w' u _ _ _ hK H' V
    have gen : (match eff std (o.dst.getD 0) A σ op with
          | some (q, e) =>
            match e.mild dr with
            | true => q ∧ K ((e.calm dr).frame A σ o.dst) ((e.calm dr).store σ o.dst) ω
            | false => False
          | none => False) → o.wpIn (fence ro) 0 E.P a w next Q := by
      intro h
      split at h
      · rename_i q e he
        split at h
        · exact wp_did (comp_quiet hop) H (Did.calm (eff_did hop he h.1 H.rep H.fr)) fun S' w' u H' V => hn S' w' u _ _ _ h.2 H' V
        · cases h
      · cases h
    cases op with
    | ia x y sz =>
      intro h
      simp only [stepA] at h
      split at h
      · rename_i ep' n hY
        obtain ⟨t, e, x', i', m, h1, h2, h3, h4, h5, rfl⟩ := inv_ia hop
        unfold iaA at h
        split at h
        · rename_i ep sz' es hX
          split at h
          · rename_i hsz
            rw [natEq_iff] at hsz
            subst hsz
            obtain ⟨el, hg, hK⟩ := h
            exact put _ (g_ia h1 h2 h3 h4 h5 H.fr hX hY hg) hK
          · cases h
        · cases dr with
          | true => cases h
          | false =>
          split at h
          · rename_i t' sz' es ep hX
            split at h
            · rename_i hsz
              rw [natEq_iff] at hsz
              subst hsz
              obtain ⟨el, hg, hK⟩ := h
              exact put _ (g_iau h1 h2 h3 h4 h5 H.fr hX hY hg) hK
            · cases h
          · rename_i sz' m' cs hX
            split at h
            · rename_i hsz
              rw [natEq_iff] at hsz
              subst hsz
              obtain ⟨hg, hK⟩ := h
              exact put _ (g_ias h1 h2 h3 h4 h5 H.fr hX hY hg) hK
            · cases h
          · cases h
      · cases h
    | call u f xs =>
      intro h
      obtain ⟨f', args', ts, h1, h2, h3⟩ := inv_call hop
      exact wp_call h1 h2 h3 H (hC h) fun S' w' v r us σ' ω' hK H' V => hn S' w' v _ _ _ hK H' V
    | isnil neg x =>
      intro h
      cases dr with
      | true => cases h
      | false =>
      simp only [stepA] at h
      split at h
      · rename_i es hr
        obtain ⟨t, e, x', z, u, h1, h2, h3, h4⟩ := inv_isnil hop
        obtain ⟨b, hb, hg⟩ := g_isnil h1 h2 h3 h4 H.fr hr
        exact put _ hg (h b hb)
      · cases h
    | mlk kk x k z ok =>
      intro h
      cases dr with
      | true => cases h
      | false =>
      simp only [stepA] at h
      obtain ⟨t, kt, vt, x', k', h1, h2, h3, h4, h5, h6⟩ := inv_mlk hop
      unfold mlkA at h
      split at h
      · rename_i ek key hK
        split at h
        · cases h
        · rename_i hf
          have rX := opnd_sound h5 H.fr
          have data : ∀ ep m, MapAt S w ep m (a.eval x') → (std.mfit m key ∧ ∃ o', std.mget m key = o' ∧ (match o' with | some e => K (putA A o.dst (pickA ok (.d ep e) true)) σ ω | none => K (putA A o.dst (pickA ok (.d .top z) false)) σ ω)) →
              o.wpIn (fence ro) 0 E.P a w next Q := by
            rintro ep m hm ⟨hfit, r, hr, hK'⟩
            refine put _ (g_mlk (r := r) H.fr h1 h2 h3 h4 h6 hK hf hfit hm hr) ?_
            cases r <;> exact hK'
          have chain : ∀ ks vs b es clk, a.eval x' = .map (some b) → w.heap[b]? = some (.map es clk) → RdKs E.φ S w vs ks es.toList → mchain std key (.d .top z) (fun v b => K (putA A o.dst (pickA ok v b)) σ ω) ks vs →
              o.wpIn (fence ro) 0 E.P a w next Q := by
            intro ks vs b es clk hv hh hm hch
            obtain ⟨v, bb, hg, hgo⟩ := g_mlc H.fr h1 h2 h3 h4 h6 hK hf hv hh hm hch
            exact put _ hg hgo
          split at h
          · rename_i id hX
            rw [hX] at rX
            simp only [RdA] at rX
            obtain ⟨b, hb, hv⟩ := rX
            split at h
            · rename_i ep m hs
              rw [getS_eq] at hs
              obtain ⟨es, clk, hh, hm⟩ := H.rep.box id b _ hb hs
              exact data ep m ⟨b, es, clk, hv, hh, hm⟩ h
            · rename_i ks vs hs
              rw [getS_eq] at hs
              obtain ⟨es, clk, hh, hm⟩ := H.rep.box id b _ hb hs
              exact chain ks vs b es clk hv hh hm h
            · cases h
          · rename_i ep m hX
            rw [hX] at rX
            simp only [RdA] at rX
            obtain ⟨b, es, clk, hv, hh, _, hm⟩ := rX
            exact data ep m ⟨b, es, clk, hv, hh, hm⟩ h
          · rename_i ks vs hX
            rw [hX] at rX
            simp only [RdA] at rX
            obtain ⟨b, es, clk, hv, hh, _, hm⟩ := rX
            exact chain ks vs b es clk hv hh hm h
          · cases h
      · cases h
    | _ => exact gen
  have skip : K (putA A o.dst (.tup [])) σ ω → (∀ f, o.about E.P w a.eval = some f → (fence ro).fn f) ∧ next (a.put o.dst undef) w := fun hK =>
    ⟨fun _ _ => trivial, hn S w undef _ _ _ hK (here_skip H) (Ev.refl S w)⟩
  rw [hN] at h
  unfold compI at hc
  rw [hop] at hc
  cases hg : o.guard with
  | none =>
    rw [hg] at hc
    simp only [Option.some.injEq] at hc
    subst hc
    simp only [Region.wanted, hg, if_true]
    exact core h
  | some g =>
    obtain ⟨j, want⟩ := g
    rw [hg] at hc
    simp only at hc
    split at hc
    · rename_i t hj
      simp only [Option.some.injEq] at hc
      subst hc
      simp only at h
      split at h
      · rename_i ep b hb
        have hy := guard_sound H.fr hj hb
        simp only [Region.wanted, hg, hy]
        cases want <;> cases b <;> simp only [cnd] at h
        · simpa using core h
        · simpa using skip h
        · simpa using skip h
        · simpa using core h
      · rename_i hb
        have hy := guard_skip H.fr hj hb
        simp only [Region.wanted, hg, hy]
        simpa using skip h
      · cases h
    · cases hc
theorem wp_ops {dr : Bool} {C : CallP O.Ω} (hC : ∀ {fv xs σ ω K}, C fv xs σ ω K → callA E O fv xs σ ω K) : ∀ (l : List Nat) (is : List AI) {S : St} {w : World} {A : Fm} {σ : Sto} {ω : O.Ω} {a : Act} {K : SK O.Ω},
    All2 (fun k i => ∃ o, ops[k]? = some o ∧ compI E.P E.ν hs ops o = some i) l is →
    Here E O S w ω σ A a → hN std dr C is A σ ω K →
    (∀ S' w' a' A' σ' ω', K A' σ' ω' → Here E O S' w' ω' σ' A' a' → Ev S w S' w' → Q .normal a' w') → wpOpsIn (fence ro) 0 E.P ops Q l a w
  | [], _, S, w, A, σ, ω, a, K, .nil, H, h, hn => hn S w a A σ ω h H (Ev.refl S w)
  | k :: l, i :: is, S, w, A, σ, ω, a, K, .cons hk hl, H, h, hn => by
    obtain ⟨o, ho, hc⟩ := hk
    simp only [wpOpsIn, ho]
    have h' : hN std dr C [i] A σ ω fun A σ ω => hN std dr C is A σ ω K := h
    exact wp_one (ro := ro) (Q := Q) hc H h' hC fun S' w' u A' σ' ω' hK H' V => wp_ops hC l is hl H' hK fun S'' w'' a'' A'' σ'' ω'' hK' H'' V' => hn S'' w'' a'' A'' σ'' ω'' hK' H'' (V.trans V')
theorem mapM_forall {α β : Type} {f : α → Option β} : ∀ {l : List α} {l' : List β}, l.mapM f = some l' → All2 (fun x y => f x = some y) l l'
  | [], l', h => by
    simp only [List.mapM_nil, pure, Option.some.injEq] at h
    subst h; exact .nil
  | x :: l, l', h => by
    rw [List.mapM_cons] at h
    cases hx : f x with
    | none => rw [hx] at h; cases h
    | some y =>
      cases hl : l.mapM f with
      | none => rw [hx, hl] at h; cases h
      | some ys =>
        rw [hx, hl] at h
        cases h
        exact .cons hx (mapM_forall hl)
theorem forall_range {α : Type} {R : Oper → α → Prop} : ∀ (m : Nat) (l : List Oper) (l' : List α), All2 R l l' → (∀ k o, l[k]? = some o → ops[m + k]? = some o) →
    All2 (fun k i => ∃ o, ops[k]? = some o ∧ R o i) (List.range' m l.length) l'
  | m, [], _, .nil, _ => .nil
  | m, o :: l, i :: l', .cons h hl, hk => by
    simp only [List.length_cons, List.range'_succ]
    exact .cons ⟨o, hk 0 o rfl, h⟩ (forall_range (m + 1) l l' hl fun k o h => by
      have := hk (k + 1) o h
      rwa [show m + (k + 1) = m + 1 + k by omega] at this)
theorem comp_ops {is : List AI} (h : ops.toList.mapM (compI E.P E.ν hs ops) = some is) : All2 (fun k i => ∃ o, ops[k]? = some o ∧ compI E.P E.ν hs ops o = some i) (List.range ops.size) is := by
  have := forall_range (ops := ops) 0 ops.toList is (mapM_forall h) fun k o hk => by rw [Nat.zero_add]; rwa [Array.getElem?_toList] at hk
  rwa [Array.length_toList, ← List.range_eq_range'] at this
theorem wp_region {is : List AI} {id : Nat} {K : SK O.Ω} (hc : ops.toList.mapM (compI E.P E.ν hs ops) = some is) (H : Here E O S w ω σ A a) (h : hN std false (callA E O) is A σ ω K)
    (hn : ∀ S' w' a' A' σ' ω', K A' σ' ω' → Here E O S' w' ω' σ' A' a' → Ev S w S' w' → Q .normal a' w') : (Code.region id ops false).wpIn (fence ro) 0 E.P Q a w :=
  wpIn_region (wp_ops (fun h => h) _ _ (comp_ops hc) H h hn)
end
end Go.Ly
end
section
namespace Go.Ly
def RoundAt (ro : Option Nat) (S : St) (w : World) : Prop :=
  ∀ l, ro = some l → (∃ r, w.heap[l]? = some (.loop r)) ∧ l ∉ S.θ ∧ (∀ t, S.β t ≠ some l) ∧ ¬ S.X l
theorem RoundAt.ev {ro S w S' w'} (h : RoundAt ro S w) (V : Ev S w S' w') : RoundAt ro S' w' := by
  intro l hl
  obtain ⟨⟨r, hr⟩, hθ, hβ, hX⟩ := h l hl
  have hlt := heap_lt hr
  refine ⟨⟨r, (V.frame l hlt hθ hβ hX (.inr (noC_loop hr))).1.trans hr⟩, fun hm => ?_, fun t ht => ?_, fun hx => (V.newX l hx).elim hX (fun hge => by omega)⟩
  · exact (V.newθ l hm).elim hθ (fun hge => by omega)
  · exact (V.newβ t l ht).elim (fun ⟨t', h'⟩ => hβ t' h') (fun hge => by omega)
def exA : Ex → Exit
  | .norm => .normal
  | .exit id => .exit id
  | .ret => .ret
def postA (E : Env) (O : Outer E) (S : St) (w : World) (K : XK O.Ω) : Exit → Act → World → Prop := fun e a' w' =>
  ∃ x A' σ' ω' S', e = exA x ∧ K x A' σ' ω' ∧ Here E O S' w' ω' σ' A' a' ∧ Ev S w S' w'
def AWP (E : Env) (O : Outer E) (ac : AC) (K : XK O.Ω) (A : Fm) (σ : Sto) (ω : O.Ω) : Prop :=
  ∀ (hs : List Nat) (ro : Option Nat) (c : Code) (S : St) (w : World) (a : Act), compC E.P E.ν hs c = some ac → RoundAt ro S w → Here E O S w ω σ A a → c.wpIn (fence ro) 0 E.P (postA E O S w K) a w
inductive loopA (E : Env) (O : Outer E) (b : AC) (K : XK O.Ω) (A : Fm) (σ : Sto) (ω : O.Ω) : Prop
  | mk (h : AWP E O (.loop b) K A σ ω) : loopA E O b K A σ ω
inductive rfA (E : Env) (O : Outer E) (f : AO) (ps : List Nat) (a b : AC) (K : XK O.Ω) (A : Fm) (σ : Sto) (ω : O.Ω) : Prop
  | mk (h : AWP E O (.rf f ps a b) K A σ ω) : rfA E O f ps a b K A σ ω
def DrawRule (E : Env) (O : Outer E) (Cd : CallP O.Ω) : Prop :=
  ∀ {hs : List Nat} {ro : Option Nat} {ops : Array Oper} {is : List AI} {id : Nat} {K : SK O.Ω} {S : St} {w : World} {A : Fm} {σ : Sto} {ω : O.Ω} {a : Act} {Q : Exit → Act → World → Prop},
    compRegion E.P E.ν hs ops true = some (.rg true is) → Here E O S w ω σ A a → hN std true Cd is A σ ω K →
    (∀ S' w' a' A' σ' ω', K A' σ' ω' → Here E O S' w' ω' σ' A' a' → Ev S w S' w' → Q .normal a' w') → (Code.region id ops true).wpIn (fence ro) 0 E.P Q a w
section
variable {E : Env} {O : Outer E} {S S' : St} {w w' : World} {A : Fm} {σ : Sto} {ω : O.Ω} {a : Act} {K K' : XK O.Ω}
theorem postA.trans {e : Exit} {a' : Act} {w'' : World} (h : postA E O S' w' K e a' w'') (V : Ev S w S' w') : postA E O S w K e a' w'' := by
  obtain ⟨x, A', σ', ω', S'', e1, hK, H, V'⟩ := h
  exact ⟨x, A', σ', ω', S'', e1, hK, H, V.trans V'⟩
theorem AWP.mono {ac : AC} (h : AWP E O ac K A σ ω) (hK : ∀ x A σ ω, K x A σ ω → K' x A σ ω) : AWP E O ac K' A σ ω :=
  fun hs ro c S w a hc hr H => wpIn_mono (h hs ro c S w a hc hr H) fun _ _ _ ⟨x, A', σ', ω', S', e, k, r⟩ => ⟨x, A', σ', ω', S', e, hK _ _ _ _ k, r⟩
theorem stepR_scope {P : Program} {b : Frame} {k : List Item} {cs : List Frame} {c : Code} : step P (lone (b.atR a (.code (.scope c) :: k)) cs w) = .next (lone (b.atR a (.code c :: .inScope c :: k)) cs w) :=
  step_lone_go (by simp [stepG, stepG.exec, Frame.atR])
theorem stepR_inScope {P : Program} {b : Frame} {k : List Item} {cs : List Frame} {c : Code} : step P (lone (b.atR a (.inScope c :: k)) cs w) = .next (lone (b.atR a k) cs w) :=
  step_lone_go (by simp [stepG, stepG.exec, Frame.atR])
theorem wpIn_scope {F : Fence} {n : Nat} {P : Program} {Q : Exit → Act → World → Prop} {c : Code} (h : c.wpIn F n P (Exit.noGoto Q) a w) : (Code.scope c).wpIn F n P Q a w := by
  intro b k cs hro hb hr
  have h0 : (lone (b.atR a (.code (.scope c) :: k)) cs w).fenced P F := fenced_calm hb hr rfl
  obtain ⟨e, a₁, w₁, hq, harr⟩ := h b (.inScope c :: k) cs hro hb hr
  cases e with
  | normal => exact ⟨.normal, a₁, w₁, hq, .head h0 stepR_scope (StepsIn.trans harr (.one (fenced_calm hb hr rfl) stepR_inScope))⟩
  | exit id =>
    have hx : exitTo id (.inScope c :: k) = exitTo id k := by simp [exitTo]
    exact ⟨.exit id, a₁, w₁, hq, fun k' hk => .head h0 stepR_scope (harr.1 k' (by rw [hx]; exact hk)),
      fun hr' hk => let ⟨k₁, h1, h2⟩ := harr.2 hr' (by rw [hx]; exact hk); ⟨k₁, h1, .head h0 stepR_scope h2⟩⟩
  | goto l => exact hq.elim
  | ret => exact ⟨.ret, a₁, w₁, hq, fun hn => let ⟨t, h1⟩ := harr.1 hn; ⟨t, .head h0 stepR_scope h1⟩, fun hn => let ⟨k₁, h1⟩ := harr.2 hn; ⟨k₁, .head h0 stepR_scope h1⟩⟩
  | panic ch => exact ⟨.panic ch, a₁, w₁, hq, let ⟨t, h1⟩ := harr; ⟨t, .head h0 stepR_scope h1⟩⟩
  | outgrown => exact ⟨.outgrown, a₁, w₁, hq, harr.imp id fun h => Outgrown.of_steps (.one stepR_scope) h⟩
theorem hC_sound {Cd : CallP O.Ω} (hD : DrawRule E O Cd) : ∀ (ac : AC) (K : XK O.Ω) (A : Fm) (σ : Sto) (ω : O.Ω),
    hC std (callA E O) Cd (loopA E O) (rfA E O) ac K A σ ω → AWP E O ac K A σ ω
  | .skip, K, A, σ, ω, h => by
    intro hs ro c S w a hc hr H
    cases c <;> simp [compC, compRegion] at hc
    · exact wpIn_skip ⟨.norm, A, σ, ω, S, rfl, h, H, Ev.refl S w⟩
    · split at hc
      · split at hc <;> cases hc
      · cases hc
    · repeat' split at hc
      all_goals cases hc
    · repeat' split at hc
      all_goals cases hc
    · repeat' split at hc
      all_goals cases hc
    · exact wpIn_label ⟨.norm, A, σ, ω, S, rfl, h, H, Ev.refl S w⟩
  | .rg draw is, K, A, σ, ω, h => by
    intro hs ro c S w a hc hr H
    cases c with
    | region id ops d =>
      have hc0 := hc
      simp only [compC, compRegion] at hc
      split at hc
      · rename_i is' his
        split at hc
        · cases hc
        · simp only [Option.some.injEq, AC.rg.injEq] at hc
          obtain ⟨rfl, rfl⟩ := hc
          simp only [hC] at h
          have fin : ∀ S' w' a' A' σ' ω', K .norm A' σ' ω' → Here E O S' w' ω' σ' A' a' → Ev S w S' w' → postA E O S w K .normal a' w' :=
            fun S' w' a' A' σ' ω' hK H' V => ⟨.norm, A', σ', ω', S', rfl, hK, H', V⟩
          cases d with
          | true => exact hD hc0 H h fin
          | false => exact wp_region his H h fin
      · cases hc
    | _ =>
      simp only [compC] at hc
      repeat' split at hc
      all_goals simp at hc
  | .seq x y, K, A, σ, ω, h => by
    intro hs ro c S w a hc hr H
    cases c with
    | seq x' y' =>
      simp only [compC] at hc
      split at hc
      · rename_i x1 y1 hx hy
        simp only [Option.some.injEq, AC.seq.injEq] at hc
        obtain ⟨rfl, rfl⟩ := hc
        simp only [hC] at h
        refine wpIn_seq (wpIn_mono (hC_sound hD x1 _ A σ ω h hs ro x' S w a hx hr H) ?_)
        rintro e a' w' ⟨z, A', σ', ω', S', rfl, hK, H', V⟩
        cases z with
        | norm =>
          exact wpIn_mono (hC_sound hD y1 K A' σ' ω' hK hs ro y' S' w' a' hy (hr.ev V) H') fun e a'' w'' h => h.trans V
        | exit id => exact ⟨.exit id, A', σ', ω', S', rfl, hK, H', V⟩
        | ret => exact ⟨.ret, A', σ', ω', S', rfl, hK, H', V⟩
      · cases hc
    | region id ops d =>
      simp only [compC, compRegion] at hc
      repeat' split at hc
      all_goals simp at hc
    | _ =>
      simp only [compC] at hc
      repeat' split at hc
      all_goals simp at hc
  | .cond o x y, K, A, σ, ω, h => by
    intro hs ro c S w a hc hr H
    cases c with
    | cond o' x' y' =>
      simp only [compC] at hc
      split at hc
      · rename_i o1 x1 y1 ho hx hy
        simp only [Option.some.injEq, AC.cond.injEq] at hc
        obtain ⟨rfl, rfl, rfl⟩ := hc
        simp only [hC] at h
        split at h
        · rename_i ep b hb
          have hv := opnd_sound ho H.fr
          rw [hb] at hv
          refine wpIn_cond (t := b) hv ?_
          cases b with
          | true => exact hC_sound hD x1 K A σ ω h hs ro x' S w a hx hr H
          | false => exact hC_sound hD y1 K A σ ω h hs ro y' S w a hy hr H
        · cases h
      · cases hc
    | region id ops d =>
      simp only [compC, compRegion] at hc
      repeat' split at hc
      all_goals simp at hc
    | _ =>
      simp only [compC] at hc
      repeat' split at hc
      all_goals simp at hc
  | .block id x, K, A, σ, ω, h => by
    intro hs ro c S w a hc hr H
    cases c with
    | block id' x' =>
      simp only [compC, Option.map_eq_some_iff, AC.block.injEq] at hc
      obtain ⟨y, hy, rfl, rfl⟩ := hc
      simp only [hC] at h
      refine wpIn_block (wpIn_mono (hC_sound hD y _ A σ ω h hs ro x' S w a hy hr H) ?_)
      rintro e a' w' ⟨z, A', σ', ω', S', rfl, hK, H', V⟩
      cases z with
      | norm => exact ⟨.norm, A', σ', ω', S', rfl, hK, H', V⟩
      | ret => exact ⟨.ret, A', σ', ω', S', rfl, hK, H', V⟩
      | exit j =>
        simp only [exA, Exit.inBlock]
        simp only [blockK] at hK
        split at hK
        · rename_i hj
          rw [natEq_iff] at hj
          rw [if_pos hj]
          exact ⟨.norm, A', σ', ω', S', rfl, hK, H', V⟩
        · rename_i hj
          have : j ≠ id' := fun e => by rw [← natEq_iff] at e; rw [e] at hj; cases hj
          rw [if_neg this]
          exact ⟨.exit j, A', σ', ω', S', rfl, hK, H', V⟩
    | region id ops d =>
      simp only [compC, compRegion] at hc
      repeat' split at hc
      all_goals simp at hc
    | _ =>
      simp only [compC] at hc
      repeat' split at hc
      all_goals simp at hc
  | .loop b, K, A, σ, ω, ⟨h⟩ => h
  | .rf f ps x y, K, A, σ, ω, ⟨h⟩ => h
  | .exit id, K, A, σ, ω, h => by
    intro hs ro c S w a hc hr H
    cases c with
    | exit id' =>
      simp only [compC, Option.some.injEq, AC.exit.injEq] at hc
      subst hc
      exact wpIn_exit ⟨.exit id', A, σ, ω, S, rfl, h, H, Ev.refl S w⟩
    | region id ops d =>
      simp only [compC, compRegion] at hc
      repeat' split at hc
      all_goals simp at hc
    | _ =>
      simp only [compC] at hc
      repeat' split at hc
      all_goals simp at hc
  | .ret, K, A, σ, ω, h => by
    intro hs ro c S w a hc hr H
    cases c with
    | ret => exact wpIn_ret ⟨.ret, A, σ, ω, S, rfl, h, H, Ev.refl S w⟩
    | region id ops d =>
      simp only [compC, compRegion] at hc
      repeat' split at hc
      all_goals simp at hc
    | _ =>
      simp only [compC] at hc
      repeat' split at hc
      all_goals simp at hc
  | .scope x, K, A, σ, ω, h => by
    intro hs ro c S w a hc hr H
    cases c with
    | scope x' =>
      simp only [compC, Option.map_eq_some_iff, AC.scope.injEq] at hc
      obtain ⟨y, hy, rfl⟩ := hc
      refine wpIn_scope (wpIn_mono (hC_sound hD y K A σ ω h hs ro x' S w a hy hr H) ?_)
      rintro e a' w' ⟨z, A', σ', ω', S', rfl, r⟩
      cases z with
      | norm => exact ⟨.norm, A', σ', ω', S', rfl, r⟩
      | ret => exact ⟨.ret, A', σ', ω', S', rfl, r⟩
      | exit j => exact ⟨.exit j, A', σ', ω', S', rfl, r⟩
    | region id ops d =>
      simp only [compC, compRegion] at hc
      repeat' split at hc
      all_goals simp at hc
    | _ =>
      simp only [compC] at hc
      repeat' split at hc
      all_goals simp at hc
end
end Go.Ly
end
section
namespace Go.Ly
mutual
def bnd (n : Nat) : AV → Bool
  | .ptr id _ => natLe (id + 1) n
  | .agg cs => bndL n cs
  | .tup cs => bndL n cs
  | .cb cs _ => bndL n cs
  | .fb cs _ => bndL n cs
  | .sb _ _ cs => bndL n cs
  | .mp id => natLe (id + 1) n
  | .cmd _ _ => true
  | .cm _ vs => bndL n vs
  | .fn _ a c => bndL n a && bndL n c
  | .any => true
  | .d _ _ => true
  | .own _ _ _ _ => true
  | .uq _ _ _ _ => true
  | .up _ _ _ _ _ _ => true
  | .fresh _ _ _ => true
  | .pk _ => true
  | .at _ _ _ => true
  | .ext _ => true
def bndL (n : Nat) : List AV → Bool
  | [] => true
  | v :: vs => bnd n v && bndL n vs
end
def epLe : Ep → Ep → Bool
  | .top, _ => true
  | _, .unk => true
  | .new, .new => true
  | .old, .old => true
  | _, _ => false
mutual
def leV (n : Nat) (x : AV) : AV → Prop
  | .any => True
  | .d ep' b =>
    match x with
    | .d ep a => epLe ep ep' = true ∧ a = b
    | .own _ sz es ep => epLe ep ep' = true ∧ D.row sz es = b
    | _ => False
  | .own t' sz' es' ep' =>
    match x with
    | .own t sz es ep => t = t' ∧ sz = sz' ∧ epLe ep ep' = true ∧ es = es'
    | _ => False
  | .uq t' sz' es' ep' =>
    match x with
    | .uq t sz es ep => t = t' ∧ sz = sz' ∧ epLe ep ep' = true ∧ es = es'
    | _ => False
  | .agg ys =>
    match x with
    | .agg xs => leC n xs ys
    | _ => False
  | .up t sz m e off ep => x = .up t sz m e off ep
  | .pk r => x = .pk r
  | .sb sz m cs => x = .sb sz m cs ∧ bndL n cs = true
  | .mp id => x = .mp id ∧ natLe (id + 1) n = true
  | .cmd ep' m' =>
    match x with
    | .cmd ep m => epLe ep ep' = true ∧ m = m'
    | _ => False
  | .cm ks vs => x = .cm ks vs ∧ bndL n vs = true
  | .tup ys => x = .tup ys ∧ bndL n ys = true
  | .cb cs off => x = .cb cs off ∧ bndL n cs = true
  | .fb cs off => x = .fb cs off ∧ bndL n cs = true
  | .fn f a c => x = .fn f a c ∧ bndL n a = true ∧ bndL n c = true
  | .ptr id off => x = .ptr id off ∧ natLe (id + 1) n = true
  | .fresh sz es ep => x = .fresh sz es ep
  | .at ep y off => x = .at ep y off
  | .ext i => x = .ext i
def leC (n : Nat) (xs : List AV) : List AV → Prop
  | [] => xs = []
  | y :: ys =>
    match xs with
    | x :: xs => leV n x y ∧ leC n xs ys
    | [] => False
end
def leF (n : Nat) : Fm → Fm → Prop
  | [], [] => True
  | x :: xs, y :: ys => leV n x y ∧ leF n xs ys
  | _, _ => False
def leE (n : Nat) (s : SE) : SE → Prop
  | .bx cs' => match s with | .bx cs => leC n cs cs' | _ => False
  | .md ep' m' => match s with | .md ep m => epLe ep ep' = true ∧ m = m' | _ => False
  | .mf ks vs => s = .mf ks vs ∧ bndL n vs = true
def leS (n : Nat) : Sto → Sto → Prop
  | _, [] => True
  | s :: σ, s' :: σ' => leE n s s' ∧ leS n σ σ'
  | [], _ :: _ => False
def low (A : Fm) (σ : Sto) (A' : Fm) (σ' : Sto) : Prop := leF (lenS σ') A A' ∧ leS (lenS σ') σ σ'
theorem lenS_eq' : ∀ σ : Sto, lenS σ = σ.length
  | [] => rfl
  | _ :: σ => by simp [lenS, lenS_eq' σ]
theorem epLe_sound {e : Nat} {ep ep' : Ep} (h : epLe ep ep' = true) (b : Nat) (hb : epB e ep b) : epB e ep' b := by
  cases ep <;> cases ep' <;> simp_all [epLe, epB]
def drop (S : St) (n : Nat) : St := { S with θ := S.θ.take n }
section
variable {E : Env} {S : St} {w : World} {n : Nat} {φ : Nat → FuncId}
mutual
theorem RdA_drop : ∀ (x : AV) (v : Value), bnd n x = true → RdA φ S w x v → RdA φ (drop S n) w x v
  | .any, _, _, _ => trivial
  | .d ep x, v, _, h => h
  | .at ep x off, v, _, h => h
  | .ext i, v, _, h => h
  | .own _ _ _ _, v, _, h => h
  | .uq _ _ _ _, v, _, h => h
  | .up _ _ _ _ _ _, v, _, h => h
  | .fresh _ _ _, v, _, h => h
  | .pk _, v, _, h => h
  | .cmd _ _, v, _, h => h
  | .mp id, v, hx, h => by
    simp only [bnd, natLe_iff] at hx
    simp only [RdA] at h ⊢
    obtain ⟨b, hb, e⟩ := h
    exact ⟨b, by simp only [drop]; rw [List.getElem?_take, if_pos (by omega)]; exact hb, e⟩
  | .sb sz m cs, v, hx, h => by
    simp only [bnd] at hx
    simp only [RdA] at h ⊢
    obtain ⟨b, cap, vs, e, h1, h2, hc, hg, ho, hn⟩ := h
    exact ⟨b, cap, vs, e, h1, h2, hc, hg, ho, RdAs_drop cs vs hx hn⟩
  | .cm ks vs, v, hx, h => by
    simp only [bnd] at hx
    simp only [RdA] at h ⊢
    obtain ⟨b, es, k, e, hh, hg, hr⟩ := h
    exact ⟨b, es, k, e, hh, hg, RdKs_drop vs ks _ hx hr⟩
  | .ptr id off, v, hx, h => by
    simp only [bnd, natLe_iff] at hx
    simp only [RdA] at h ⊢
    obtain ⟨b, hb, e⟩ := h
    exact ⟨b, by simp only [drop]; rw [List.getElem?_take, if_pos (by omega)]; exact hb, e⟩
  | .agg cs, v, hx, h => by
    simp only [bnd] at hx
    simp only [RdA] at h ⊢
    obtain ⟨vs, e, h⟩ := h
    exact ⟨vs, e, RdAs_drop cs vs hx h⟩
  | .tup cs, v, hx, h => by
    simp only [bnd] at hx
    simp only [RdA] at h ⊢
    obtain ⟨vs, e, h⟩ := h
    exact ⟨vs, e, RdNs_drop cs vs hx h⟩
  | .cb cs off, v, hx, h => by
    simp only [bnd] at hx
    simp only [RdA] at h ⊢
    obtain ⟨b, vs, e, hc, hg, ho, hn⟩ := h
    exact ⟨b, vs, e, hc, hg, ho, RdAs_drop cs vs hx hn⟩
  | .fb cs off, v, hx, h => by
    simp only [bnd] at hx
    simp only [RdA] at h ⊢
    obtain ⟨b, vs, e, hc, ⟨h1, h2, h3, h4⟩, ho, hn⟩ := h
    exact ⟨b, vs, e, hc, ⟨h1, h2, fun hm => h3 (List.mem_of_mem_take hm), h4⟩, ho, RdAs_drop cs vs hx hn⟩
  | .fn f x c, v, hx, h => by
    simp only [bnd, Bool.and_eq_true] at hx
    simp only [RdA] at h ⊢
    obtain ⟨va, vc, e, h1, h2⟩ := h
    exact ⟨va, vc, e, RdNs_drop x va hx.1 h1, RdNs_drop c vc hx.2 h2⟩
theorem RdAs_drop : ∀ (xs : List AV) (vs : List Value), bndL n xs = true → RdAs φ S w xs vs → RdAs φ (drop S n) w xs vs
  | [], vs, _, h => by simp only [RdAs] at h ⊢; exact h
  | x :: xs, vs, hx, h => by
    simp only [bndL, Bool.and_eq_true] at hx
    simp only [RdAs] at h ⊢
    obtain ⟨v, rest, e, hn, h1, h2⟩ := h
    exact ⟨v, rest, e, hn, RdA_drop x v hx.1 h1, RdAs_drop xs rest hx.2 h2⟩
theorem RdNs_drop : ∀ (xs : List AV) (vs : List Value), bndL n xs = true → RdNs φ S w xs vs → RdNs φ (drop S n) w xs vs
  | [], vs, _, h => by simp only [RdNs] at h ⊢; exact h
  | x :: xs, vs, hx, h => by
    simp only [bndL, Bool.and_eq_true] at hx
    simp only [RdNs] at h ⊢
    obtain ⟨v, rest, e, hn, h1, h2⟩ := h
    exact ⟨v, rest, e, hn, RdA_drop x v hx.1 h1, RdNs_drop xs rest hx.2 h2⟩
theorem RdKs_drop : ∀ (xs : List AV) (ks : List D) (es : List MapEntry), bndL n xs = true → RdKs φ S w xs ks es → RdKs φ (drop S n) w xs ks es
  | [], ks, es, _, h => by simp only [RdKs] at h ⊢; exact h
  | x :: xs, ks, es, hx, h => by
    simp only [bndL, Bool.and_eq_true] at hx
    simp only [RdKs] at h ⊢
    obtain ⟨k, ks', e, rest, h1, h2, h3, h4, h5, h6, h7⟩ := h
    exact ⟨k, ks', e, rest, h1, h2, h3, h4, h5, RdA_drop x _ hx.1 h6, RdKs_drop xs ks' rest hx.2 h7⟩
end
theorem RdM_weak {G : Nat → Nat} {B B' : Nat → Prop} (hB : ∀ b, B b → B' b) {m : List (D × D)} {es : List MapEntry} (h : RdM w G B m es) : RdM w G B' m es :=
  RdM_mono (grow_weak fun b _ h => hB b h) m es h
theorem leV_notAgg {x : AV} : ∀ {y : AV}, leV n x y → notAgg x → notAgg y := by
  intro y h hx
  cases y <;> try trivial
  rename_i ys
  unfold leV at h
  split at h
  · exact hx
  · exact h
mutual
theorem leV_sound (x : AV) : ∀ (y : AV) (v : Value), leV n x y → RdA φ S w x v → RdA φ (drop S n) w y v
  | .any, _, _, _ => trivial
  | .d ep' b, v, hl, h => by
    unfold leV at hl
    split at hl
    · obtain ⟨h1, rfl⟩ := hl
      exact RdD_weak (epLe_sound h1) h
    · obtain ⟨h1, rfl⟩ := hl
      exact RdD_weak (epLe_sound h1) (RdOwn_d h)
    · exact hl.elim
  | .own t' sz' es' ep', v, hl, h => by
    unfold leV at hl
    split at hl
    · obtain ⟨rfl, rfl, h1, rfl⟩ := hl
      simp only [RdA] at h ⊢
      rcases h with ⟨hp, hd⟩ | ⟨b, of, cap, vs, cs, T, hP, e, hh, hcap, hcs, he, hg, hv, hr⟩
      · exact .inl ⟨hp, RdD_weak (epLe_sound h1) hd⟩
      · exact .inr ⟨b, of, cap, vs, cs, T, hP, e, hh, hcap, hcs, epLe_sound h1 b he, hg, hv, RdRow_mono (grow_weak fun b _ hb => epLe_sound h1 b hb) _ _ _ hr⟩
    · exact hl.elim
  | .uq t' sz' es' ep', v, hl, h => by
    unfold leV at hl
    split at hl
    · obtain ⟨rfl, rfl, h1, rfl⟩ := hl
      simp only [RdA] at h ⊢
      rcases h with h | ⟨b, vs, cs, T, hP, e, hl, hh, hcap, hcs, he, hg, hv, hr⟩
      · exact .inl h
      · exact .inr ⟨b, vs, cs, T, hP, e, hl, hh, hcap, hcs, epLe_sound h1 b he, hg, hv, RdRow_mono (grow_weak fun b _ hb => epLe_sound h1 b hb) _ _ _ hr⟩
    · exact hl.elim
  | .cmd ep' m', v, hl, h => by
    unfold leV at hl
    split at hl
    · obtain ⟨h1, rfl⟩ := hl
      simp only [RdA] at h ⊢
      obtain ⟨b, es, k, e, hh, hg, hm⟩ := h
      exact ⟨b, es, k, e, hh, hg, RdM_weak (epLe_sound h1) hm⟩
    · exact hl.elim
  | .up t sz m e off ep, v, hl, h => by
    unfold leV at hl
    subst hl
    exact h
  | .pk r, v, hl, h => by
    unfold leV at hl
    subst hl
    exact h
  | .sb sz m cs, v, hl, h => by
    unfold leV at hl
    obtain ⟨rfl, hb⟩ := hl
    exact RdA_drop _ v (by simpa [bnd] using hb) h
  | .cm ks vs, v, hl, h => by
    unfold leV at hl
    obtain ⟨rfl, hb⟩ := hl
    exact RdA_drop _ v (by simpa [bnd] using hb) h
  | .mp id, v, hl, h => by
    unfold leV at hl
    obtain ⟨rfl, hb⟩ := hl
    exact RdA_drop _ v (by simpa [bnd] using hb) h
  | .agg ys, v, hl, h => by
    unfold leV at hl
    split at hl
    · simp only [RdA] at h ⊢
      obtain ⟨vs, e, h⟩ := h
      exact ⟨vs, e, leC_sound _ ys vs hl h⟩
    · exact hl.elim
  | .tup ys, v, hl, h => by
    unfold leV at hl
    obtain ⟨rfl, hb⟩ := hl
    exact RdA_drop _ v (by simpa [bnd] using hb) h
  | .cb cs off, v, hl, h => by
    unfold leV at hl
    obtain ⟨rfl, hb⟩ := hl
    exact RdA_drop _ v (by simpa [bnd] using hb) h
  | .fb cs off, v, hl, h => by
    unfold leV at hl
    obtain ⟨rfl, hb⟩ := hl
    exact RdA_drop _ v (by simpa [bnd] using hb) h
  | .fn f a c, v, hl, h => by
    unfold leV at hl
    obtain ⟨rfl, hb⟩ := hl
    exact RdA_drop _ v (by simpa [bnd] using hb) h
  | .ptr id off, v, hl, h => by
    unfold leV at hl
    obtain ⟨rfl, hb⟩ := hl
    exact RdA_drop _ v (by simpa [bnd] using hb) h
  | .fresh sz es ep, v, hl, h => by
    unfold leV at hl
    subst hl
    exact h
  | .at ep y off, v, hl, h => by
    unfold leV at hl
    subst hl
    exact h
  | .ext i, v, hl, h => by
    unfold leV at hl
    subst hl
    exact h
theorem leC_sound (xs : List AV) : ∀ (ys : List AV) (vs : List Value), leC n xs ys → RdAs φ S w xs vs → RdAs φ (drop S n) w ys vs
  | [], vs, hl, h => by
    unfold leC at hl
    subst hl
    simp only [RdAs] at h ⊢; exact h
  | y :: ys, vs, hl, h => by
    unfold leC at hl
    split at hl
    · rename_i x xs
      simp only [RdAs] at h ⊢
      obtain ⟨v, rest, e, hn, h1, h2⟩ := h
      exact ⟨v, rest, e, leV_notAgg hl.1 hn, leV_sound x y v hl.1 h1, leC_sound xs ys rest hl.2 h2⟩
    · exact hl.elim
end
theorem leF_sound : ∀ (A A' : Fm) (vs : List Value), leF n A A' → RdF φ S w A vs → RdF φ (drop S n) w A' vs
  | [], [], _, _, h => h
  | x :: A, y :: A', vs, hl, h => by
    obtain ⟨v, rest, e, h1, h2⟩ := h
    exact ⟨v, rest, e, leV_sound x y v hl.1 h1, leF_sound A A' rest hl.2 h2⟩
  | [], _ :: _, _, hl, _ => hl.elim
  | _ :: _, [], _, hl, _ => hl.elim
theorem leE_sound {s s' : SE} {b : Nat} (hl : leE n s s') (h : RepE E S w b s) : RepE E (drop S n) w b s' := by
  cases s' with
  | bx cs' =>
    cases s <;> first | exact hl.elim | skip
    obtain ⟨vs, T, hh, hr⟩ := h
    exact ⟨vs, T, hh, leC_sound _ cs' vs hl hr⟩
  | md ep' m' =>
    cases s <;> first | exact hl.elim | skip
    obtain ⟨h1, rfl⟩ := hl
    obtain ⟨es, k, hh, hm⟩ := h
    exact ⟨es, k, hh, RdM_weak (epLe_sound h1) hm⟩
  | mf ks vs =>
    obtain ⟨rfl, hb⟩ := hl
    obtain ⟨es, k, hh, hm⟩ := h
    exact ⟨es, k, hh, RdKs_drop vs ks _ hb hm⟩
theorem leS_get : ∀ (σ σ' : Sto) (id : Nat) (s' : SE), leS n σ σ' → σ'[id]? = some s' → ∃ s, σ[id]? = some s ∧ leE n s s'
  | _, [], _, _, _, h => by simp at h
  | s :: σ, t :: σ', 0, s', hl, h => by
    simp only [List.getElem?_cons_zero, Option.some.injEq] at h
    subst h
    exact ⟨s, rfl, hl.1⟩
  | s :: σ, t :: σ', id + 1, s', hl, h => by
    simp only [List.getElem?_cons_succ] at h ⊢
    exact leS_get σ σ' id s' hl.2 h
  | [], _ :: _, _, _, hl, _ => hl.elim
theorem leS_len : ∀ (σ σ' : Sto), leS n σ σ' → σ'.length ≤ σ.length
  | _, [], _ => Nat.zero_le _
  | _ :: σ, _ :: σ', h => Nat.succ_le_succ (leS_len σ σ' h.2)
  | [], _ :: _, h => h.elim
theorem Rep.low {σ σ' : Sto} (R : Rep E S w σ) (h : leS (lenS σ') σ σ') : Rep E (drop S (lenS σ')) w σ' := by
  have hm : ∀ b, b ∈ (drop S (lenS σ')).θ → b ∈ S.θ := fun b hb => List.mem_of_mem_take hb
  refine ⟨?_, ?_, ?_, fun b hb => R.θlt b (hm b hb), fun b hb => R.θX b (hm b hb), fun t b hb => ?_, R.βown, R.βinj, R.Gnew, R.E, R.n0, R.D, R.X⟩
  · simp only [drop, List.length_take, lenS_eq', R.len]
    have := leS_len σ σ' h
    omega
  · exact R.nodup.sublist (List.take_sublist _ _)
  · intro id b s' hb hs
    obtain ⟨s, hc, hl⟩ := leS_get σ σ' id s' h hs
    have hb' : S.θ[id]? = some b := by
      simp only [drop, List.getElem?_take] at hb
      split at hb
      · exact hb
      · cases hb
    exact leE_sound hl (R.box id b _ hb' hc)
  · obtain ⟨h1, h2, h3⟩ := R.βlt t b hb
    exact ⟨h1, h2, fun hm' => h3 (hm b hm')⟩
end
section
variable {E : Env} {O : Outer E} {S S' S0 : St} {w w' w0 : World} {A A' : Fm} {σ σ' : Sto} {ω : O.Ω} {a : Act} {K K' : XK O.Ω}
theorem Here.low (H : Here E O S w ω σ A a) (V : Ev S0 w0 S w) (h : low A σ A' σ') (hn : S0.θ.length = σ'.length) : Here E O (drop S (lenS σ')) w ω σ' A' a ∧ Ev S0 w0 (drop S (lenS σ')) w := by
  have hm : ∀ b, b ∈ (drop S (lenS σ')).θ → b ∈ S.θ := fun b hb => List.mem_of_mem_take hb
  refine ⟨⟨H.rep.low h.2, leF_sound A A' _ h.1 H.fr, ?_, ?_⟩, ?_⟩
  · obtain ⟨rs, hds, hnd, hr⟩ := H.marks
    refine ⟨rs, hds, hnd, fun r hr' => ?_⟩
    obtain ⟨h1, h2, h3⟩ := hr r hr'
    exact ⟨h1, fun hm' => h2 (hm r hm'), h3⟩
  · exact O.stable H.out (.refl _) rfl rfl (Nat.le_refl _) (fun _ _ _ => ⟨rfl, rfl⟩) (.refl _ _) (fun _ => Nat.le_refl _) H.rep.Gnew
  · refine ⟨fun id b hb => ?_, V.n0, V.X, V.E, V.xv, V.size, V.frame, V.G, V.imm, fun b hb => V.newθ b (hm b hb), V.newβ, V.newX, V.os⟩
    have hlt : id < S0.θ.length := by
      rcases Nat.lt_or_ge id S0.θ.length with h' | h'
      · exact h'
      · rw [List.getElem?_eq_none h'] at hb; cases hb
    simp only [drop, List.getElem?_take, lenS_eq']
    rw [if_pos (by omega)]
    exact V.θ id b hb
theorem AWP.low {ac : AC} (h : AWP E O ac K A' σ' ω) (hl : low A σ A' σ') (hn : lenS σ' = lenS σ) : AWP E O ac K A σ ω := by
  intro hs ro c S w a hc hr H
  have hlen : S.θ.length = σ'.length := by rw [H.rep.len, ← lenS_eq', ← lenS_eq', hn]
  obtain ⟨H', V⟩ := H.low (Ev.refl S w) hl hlen
  exact wpIn_mono (h hs ro c _ w a hc (hr.ev V) H') fun e a' w' h => h.trans V
theorem exists_least (p : Nat → Prop) (h : ∃ n, p n) : ∃ n, p n ∧ ∀ m, p m → n ≤ m := by
  obtain ⟨n, hn⟩ := h
  induction n using Nat.strongRecOn with
  | _ n ih =>
    by_cases hx : ∃ m, m < n ∧ p m
    · obtain ⟨m, h1, h2⟩ := hx
      exact ih m h1 h2
    · exact ⟨n, hn, fun m hm => Nat.le_of_not_lt fun hlt => hx ⟨m, hlt, hm⟩⟩
theorem awp_loop {ι : Type} {b : AC} (μ : ι → Nat) (Af : ι → Fm) (σf : ι → Sto) (ωf : ι → O.Ω) (i0 : ι) (h0 : low A σ (Af i0) (σf i0)) (hω : ω = ωf i0) (hn : ∀ i, lenS (σf i) = lenS σ)
    (step : ∀ i, AWP E O b (fun x A' σ' ω' => match x with
      | .norm => ∃ j, μ j < μ i ∧ low A' σ' (Af j) (σf j) ∧ ω' = ωf j
      | x => K x A' σ' ω') (Af i) (σf i) (ωf i)) : AWP E O (.loop b) K A σ ω := by
  intro hs ro c S w a hc hr H
  cases c with
  | loop c =>
    simp only [compC, Option.map_eq_some_iff, AC.loop.injEq] at hc
    obtain ⟨b', hb, rfl⟩ := hc
    let I : ι → Act → World → Prop := fun i a' w' => ∃ S', Here E O S' w' (ωf i) (σf i) (Af i) a' ∧ Ev S w S' w'
    have mk : ∀ a' w', (∃ i, I i a' w') → ∃ m, (∃ i, I i a' w' ∧ μ i = m) ∧ ∀ j, I j a' w' → m ≤ μ j := by
      rintro a' w' ⟨i, hi⟩
      obtain ⟨m, h1, h2⟩ := exists_least (fun m => ∃ i, I i a' w' ∧ μ i = m) ⟨μ i, i, hi, rfl⟩
      exact ⟨m, h1, fun j hj => h2 _ ⟨j, hj, rfl⟩⟩
    let M : Act → World → Nat := fun a' w' => Classical.epsilon fun m => (∃ i, I i a' w' ∧ μ i = m) ∧ ∀ j, I j a' w' → m ≤ μ j
    have hM : ∀ a' w', (∃ i, I i a' w') → (∃ i, I i a' w' ∧ μ i = M a' w') ∧ ∀ j, I j a' w' → M a' w' ≤ μ j := fun a' w' h => Classical.epsilon_spec (mk a' w' h)
    have hlen : ∀ i, S.θ.length = (σf i).length := fun i => by rw [H.rep.len, ← lenS_eq', ← lenS_eq', hn i]
    refine wpIn_loop (fun a' w' => ∃ i, I i a' w') M ?_ ?_
    · subst hω
      obtain ⟨H', V⟩ := H.low (Ev.refl S w) h0 (hlen i0)
      exact ⟨i0, _, H', V⟩
    · intro a' w' hI
      obtain ⟨⟨i, ⟨S', H', V⟩, hi⟩, _⟩ := hM a' w' hI
      refine wpIn_mono (step i hs ro c S' w' a' hb (hr.ev V) H') ?_
      rintro e a'' w'' ⟨x, A'', σ'', ω'', S'', rfl, hK, H'', V'⟩
      cases x with
      | norm =>
        obtain ⟨j, hlt, hl, rfl⟩ := hK
        obtain ⟨H3, V3⟩ := H''.low (V.trans V') hl (hlen j)
        have hj : I j a'' w'' := ⟨_, H3, V3⟩
        refine ⟨⟨j, hj⟩, ?_⟩
        have := (hM a'' w'' ⟨j, hj⟩).2 j hj
        omega
      | exit id => exact ⟨.exit id, A'', σ'', ω'', S'', rfl, hK, H'', V.trans V'⟩
      | ret => exact ⟨.ret, A'', σ'', ω'', S'', rfl, hK, H'', V.trans V'⟩
  | region id ops d =>
    simp only [compC, compRegion] at hc
    repeat' split at hc
    all_goals simp at hc
  | _ =>
    simp only [compC] at hc
    repeat' split at hc
    all_goals simp at hc
end
end Go.Ly
end
section
namespace Go.Ly
open Classical
def solV (v : AV) : AV := match solid v with | true => v | false => .any
def solL : List AV → List AV
  | [] => []
  | v :: vs => solV v :: solL vs
mutual
def outA (u : Bool) (m : Nat) (σ : Sto) : AV → AV
  | .ptr id off =>
    match natLe (id + 1) m with
    | true => .any
    | false => match getS σ id with | some (.bx cs) => .cb (solL (wkL cs)) off | _ => .any
  | .mp id =>
    match natLe (id + 1) m with
    | true => .any
    | false => match getS σ id with | some (.md ep x) => .cmd ep x | some (.mf ks vs) => .cm ks (solL vs) | _ => .any
  | .own _ sz es ep => .d ep (.row sz es)
  | .uq _ sz es ep => match u with | true => .d ep (.row sz es) | false => .any
  | .agg cs => mkAgg (outL u m σ cs)
  | .fn f a c => .fn f (outL u m σ a) (outL u m σ c)
  | v => solV v
def outL (u : Bool) (m : Nat) (σ : Sto) : List AV → List AV
  | [] => []
  | v :: vs => outA u m σ v :: outL u m σ vs
end
def outC (u : Bool) (m : Nat) (σ : Sto) : AV → AV
  | .ptr id off => match natLe (id + 1) m with | true => .ptr id off | false => outA u m σ (.ptr id off)
  | .mp id => match natLe (id + 1) m with | true => .mp id | false => outA u m σ (.mp id)
  | v => outA u m σ v
def outCL (u : Bool) (m : Nat) (σ : Sto) : List AV → List AV
  | [] => []
  | v :: vs => outC u m σ v :: outCL u m σ vs
def outE (u : Bool) (m : Nat) (σ : Sto) : SE → SE
  | .bx cs => .bx (outCL u m σ cs)
  | .md ep x => .md ep x
  | .mf ks vs => .mf ks (solL vs)
def outS (u : Bool) (m : Nat) (σ : Sto) : Nat → Sto → Sto
  | 0, _ => []
  | _ + 1, [] => []
  | k + 1, s :: l => outE u m σ s :: outS u m σ k l
def retV (m : Nat) (σ : Sto) : AV → AV
  | .own _ sz es ep => .fresh sz es ep
  | .uq _ sz es ep => .fresh sz es ep
  | v => outA true m σ v
def retU : AV → Bool
  | .uq _ _ _ _ => false
  | _ => true
def resA (A : Fm) (σ : Sto) : ARV → Option AV
  | .tmp t => some (gt A t)
  | .cell t sz ag => match loadA σ (gt A t) sz ag with | some (_, v) => some v | none => none
def resL (A : Fm) (σ : Sto) : List ARV → Option (List AV)
  | [] => some []
  | r :: rs =>
    match resA A σ r with
    | none => none
    | some v => match resL A σ rs with | none => none | some vs => some (v :: vs)
def retK {Ω : Type} (m : Nat) (rs : List ARV) (K : AV → Sto → Ω → Prop) : XK Ω
  | .exit _, _, _, _ => False
  | _, A, σ, ω =>
    match resL A σ rs with
    | some [v] => K (retV m σ v) (outS (retU v) m σ m σ) ω
    | some vs => K (.tup (outL true m σ vs)) (outS true m σ m σ) ω
    | none => False
def anyN : Nat → Fm
  | 0 => []
  | n + 1 => .any :: anyN n
def frame0 (args : List AV) (n : Nat) : Fm := appendL args (anyN (n - len args))
def readR (tmps : Array Value) : ResultVar → Sem Value
  | .tmp t => pure (tmps.getD t undef)
  | .cell a t => do loadVar t (← asAddr (tmps.getD a undef))
section
variable {E : Env} {O : Outer E} {S S' S0 : St} {w w' w0 : World} {A A' : Fm} {σ σ' : Sto} {ω : O.Ω} {a : Act}
theorem ld_sound {x : AV} {u : Value} {t : TypeId} {n : Nat} {ag : Bool} {q : Prop} {v : AV} (h : RdA E.φ S w x u) (hs : sizeT E.P t = some n) (ha : aggT E.P t = some ag) (hag : ag = false → n = 1)
    (hB : Boxes E S w σ) (hv : loadA σ x n ag = some (q, v)) : ∃ val, (do loadVar t (← asAddr u) : Sem Value).run E.P w = .ok val w ∧ RdA E.φ S w v val := by
  have hp : ∃ ad, u = .pointer (some ad) := by
    unfold loadA at hv
    split at hv
    · simp only [RdA] at h; obtain ⟨b, _, e⟩ := h; exact ⟨_, e⟩
    · simp only [RdA] at h; obtain ⟨b, _, e, _⟩ := h; exact ⟨_, e⟩
    · simp only [RdA] at h; obtain ⟨b, _, e, _⟩ := h; exact ⟨_, e⟩
    · simp only [RdA] at h; obtain ⟨b, _, _, e, _⟩ := h; exact ⟨_, e⟩
    · simp only [RdA] at h; obtain ⟨b, _, _, e, _⟩ := h; exact ⟨_, e⟩
    · cases hv
  obtain ⟨ad, rfl⟩ := hp
  obtain ⟨val, hr, hval⟩ := g_ld (E := E) (S := S) (w := w) (A := [x]) (σ := σ) (a := { tmps := #[.pointer (some ad)], defers := [] }) (o := { (default : Oper) with op := .load t (.tmp 0) }) (x := .tmp 0) (y := .s 0) (q := q) (v := v)
    rfl rfl hs ha hag ⟨_, [], rfl, h, rfl⟩ hB hv
  refine ⟨val, ?_, hval⟩
  simp only [execOp, Act.eval, Instr.loadAt, Sem.run_bind] at hr
  have e1 : (#[Value.pointer (some ad)] : Array Value).getD 0 undef = .pointer (some ad) := rfl
  simp only [e1, Instr.sureAddr, Sem.run_pure, Result.andThen_ok] at hr
  simp only [Sem.run_bind, asAddr, Sem.run_pure, Result.andThen_ok]
  cases hl : (loadVar t ad).run E.P w with
  | ok u' w' =>
    rw [hl] at hr
    simp only [Result.andThen_ok, Result.ok.injEq, Next.value.injEq] at hr
    rw [hr.1, hr.2]
  | halt h' w' =>
    rw [hl] at hr
    simp [Result.andThen] at hr
theorem results_sound (hA : RdF E.φ S w A a.tmps.toList) (hB : Boxes E S w σ) : ∀ {fs : List ResultVar} {rs : List ARV} {vs : List AV}, fs.mapM (compR E.P) = some rs → resL A σ rs = some vs →
    ∃ us : List Value, (fs.mapM (m := Sem) (readR a.tmps)).run E.P w = .ok us w ∧ All2 (RdA E.φ S w) vs us
  | [], rs, vs, h, h' => by
    simp only [List.mapM_nil, pure, Option.some.injEq] at h
    subst h
    simp only [resL, Option.some.injEq] at h'
    subst h'
    exact ⟨[], by simp only [List.mapM_nil, Sem.run_pure], .nil⟩
  | f :: fs, rs, vs, h, h' => by
    rw [List.mapM_cons] at h
    cases hf : compR E.P f with
    | none => rw [hf] at h; cases h
    | some r =>
      cases hfs : fs.mapM (compR E.P) with
      | none => rw [hf, hfs] at h; cases h
      | some rs' =>
        rw [hf, hfs] at h
        cases h
        simp only [resL] at h'
        split at h'
        · cases h'
        · rename_i v hv
          split at h'
          · cases h'
          · rename_i vs' hvs
            cases h'
            obtain ⟨us, hr, hall⟩ := results_sound (fs := fs) hA hB hfs hvs
            have get : ∀ t, RdA E.φ S w (gt A t) (a.tmps.getD t undef) := fun t => by
              have := RdF_get A _ t hA
              rwa [show (a.tmps.toList[t]?).getD undef = a.tmps.getD t undef by simp] at this
            cases f with
            | tmp t =>
              simp only [compR, Option.some.injEq] at hf
              subst hf
              simp only [resA, Option.some.injEq] at hv
              subst hv
              exact ⟨_ :: us, by simp only [List.mapM_cons, readR, Sem.run_bind, Sem.run_pure, Result.andThen_ok, hr], .cons (get t) hall⟩
            | cell ad t =>
              simp only [compR] at hf
              have key : ∀ n ag, sizeT E.P t = some n → aggT E.P t = some ag → (ag = false → n = 1) → r = .cell ad n ag →
                  ∃ us : List Value, ((ResultVar.cell ad t :: fs).mapM (m := Sem) (readR a.tmps)).run E.P w = .ok us w ∧ All2 (RdA E.φ S w) (v :: vs') us := by
                rintro n ag h1 h2 h3 rfl
                simp only [resA] at hv
                split at hv
                · rename_i q v' hl
                  cases hv
                  obtain ⟨val, hrun, hval⟩ := ld_sound (get ad) h1 h2 h3 hB hl
                  exact ⟨val :: us, by rw [List.mapM_cons, Sem.run_bind, readR, hrun]; simp only [Sem.run_bind, Sem.run_pure, Result.andThen_ok, hr], .cons hval hall⟩
                · cases hv
              split at hf
              · rename_i s h1 h2
                cases hf
                exact key s true h1 h2 (fun e => by cases e) rfl
              · rename_i h1 h2
                cases hf
                exact key 1 false h1 h2 (fun _ => rfl) rfl
              · cases hf
def Foreign (S : St) (w : World) (b : Nat) : Prop := b ∉ S.θ ∧ (∀ t, S.β t ≠ some b) ∧ ¬ S.X b ∧ S.n0 ≤ b ∧ NoC w b
theorem foreign_step (R : Rep E S w σ) (hs : w.heap.size ≤ w'.heap.size) (h : ∀ b, b < w.heap.size → w'.heap[b]? = w.heap[b]? ∨ Foreign S w b) :
    Keeps [] [] S w S w' ∧ Rep E S w' σ ∧ ∀ b, b < w.heap.size → S.X b → w'.heap[b]? = w.heap[b]? ∧ S.G b = S.G b := by
  have imm : Imm All w S.G w' := by
    refine ⟨fun b i v _ _ hc => ?_, fun b es k _ _ hb => ?_⟩
    · rcases h b (cell_lt hc) with h1 | h1
      · rw [cell_same h1]; exact hc
      · rw [h1.2.2.2.2.1 i] at hc; cases hc
    · rcases h b (heap_lt hb) with h1 | h1
      · rw [h1]; exact hb
      · exact absurd hb (h1.2.2.2.2.2 es k)
  have own : ∀ t b, S.β t = some b → w'.heap[b]? = w.heap[b]? := by
    intro t b hb
    rcases h b (R.βlt t b hb).1 with h1 | h1
    · exact h1
    · exact absurd hb (h1.2.1 t)
  have K : Keeps [] [] S w S w' := ⟨⟨fun _ _ h => h, rfl, rfl, fun _ => Nat.le_refl _, hs, imm, fun t b _ hb => ⟨hb, rfl, own t b hb⟩, fun _ _ h => h, fun _ _ => rfl⟩, fun b h1 h2 h3 h4 => ⟨⟨h1, h2, h3, h4⟩, by
    rcases h b (Nat.lt_of_lt_of_le h1 R.n0) with h' | h'
    · exact h'
    · have := h'.2.2.2.1; omega⟩⟩
  refine ⟨K, ⟨R.len, R.nodup, ?_, fun b hb => ⟨Nat.lt_of_lt_of_le (R.θlt b hb).1 hs, (R.θlt b hb).2⟩, R.θX, fun t b hb => ⟨Nat.lt_of_lt_of_le (R.βlt t b hb).1 hs, (R.βlt t b hb).2⟩, R.βown, R.βinj,
    fun b hb => R.Gnew b (Nat.le_trans hs hb), Nat.le_trans R.E hs, Nat.le_trans R.n0 hs, R.D, fun b hb => ⟨Nat.lt_of_lt_of_le (R.X b hb).1 hs, (R.X b hb).2⟩⟩, ?_⟩
  · intro id b s hb hc
    have hm := List.mem_of_getElem? hb
    have hsame : w'.heap[b]? = w.heap[b]? := by
      rcases h b (R.θlt b hm).1 with h1 | h1
      · exact h1
      · exact absurd hm h1.1
    have := RepE_keep K hsame (R.box id b s hb hc)
    rwa [SE.demote_nil] at this
  · intro b hb hX
    rcases h b hb with h1 | h1
    · exact ⟨h1, rfl⟩
    · exact absurd hX h1.2.2.1
def sizeAt (w : World) (b : Nat) : Nat := match w.heap[b]? with | some (.cells cs _ _) => cs.size | some (.map _ _) => 1 | _ => 0
def markAt (w : World) (o : Option (Nat × Nat)) (b : Nat) : Nat := match o with | some (b', n) => if b' = b then n else sizeAt w b | none => sizeAt w b
noncomputable def froz (S : St) (w : World) (m : Nat) (o : Option (Nat × Nat)) : St :=
  { S with θ := S.θ.take m, β := fun _ => none, G := fun b => if b ∈ S.θ.drop m ∨ ∃ t, S.β (2 * t + 1) = some b then Nat.max (S.G b) (markAt w o b) else S.G b }
variable {m : Nat} {o : Option (Nat × Nat)} {u : Bool}
theorem froz_G (b : Nat) : S.G b ≤ (froz S w m o).G b := by
  simp only [froz]
  split
  · exact Nat.le_max_left _ _
  · exact Nat.le_refl _
theorem froz_box (R : Rep E S w σ) (ho : ∀ p, o = some p → ∃ t, S.β (2 * t + 1) = some p.1) {b : Nat} (hb : b ∈ S.θ.drop m) : sizeAt w b ≤ (froz S w m o).G b := by
  simp only [froz]
  rw [if_pos (.inl hb)]
  have : markAt w o b = sizeAt w b := by
    unfold markAt
    split
    · rename_i b' n
      obtain ⟨t, ht⟩ := ho _ rfl
      rw [if_neg]
      rintro rfl
      exact (R.βlt _ _ ht).2.2 (List.mem_of_mem_drop hb)
    · rfl
  rw [this]
  exact Nat.le_max_right _ _
theorem froz_uq {t b : Nat} (h : S.β (2 * t + 1) = some b) (hg : S.G b = 0) : (froz S w m o).G b = markAt w o b := by
  simp only [froz]
  rw [if_pos (.inr ⟨t, h⟩), hg]
  exact Nat.max_eq_right (Nat.zero_le _)
theorem rep_lent (R : Rep E S w σ) {b : Nat} (hb : b ∈ S.θ.take m) : (froz S w m o).G b = S.G b := by
  simp only [froz]
  rw [if_neg]
  rintro (h | ⟨t, ht⟩)
  · have hnd := R.nodup
    rw [← List.take_append_drop m S.θ] at hnd
    exact (List.nodup_append.1 hnd).2.2 b hb b h rfl
  · exact (R.βlt _ _ ht).2.2 (List.mem_of_mem_take hb)
structure SeesE (S S' : St) : Prop where
  E : S'.E = S.E
  xv : S'.xv = S.xv
  G : ∀ b, S.G b ≤ S'.G b
theorem froz_sees : SeesE S (froz S w m o) := ⟨rfl, rfl, froz_G⟩
theorem SeesE.grow (V : SeesE S S') (ep : Ep) : Grow w S.G (epB S.E ep) w S'.G (epB S'.E ep) := ⟨.refl _ _, V.G, Nat.le_refl _, fun b _ hb => by rw [V.E]; exact hb⟩
mutual
theorem solid_seesE (V : SeesE S S') : ∀ (x : AV) (v : Value), solid x = true → RdA E.φ S w x v → RdA E.φ S' w x v
  | .any, _, _, _ => trivial
  | .d ep x, v, _, h => RdD_mono (V.grow ep) x v h
  | .at ep x off, v, _, h => by
    simp only [RdA] at h ⊢
    obtain ⟨b, o, y, e, hy, hc, hg⟩ := h
    exact ⟨b, o, y, e, RdD_mono (V.grow ep) x _ hy, hc, Nat.le_trans hg (V.G b)⟩
  | .ext i, v, _, h => by
    simp only [RdA] at h ⊢
    rw [V.xv]; exact h
  | .agg cs, v, hx, h => by
    simp only [solid] at hx
    simp only [RdA] at h ⊢
    obtain ⟨vs, e, h⟩ := h
    exact ⟨vs, e, solidAs_seesE V cs vs hx h⟩
  | .tup cs, v, hx, h => by
    simp only [solid] at hx
    simp only [RdA] at h ⊢
    obtain ⟨vs, e, h⟩ := h
    exact ⟨vs, e, solidNs_seesE V cs vs hx h⟩
  | .cb cs off, v, hx, h => by
    simp only [solid] at hx
    simp only [RdA] at h ⊢
    obtain ⟨b, vs, e, hc, hg, ho, hn⟩ := h
    exact ⟨b, vs, e, hc, Nat.le_trans hg (V.G b), ho, solidAs_seesE V cs vs hx hn⟩
  | .fb cs off, v, hx, _ => by simp [solid] at hx
  | .sb sz n cs, v, hx, h => by
    simp only [solid] at hx
    simp only [RdA] at h ⊢
    obtain ⟨b, cap, vs, e, h1, h2, hc, hg, ho, hn⟩ := h
    exact ⟨b, cap, vs, e, h1, h2, hc, Nat.le_trans hg (V.G b), ho, solidAs_seesE V cs vs hx hn⟩
  | .cmd ep m, v, _, h => by
    simp only [RdA] at h ⊢
    obtain ⟨b, es, k, e, hb, hg, hm⟩ := h
    exact ⟨b, es, k, e, hb, Nat.lt_of_lt_of_le hg (V.G b), RdM_mono (V.grow ep) m _ hm⟩
  | .cm ks cs, v, hx, h => by
    simp only [solid] at hx
    simp only [RdA] at h ⊢
    obtain ⟨b, es, k, e, hb, hg, hm⟩ := h
    exact ⟨b, es, k, e, hb, Nat.lt_of_lt_of_le hg (V.G b), solidKs_seesE V cs ks _ hx hm⟩
  | .fn f x c, v, hx, h => by
    simp only [solid, Bool.and_eq_true] at hx
    simp only [RdA] at h ⊢
    obtain ⟨va, vc, e, h1, h2⟩ := h
    exact ⟨va, vc, e, solidNs_seesE V x va hx.1 h1, solidNs_seesE V c vc hx.2 h2⟩
  | .own _ _ _ _, _, hx, _ => by simp [solid] at hx
  | .uq _ _ _ _, _, hx, _ => by simp [solid] at hx
  | .up _ _ _ _ _ _, _, hx, _ => by simp [solid] at hx
  | .fresh _ _ _, _, hx, _ => by simp [solid] at hx
  | .pk _, _, hx, _ => by simp [solid] at hx
  | .mp _, _, hx, _ => by simp [solid] at hx
  | .ptr _ _, _, hx, _ => by simp [solid] at hx
theorem solidAs_seesE (V : SeesE S S') : ∀ (xs : List AV) (vs : List Value), solidL xs = true → RdAs E.φ S w xs vs → RdAs E.φ S' w xs vs
  | [], vs, _, h => by simp only [RdAs] at h ⊢; exact h
  | x :: xs, vs, hx, h => by
    simp only [solidL, Bool.and_eq_true] at hx
    simp only [RdAs] at h ⊢
    obtain ⟨v, rest, e, hn, h1, h2⟩ := h
    exact ⟨v, rest, e, hn, solid_seesE V x v hx.1 h1, solidAs_seesE V xs rest hx.2 h2⟩
theorem solidNs_seesE (V : SeesE S S') : ∀ (xs : List AV) (vs : List Value), solidL xs = true → RdNs E.φ S w xs vs → RdNs E.φ S' w xs vs
  | [], vs, _, h => by simp only [RdNs] at h ⊢; exact h
  | x :: xs, vs, hx, h => by
    simp only [solidL, Bool.and_eq_true] at hx
    simp only [RdNs] at h ⊢
    obtain ⟨v, rest, e, hn, h1, h2⟩ := h
    exact ⟨v, rest, e, hn, solid_seesE V x v hx.1 h1, solidNs_seesE V xs rest hx.2 h2⟩
theorem solidKs_seesE (V : SeesE S S') : ∀ (xs : List AV) (ks : List D) (es : List MapEntry), solidL xs = true → RdKs E.φ S w xs ks es → RdKs E.φ S' w xs ks es
  | [], ks, es, _, h => by simp only [RdKs] at h ⊢; exact h
  | x :: xs, ks, es, hx, h => by
    simp only [solidL, Bool.and_eq_true] at hx
    simp only [RdKs] at h ⊢
    obtain ⟨k, ks', e, rest, e1, e2, hk, h0, hn, h1, h2⟩ := h
    exact ⟨k, ks', e, rest, e1, e2, hk, RdD_mono (V.grow .top) k _ h0, hn, solid_seesE V x _ hx.1 h1, solidKs_seesE V xs ks' rest hx.2 h2⟩
end
theorem solV_sound {x : AV} {v : Value} (h : RdA E.φ S w x v) : solid (solV x) = true ∧ RdA E.φ (froz S w m o) w (solV x) v := by
  unfold solV
  cases hs : solid x with
  | true => exact ⟨hs, solid_seesE froz_sees x v hs h⟩
  | false => exact ⟨rfl, trivial⟩
theorem drop_mem {l : List Nat} {id b : Nat} (hb : l[id]? = some b) (hm : natLe (id + 1) m = false) : b ∈ l.drop m := by
  have hge : m ≤ id := by
    rcases Nat.lt_or_ge id m with h' | h'
    · have : natLe (id + 1) m = true := by rw [natLe_iff]; omega
      rw [this] at hm; cases hm
    · exact h'
  refine List.mem_of_getElem? (i := id - m) ?_
  rw [List.getElem?_drop, show m + (id - m) = id by omega]
  exact hb
theorem solV_notAgg {x : AV} (h : notAgg x) : notAgg (solV x) := by
  unfold solV
  cases solid x with
  | true => exact h
  | false => trivial
theorem solL_sound : ∀ {xs : List AV} {vs : List Value}, RdAs E.φ S w xs vs → solidL (solL xs) = true ∧ RdAs E.φ (froz S w m o) w (solL xs) vs
  | [], vs, h => ⟨rfl, h⟩
  | x :: xs, vs, h => by
    simp only [RdAs] at h
    obtain ⟨v, rest, e, hn, h1, h2⟩ := h
    obtain ⟨i1, i2⟩ := solL_sound h2
    obtain ⟨g1, g2⟩ := solV_sound (m := m) (o := o) h1
    simp only [solL, solidL, Bool.and_eq_true, RdAs]
    exact ⟨⟨g1, i1⟩, v, rest, e, solV_notAgg hn, g2, i2⟩
theorem solid_closed : ∀ x : AV, solid x = true → noOwn x = true := by
  intro x h
  cases x with
  | own => simp [solid] at h
  | uq => simp [solid] at h
  | up => simp [solid] at h
  | fresh => simp [solid] at h
  | pk => simp [solid] at h
  | agg cs =>
    simp only [solid] at h
    simp only [noOwn]
    induction cs with
    | nil => rfl
    | cons c cs ih =>
      simp only [solidL, Bool.and_eq_true] at h
      cases c <;> first
        | (simp [solid] at h; done)
        | (simp only [noOwn.noOwnL]; exact ih h.2)
  | _ => rfl
theorem solK_sound : ∀ {xs : List AV} {ks : List D} {es : List MapEntry}, RdKs E.φ S w xs ks es → solidL (solL xs) = true ∧ RdKs E.φ (froz S w m o) w (solL xs) ks es
  | [], ks, es, h => ⟨rfl, by simpa only [RdKs, solL] using h⟩
  | x :: xs, ks, es, h => by
    simp only [RdKs] at h
    obtain ⟨k, ks', e, rest, e1, e2, hk, h0, hn, h1, h2⟩ := h
    obtain ⟨i1, i2⟩ := solK_sound h2
    obtain ⟨g1, g2⟩ := solV_sound (m := m) (o := o) h1
    simp only [solL, solidL, Bool.and_eq_true, RdKs]
    exact ⟨⟨g1, i1⟩, k, ks', e, rest, e1, e2, hk, RdD_mono (froz_sees.grow .top) k _ h0, solid_closed _ g1, g2, i2⟩
theorem solid_mkAgg (cs : List AV) (h : solidL cs = true) : solid (mkAgg cs) = true := by
  unfold mkAgg
  cases toDs cs with
  | some p => rfl
  | none => simpa [solid] using h
theorem outA_notAgg {x : AV} (h : notAgg x) : notAgg (outA u m σ x) := by
  cases x <;> unfold outA <;> (try exact h.elim) <;> (try exact solV_notAgg h) <;> (repeat' split) <;> trivial
theorem uq_d {t sz : Nat} {es : List D} {ep : Ep} {v : Value} (h : RdUq S w t sz es ep v) : RdD w (froz S w m none).G (epB S.E ep) (.row sz es) v := by
  rcases h with ⟨_, rfl, rfl⟩ | ⟨b, vs, cs, T, hβ, hv, hl, hh, hcap, hcs, he, hG, hc, hr⟩
  · exact (RdD_nilrow (.inl rfl))
  · simp only [RdD]
    have hlen : es.length * sz ≤ cs.size := by
      rw [hl]
      exact Nat.le_trans (Nat.mul_le_mul_right _ hcap) hcs
    refine .inr ⟨b, 0, (S.ln t).2, vs, by rw [hl]; exact hv, by rw [hl]; exact hcap, ⟨heap_lt hh, he⟩, ?_, hc, RdRow_mono ((froz_sees (S := S)).grow ep) _ _ _ hr⟩
    rw [froz_uq hβ hG]
    simp only [markAt, sizeAt, hh, Nat.zero_add]
    exact hlen
mutual
theorem outA_sound (R : Rep E S w σ) (ho : ∀ p, o = some p → ∃ t, S.β (2 * t + 1) = some p.1) (hu : u = true → o = none) : ∀ (x : AV) (v : Value), RdA E.φ S w x v → solid (outA u m σ x) = true ∧ RdA E.φ (froz S w m o) w (outA u m σ x) v
  | .ptr id off, v, h => by
    simp only [RdA] at h
    obtain ⟨b, hb, rfl⟩ := h
    unfold outA
    split
    · exact ⟨rfl, trivial⟩
    · rename_i hm
      rw [getS_eq]
      cases hs : σ[id]? with
      | none => exact ⟨rfl, trivial⟩
      | some s =>
        cases s with
        | bx cs =>
          obtain ⟨vs, T, hh, hr⟩ := R.box id b _ hb hs
          obtain ⟨h1, h2⟩ := solL_sound (m := m) (o := o) (wkL_sound hr)
          refine ⟨by simpa [solid] using h1, ?_⟩
          simp only [RdA]
          refine ⟨b, vs, rfl, ?_, ?_, solid_closed (.agg _) (by simpa [solid] using h1), h2⟩
          · intro i v hv
            rw [Nat.zero_add, cell_of_box hh]
            exact hv
          · refine Nat.le_trans ?_ (froz_box R ho (drop_mem hb hm))
            simp only [sizeAt, hh]
            exact Nat.le_refl _
        | _ => exact ⟨rfl, trivial⟩
  | .mp id, v, h => by
    simp only [RdA] at h
    obtain ⟨b, hb, rfl⟩ := h
    unfold outA
    split
    · exact ⟨rfl, trivial⟩
    · rename_i hm
      rw [getS_eq]
      cases hs : σ[id]? with
      | none => exact ⟨rfl, trivial⟩
      | some s =>
        have hg := froz_box R ho (drop_mem hb hm)
        cases s with
        | bx cs => exact ⟨rfl, trivial⟩
        | md ep x =>
          obtain ⟨es, k, hh, hr⟩ := R.box id b _ hb hs
          refine ⟨rfl, ?_⟩
          simp only [RdA]
          refine ⟨b, es, k, rfl, hh, ?_, RdM_mono (froz_sees.grow ep) x _ hr⟩
          simp only [sizeAt, hh] at hg
          exact hg
        | mf ks vs =>
          obtain ⟨es, k, hh, hr⟩ := R.box id b _ hb hs
          obtain ⟨h1, h2⟩ := solK_sound (m := m) (o := o) hr
          refine ⟨by simpa [solid] using h1, ?_⟩
          simp only [RdA]
          refine ⟨b, es, k, rfl, hh, ?_, h2⟩
          simp only [sizeAt, hh] at hg
          exact hg
  | .own t sz es ep, v, h => by
    simp only [RdA] at h
    unfold outA
    exact ⟨rfl, RdD_mono (froz_sees.grow ep) _ _ (RdOwn_d h)⟩
  | .uq t sz es ep, v, h => by
    simp only [RdA] at h
    unfold outA
    cases u with
    | false => exact ⟨rfl, trivial⟩
    | true =>
      rw [hu rfl]
      exact ⟨rfl, uq_d h⟩
  | .agg cs, v, h => by
    simp only [RdA] at h
    obtain ⟨vs, rfl, h⟩ := h
    obtain ⟨h1, h2⟩ := outAs_sound R ho hu cs vs h
    unfold outA
    exact ⟨solid_mkAgg _ h1, mkAgg_sound h2⟩
  | .fn f a c, v, h => by
    simp only [RdA] at h
    obtain ⟨va, vc, e, h1, h2⟩ := h
    obtain ⟨i1, i2⟩ := outNs_sound R ho hu a va h1
    obtain ⟨j1, j2⟩ := outNs_sound R ho hu c vc h2
    unfold outA
    simp only [solid, Bool.and_eq_true, RdA]
    exact ⟨⟨i1, j1⟩, va, vc, e, i2, j2⟩
  | .any, v, h => by unfold outA; exact solV_sound h
  | .d _ _, v, h => by unfold outA; exact solV_sound h
  | .tup _, v, h => by unfold outA; exact solV_sound h
  | .up _ _ _ _ _ _, v, h => by unfold outA; exact solV_sound h
  | .fresh _ _ _, v, h => by unfold outA; exact solV_sound h
  | .pk _, v, h => by unfold outA; exact solV_sound h
  | .at _ _ _, v, h => by unfold outA; exact solV_sound h
  | .cb _ _, v, h => by unfold outA; exact solV_sound h
  | .fb _ _, v, h => by unfold outA; exact solV_sound h
  | .sb _ _ _, v, h => by unfold outA; exact solV_sound h
  | .cmd _ _, v, h => by unfold outA; exact solV_sound h
  | .cm _ _, v, h => by unfold outA; exact solV_sound h
  | .ext _, v, h => by unfold outA; exact solV_sound h
theorem outAs_sound (R : Rep E S w σ) (ho : ∀ p, o = some p → ∃ t, S.β (2 * t + 1) = some p.1) (hu : u = true → o = none) : ∀ (xs : List AV) (vs : List Value), RdAs E.φ S w xs vs → solidL (outL u m σ xs) = true ∧ RdAs E.φ (froz S w m o) w (outL u m σ xs) vs
  | [], vs, h => by
    simp only [RdAs] at h
    unfold outL
    exact ⟨rfl, by simp only [RdAs]; exact h⟩
  | x :: xs, vs, h => by
    simp only [RdAs] at h
    obtain ⟨v, rest, e, hn, h1, h2⟩ := h
    obtain ⟨g1, g2⟩ := outA_sound R ho hu x v h1
    obtain ⟨i1, i2⟩ := outAs_sound R ho hu xs rest h2
    unfold outL
    simp only [solidL, Bool.and_eq_true, RdAs]
    exact ⟨⟨g1, i1⟩, v, rest, e, outA_notAgg hn, g2, i2⟩
theorem outNs_sound (R : Rep E S w σ) (ho : ∀ p, o = some p → ∃ t, S.β (2 * t + 1) = some p.1) (hu : u = true → o = none) : ∀ (xs : List AV) (vs : List Value), RdNs E.φ S w xs vs → solidL (outL u m σ xs) = true ∧ RdNs E.φ (froz S w m o) w (outL u m σ xs) vs
  | [], vs, h => by
    simp only [RdNs] at h
    unfold outL
    exact ⟨rfl, by simp only [RdNs]; exact h⟩
  | x :: xs, vs, h => by
    simp only [RdNs] at h
    obtain ⟨v, rest, e, hn, h1, h2⟩ := h
    obtain ⟨g1, g2⟩ := outA_sound R ho hu x v h1
    obtain ⟨i1, i2⟩ := outNs_sound R ho hu xs rest h2
    unfold outL
    simp only [solidL, Bool.and_eq_true, RdNs]
    exact ⟨⟨g1, i1⟩, v, rest, e, solid_closed _ g1, g2, i2⟩
end
theorem outVs_sound (R : Rep E S w σ) (ho : ∀ p, o = some p → ∃ t, S.β (2 * t + 1) = some p.1) (hu : u = true → o = none) : ∀ {xs : List AV} {vs : List Value}, All2 (RdA E.φ S w) xs vs → solidL (outL u m σ xs) = true ∧ RdNs E.φ (froz S w m o) w (outL u m σ xs) vs
  | [], _, .nil => by unfold outL; exact ⟨rfl, rfl⟩
  | x :: xs, v :: vs, .cons h1 h2 => by
    obtain ⟨i1, i2⟩ := outVs_sound R ho hu h2
    obtain ⟨g1, g2⟩ := outA_sound R ho hu x v h1
    unfold outL
    simp only [solidL, Bool.and_eq_true, RdNs]
    exact ⟨⟨g1, i1⟩, v, vs, rfl, solid_closed _ g1, g2, i2⟩
theorem lentV_solid {n : Nat} {x : AV} (h : solid x = true) : lentV n x = true := by
  unfold lentV
  split
  · simp [solid] at h
  · simp [solid] at h
  · exact h
theorem outC_sound (R : Rep E S w σ) (ho : ∀ p, o = some p → ∃ t, S.β (2 * t + 1) = some p.1) (hu : u = true → o = none) {x : AV} {v : Value} (hn : notAgg x) (h : RdA E.φ S w x v) :
    lentV m (outC u m σ x) = true ∧ notAgg (outC u m σ x) ∧ RdA E.φ (froz S w m o) w (outC u m σ x) v := by
  have keep : ∀ id, natLe (id + 1) m = true → ∀ b, S.θ[id]? = some b → (froz S w m o).θ[id]? = some b := by
    intro id hm b hb
    rw [natLe_iff] at hm
    simp only [froz, List.getElem?_take]
    rw [if_pos (by omega)]
    exact hb
  have gen : lentV m (outA u m σ x) = true ∧ notAgg (outA u m σ x) ∧ RdA E.φ (froz S w m o) w (outA u m σ x) v :=
    have := outA_sound (m := m) R ho hu x v h
    ⟨lentV_solid this.1, outA_notAgg hn, this.2⟩
  unfold outC
  split
  · split
    · rename_i hm
      refine ⟨hm, trivial, ?_⟩
      simp only [RdA] at h ⊢
      obtain ⟨b, hb, e⟩ := h
      exact ⟨b, keep _ hm b hb, e⟩
    · exact gen
  · split
    · rename_i hm
      refine ⟨hm, trivial, ?_⟩
      simp only [RdA] at h ⊢
      obtain ⟨b, hb, e⟩ := h
      exact ⟨b, keep _ hm b hb, e⟩
    · exact gen
  · exact gen
theorem outCL_sound (R : Rep E S w σ) (ho : ∀ p, o = some p → ∃ t, S.β (2 * t + 1) = some p.1) (hu : u = true → o = none) : ∀ {xs : List AV} {vs : List Value}, RdAs E.φ S w xs vs →
    lentL m (outCL u m σ xs) = true ∧ RdAs E.φ (froz S w m o) w (outCL u m σ xs) vs
  | [], vs, h => ⟨rfl, by simpa only [RdAs, outCL] using h⟩
  | x :: xs, vs, h => by
    simp only [RdAs] at h
    obtain ⟨v, rest, e, hn, h1, h2⟩ := h
    obtain ⟨i1, i2⟩ := outCL_sound R ho hu h2
    obtain ⟨g1, g2, g3⟩ := outC_sound R ho hu hn h1
    simp only [outCL, lentL, Bool.and_eq_true, RdAs]
    exact ⟨⟨g1, i1⟩, v, rest, e, g2, g3, i2⟩
theorem outE_sound (R : Rep E S w σ) (ho : ∀ p, o = some p → ∃ t, S.β (2 * t + 1) = some p.1) (hu : u = true → o = none) {b : Nat} {s : SE} (h : RepE E S w b s) : lentE m (outE u m σ s) = true ∧ RepE E (froz S w m o) w b (outE u m σ s) := by
  cases s with
  | bx cs =>
    obtain ⟨vs, T, hh, hr⟩ := h
    obtain ⟨h1, h2⟩ := outCL_sound (m := m) R ho hu hr
    exact ⟨h1, vs, T, hh, h2⟩
  | md ep x =>
    obtain ⟨es, k, hh, hr⟩ := h
    exact ⟨rfl, es, k, hh, RdM_mono (froz_sees.grow ep) x _ hr⟩
  | mf ks vs =>
    obtain ⟨es, k, hh, hr⟩ := h
    obtain ⟨h1, h2⟩ := solK_sound (m := m) (o := o) hr
    exact ⟨h1, es, k, hh, h2⟩
theorem outS_len : ∀ (k : Nat) (l : Sto), (outS u m σ k l).length = min k l.length
  | 0, _ => by simp [outS]
  | k + 1, [] => by simp [outS]
  | k + 1, s :: l => by simp [outS, outS_len k l]
theorem outS_get : ∀ (k : Nat) (l : Sto) (id : Nat) (s' : SE), (outS u m σ k l)[id]? = some s' → ∃ s, l[id]? = some s ∧ s' = outE u m σ s
  | 0, _, id, s', h => by simp [outS] at h
  | k + 1, [], id, s', h => by simp [outS] at h
  | k + 1, s :: l, 0, s', h => by
    simp only [outS, List.getElem?_cons_zero, Option.some.injEq] at h
    exact ⟨s, rfl, h.symm⟩
  | k + 1, s :: l, id + 1, s', h => by
    simp only [outS, List.getElem?_cons_succ] at h ⊢
    exact outS_get k l id s' h
theorem outS_lent {l : Sto} (hall : ∀ s, s ∈ l → lentE m (outE u m σ s) = true) : ∀ (k : Nat), lentS m (outS u m σ k l) = true := by
  induction l with
  | nil => intro k; cases k <;> rfl
  | cons s l ih =>
    intro k
    cases k with
    | zero => rfl
    | succ k =>
      simp only [outS, lentS, Bool.and_eq_true]
      exact ⟨hall s (by simp), ih (fun s' hs => hall s' (by simp [hs])) k⟩
theorem rep_froz (R : Rep E S w σ) (ho : ∀ p, o = some p → ∃ t, S.β (2 * t + 1) = some p.1) (hu : u = true → o = none) : Rep E (froz S w m o) w (outS u m σ m σ) where
  len := by
    rw [outS_len]
    simp only [froz, List.length_take, R.len]
  nodup := R.nodup.sublist (List.take_sublist _ _)
  box := fun id b s hb hs => by
    obtain ⟨s0, h1, rfl⟩ := outS_get m σ id s hs
    have hb' : S.θ[id]? = some b := by
      simp only [froz, List.getElem?_take] at hb
      split at hb
      · exact hb
      · cases hb
    exact (outE_sound R ho hu (R.box id b s0 hb' h1)).2
  θlt := fun b hb => ⟨(R.θlt b (List.mem_of_mem_take hb)).1, by rw [rep_lent R hb]; exact (R.θlt b (List.mem_of_mem_take hb)).2⟩
  θX := fun b hb => R.θX b (List.mem_of_mem_take hb)
  βlt := fun t b hb => by simp [froz] at hb
  βown := fun t b hb => by simp [froz] at hb
  βinj := fun t t' b hb => by simp [froz] at hb
  Gnew := fun b hb => by
    simp only [froz]
    rw [if_neg]
    · exact R.Gnew b hb
    · rintro (h | ⟨t, ht⟩)
      · have := (R.θlt b (List.mem_of_mem_drop h)).1; omega
      · have := (R.βlt _ b ht).1; omega
  E := R.E
  n0 := R.n0
  D := R.D
  X := fun b hb => ⟨(R.X b hb).1, fun t => by simp [froz]⟩
theorem lent_froz (R : Rep E S w σ) (ho : ∀ p, o = some p → ∃ t, S.β (2 * t + 1) = some p.1) (hu : u = true → o = none) : lentS m (outS u m σ m σ) = true := by
  refine outS_lent (fun s hs => ?_) m
  obtain ⟨id, hid, he⟩ := List.getElem_of_mem hs
  have hs' : σ[id]? = some s := by rw [List.getElem?_eq_getElem hid, he]
  have hlt : id < S.θ.length := by rw [R.len]; exact hid
  exact (outE_sound R ho hu (R.box id _ s (List.getElem?_eq_getElem hlt) hs')).1
theorem retV_sound (R : Rep E S w σ) {x : AV} {v : Value} (h : RdA E.φ S w x v) (hnew : ∀ t b, S.β t = some b → S.n0 ≤ b) : ∃ o : Option (Nat × Nat), (∀ p, o = some p → ∃ t, S.β (2 * t + 1) = some p.1) ∧ (retU x = true → o = none) ∧ Res E (froz S w m o) w (retV m σ x) v := by
  have gen : retV m σ x = outA true m σ x → ∃ o : Option (Nat × Nat), (∀ p, o = some p → ∃ t, S.β (2 * t + 1) = some p.1) ∧ (retU x = true → o = none) ∧ Res E (froz S w m o) w (retV m σ x) v := by
    intro he
    refine ⟨none, fun p hp => (by cases hp), fun _ => rfl, ?_⟩
    rw [he]
    have := outA_sound (u := true) (m := m) (o := none) R (fun p hp => by cases hp) (fun _ => rfl) x v h
    generalize outA true m σ x = y at *
    cases y with
    | fresh => exact absurd this.1 (by simp [solid])
    | _ => exact this
  cases x with
  | own t sz es ep =>
    refine ⟨none, fun p hp => (by cases hp), fun _ => rfl, ?_⟩
    simp only [RdA] at h
    simp only [retV, Res]
    rcases h with ⟨hp, hd⟩ | ⟨b, of, cap, vs, cs, T, hP, e, hh, hcap, hcs, he, hg, hv, hr⟩
    · exact .inl ⟨hp, RdD_mono (froz_sees.grow ep) _ _ hd⟩
    · obtain ⟨h1, h2, h3⟩ := R.βlt _ b hP
      refine .inr ⟨b, of, cap, vs, cs, T, ⟨hnew _ b hP, fun hX => (R.X b hX).2 _ hP⟩, e, hh, hcap, hcs, he, ?_, hv, RdRow_mono (froz_sees.grow ep) _ _ _ hr⟩
      simp only [froz]
      rw [if_neg]
      · exact hg
      · rintro (h | ⟨t', ht'⟩)
        · exact h3 (List.mem_of_mem_drop h)
        · have := R.βinj _ _ b hP ht'; omega
  | uq t sz es ep =>
    simp only [RdA] at h
    simp only [retV, Res]
    rcases h with ⟨h1, rfl, rfl⟩ | ⟨b, vs, cs, T, hβ, hv, hl, hh, hcap, hcs, he, hG, hc, hr⟩
    · refine ⟨none, fun p hp => (by cases hp), fun hh => (by cases hh), .inl ⟨⟨none, rfl⟩, (RdD_nilrow (.inl rfl))⟩⟩
    · refine ⟨some (b, es.length * sz), fun p hp => (by cases hp; exact ⟨t, hβ⟩), fun hh => (by cases hh), .inr ⟨b, 0, (S.ln t).2, vs, cs, T, ⟨hnew _ b hβ, fun hX => (R.X b hX).2 _ hβ⟩, by rw [hl]; exact hv, hh, by rw [hl]; exact hcap, by omega, he, ?_, hc, RdRow_mono (froz_sees.grow ep) _ _ _ hr⟩⟩
      rw [froz_uq hβ hG]
      simp [markAt]
  | _ => exact gen rfl
end
end Go.Ly
end
