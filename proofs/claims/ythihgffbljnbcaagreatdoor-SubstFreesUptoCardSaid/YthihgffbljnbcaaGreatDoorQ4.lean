/- Part 5 of a proof: a layer that walks through Go code by evaluation, and contracts of functions; no condition. -/
import Derived.Test.YthihgffbljnbcaaGreatDoorQ3
import Derived.KernelRfl
import Derived.Test.YthihgffbljnbcaaGreatDoorCards
import Derived.Test.YthihgffbljnbcaaGreatDoorTie
import Derived.WalkKit
import Derived.ProofKit
import Derived.OpenShut
import Derived.JoinedCond
import Derived.Deep.DeepHandedRow
import Derived.Lib.LaidTab
import Derived.Stop.LaidErr
set_option linter.all false
section
namespace Go.Ly.Tr
set_option maxRecDepth 60000
theorem counts_snoc (d : List Sb) (e : Sb) (n : Nm) (i : List Nm) : Sb.counts (d ++ [e]) n i = if !(e.1 == n) && hasB i e.1 then Sb.counts d n i ++ [e] else Sb.counts d n i := by
  simp only [Sb.counts, List.filter_append, List.filter_cons, List.filter_nil]
  split <;> simp
theorem form_quant (o : UInt8) (n : Nm) (us : List Tm) (g : Frm) (gs : List Frm) (l : List Sb) (hq : isQ o = true) (hs : (Frm.mk o n us (g :: gs)).size ≤ 100000) (hl : Sb.sz l ≤ 500000)
    (ih : ∀ a ∈ g :: gs, ∀ l', Sb.sz l' ≤ Sb.sz l + 2 → Pure E 63 [.d .old (.row 4 (mapO Sb.d l')), .d .old a.d] (.d .new (a.put l').d)) :
    Pure E 63 [.d .old (.row 4 (mapO Sb.d l)), .d .old (Frm.mk o n us (g :: gs)).d] (.d .new ((Frm.mk o n us (g :: gs)).put l).d) := by
  have hlc := Sb.sz_counts l n g.frees
  have hnl := Sb.names_len (Sb.counts l n g.frees)
  have hll := Sb.sz_len l
  have hcl := Sb.sz_len (Sb.counts l n g.frees)
  have hqq := quant_ok .old (.mk o n us (g :: gs)) _ _ _ _ rfl
  rw [hq] at hqq
  have hcopy := copy_ok (.mk o n us (g :: gs)) (by omega)
  simp only [Frm.size, Frm.size.sizes] at hs
  have hfl := Frm.len_size (g :: gs)
  simp only [Frm.size.sizes] at hfl
  have hin := frees_len g
  have hit := free_iter g (by omega)
  have hgf : ∃ a b c d, g = .mk a b c d := by cases g; exact ⟨_, _, _, _, rfl⟩
  have hput : (Frm.mk o n us (g :: gs)).put l = if (Sb.counts l n g.frees).isEmpty then .mk o n us (g :: gs)
      else if Sb.clash (Sb.counts l n g.frees) n then .mk o (freshN (g.frees ++ Sb.names (Sb.counts l n g.frees))) [] (Frm.puts (g :: gs) (Sb.counts l n g.frees ++ [(n, .mk true (freshN (g.frees ++ Sb.names (Sb.counts l n g.frees))) [])]))
      else .mk o n [] (Frm.puts (g :: gs) (Sb.counts l n g.frees)) := by rw [Frm.put, hq]; rfl
  have heach : ∀ l', Sb.sz l' ≤ Sb.sz l + 2 → Pure E 104 [.d .old (.row 4 (Frm.ds (g :: gs))), .fn 63 [.d .old (.row 4 (mapO Sb.d l'))] []] (.fresh 4 (Frm.ds (Frm.puts (g :: gs) l')) .new) := by
    intro l' hl'
    have h2 := eachFB_ok (g := Frm.d) (h := fun t => (t.put l').d) (k := 63) (y := .row 4 (mapO Sb.d l')) (g :: gs) (by omega) fun x hx => ⟨x.shape, (x.put l').shape, ih x hx l' hl'⟩
    rwa [mapF, show mapO (fun t => (t.put l').d) (g :: gs) = Frm.ds (Frm.puts (g :: gs) l') by rw [Frm.puts_eq, Frm.ds_eq, List.map_map]; rfl] at h2
  obtain ⟨R, hR⟩ : ∃ R, (Frm.mk o n us (g :: gs)).put l = R := ⟨_, rfl⟩
  rw [hR] at hput ⊢
  obtain ⟨a, b, c, d, rfl⟩ := hgf
  have hit := hit _ _ _ _ rfl
  obtain ⟨I, hI⟩ : ∃ I, (Frm.mk a b c d).frees = I := ⟨_, rfl⟩
  rw [hI] at hin hput hlc hnl hcl hit
  have hcol := collect_ok 109 I (by omega) rfl rfl rfl hit
  have hds : Frm.ds (Frm.mk a b c d :: gs) = .agg [.int .u8 (opI a), .str b, .row 3 (Tm.ds c), .row 4 (Frm.ds d)] :: Frm.ds gs := by rw [Frm.ds, Frm.d]
  have hfree := free_ok a b c d
  simp only [Frm.d] at hcopy ⊢
  clear hR hit
  obtain ⟨Fs, hFs⟩ : ∃ Fs, Frm.ds (Frm.mk a b c d :: gs) = Fs := ⟨_, rfl⟩
  rw [hFs] at hcopy hqq hds heach ⊢
  refine pure_by has63 ?_
  generalize hp : std = p
  have hget : p.dget Fs 0 = some (.agg [.int .u8 (opI a), .str b, .row 3 (Tm.ds c), .row 4 (Frm.ds d)]) := by subst hp; rw [hds]; rfl
  (generalize cq0 : Frm.d = cy0, cq1 : Sb.d = cy1, cq2 : Tm.ds = cy2, cq3 : mapO = cy3, cq4 : opI = cy4; cbv <;> subst cq0 cq1 cq2 cq3 cq4)
  refine callA.pure hqq rfl ?_
  (generalize cq0 : Frm.d = cy0, cq1 : Sb.d = cy1, cq2 : Tm.ds = cy2, cq3 : mapO = cy3, cq4 : opI = cy4; cbv <;> subst cq0 cq1 cq2 cq3 cq4)
  simp only [not_t hp]
  (generalize cq0 : Frm.d = cy0, cq1 : Sb.d = cy1, cq2 : Tm.ds = cy2, cq3 : mapO = cy3, cq4 : opI = cy4; cbv <;> subst cq0 cq1 cq2 cq3 cq4)
  refine ⟨_, hget, ?_⟩
  (generalize cq0 : Frm.d = cy0, cq1 : Frm.ds = cy1, cq2 : Sb.d = cy2, cq3 : Tm.ds = cy3, cq4 : mapO = cy4, cq5 : opI = cy5; cbv <;> subst cq0 cq1 cq2 cq3 cq4 cq5)
  refine callA.pure hfree rfl ?_
  (generalize cq0 : Frm.d = cy0, cq1 : Frm.ds = cy1, cq2 : Sb.d = cy2, cq3 : Tm.ds = cy3, cq4 : mapO = cy4, cq5 : opI = cy5; cbv <;> subst cq0 cq1 cq2 cq3 cq4 cq5)
  refine callA.pure hcol rfl ?_
  (generalize cq0 : Frm.d = cy0, cq1 : Frm.ds = cy1, cq2 : Nms = cy2, cq3 : Sb.d = cy3, cq4 : Tm.ds = cy4, cq5 : mapO = cy5, cq6 : opI = cy6; cbv <;> subst cq0 cq1 cq2 cq3 cq4 cq5 cq6)
  subst hp
  refine loopA_list l (fun dd r => mkF 114 [(0, .d .old (.row 4 (mapO Sb.d l))), (3, .ptr 0 0), (4, .ptr 1 0), (5, .own 3697 1 (Nms I) .new), (6, .own 698 4 (mapO Sb.d (Sb.counts dd n I)) .unk), (37, .d .old (.row 4 (mapO Sb.d l))), (38, .d .top (.int .i64 (std.dlen (mapO Sb.d l)))), (39, .d .top (.int .i64 (std.dlen (mapO Sb.d dd))))])
    (fun dd r => [.bx [.d .old (.int .u8 (opI o)), .d .old (.str n), .d .old (.row 3 (Tm.ds us)), .d .old (.row 4 Fs)], .bx [.d .top (.int .u8 0), .d .top (.str []), .own 402 3 [] .top, .own 403 4 [] .top]]) (fun _ _ => ()) ?_ rfl (fun _ _ => rfl) ?_ ?_
  · generalize hp : std = p
    (generalize cq0 : Frm.ds = cy0, cq1 : Nms = cy1, cq2 : Sb.counts = cy2, cq3 : Sb.d = cy3, cq4 : Tm.ds = cy4, cq5 : mapO = cy5, cq6 : opI = cy6; cbv <;> subst cq0 cq1 cq2 cq3 cq4 cq5 cq6)
    subst hp
    simp [std, mapO, Sb.counts]
  · clear hget
    generalize hp : std = p
    (generalize cq0 : Frm.d = cy0, cq1 : Nms = cy1, cq2 : Sb.counts = cy2, cq3 : Sb.d = cy3, cq4 : Tm.ds = cy4, cq5 : mapO = cy5, cq6 : opI = cy6; cbv <;> subst cq0 cq1 cq2 cq3 cq4 cq5 cq6)
    simp only [end_ltO hp]
    obtain ⟨C, hC⟩ : ∃ C, Sb.counts l n I = C := ⟨_, rfl⟩
    rw [hC] at hput hlc hnl hcl ⊢
    have e0 : p.eq (p.dlen (mapO Sb.d C)) 0 = C.isEmpty := by subst hp; cases C <;> simp [std, mapO]; omega
    (generalize cq0 : Frm.d = cy0, cq1 : Nms = cy1, cq2 : Sb.d = cy2, cq3 : Tm.ds = cy3, cq4 : mapO = cy4, cq5 : opI = cy5; cbv <;> subst cq0 cq1 cq2 cq3 cq4 cq5)
    simp only [e0]
    cases hE : C.isEmpty with
    | true =>
      rw [hE, if_pos rfl] at hput
      (generalize cq0 : Frm.d = cy0, cq1 : Nms = cy1, cq2 : Sb.d = cy2, cq3 : Tm.ds = cy3, cq4 : mapO = cy4, cq5 : opI = cy5; cbv <;> subst cq0 cq1 cq2 cq3 cq4 cq5)
      refine callA.pure hcopy rfl ?_
      (generalize cq0 : Frm.d = cy0, cq1 : Nms = cy1, cq2 : Sb.d = cy2, cq3 : Tm.ds = cy3, cq4 : mapO = cy4, cq5 : opI = cy5; cbv <;> subst cq0 cq1 cq2 cq3 cq4 cq5)
      rw [hput, Frm.d, hFs]
    | false =>
    rw [hE, if_neg (by simp)] at hput
    clear hC e0 hcopy hE
    (generalize cq0 : Frm.d = cy0, cq1 : Nms = cy1, cq2 : Sb.d = cy2, cq3 : Tm.ds = cy3, cq4 : mapO = cy4, cq5 : opI = cy5; cbv <;> subst cq0 cq1 cq2 cq3 cq4 cq5)
    subst hp
    refine loopA_list C (fun dd r => mkF 114 [(0, .d .old (.row 4 (mapO Sb.d l))), (3, .ptr 0 0), (4, .ptr 1 0), (6, .own 698 4 (mapO Sb.d C) .unk), (9, .ptr 2 0), (10, .ptr 3 0), (65, .own 698 4 (mapO Sb.d C) .unk), (66, .d .top (.int .i64 (std.dlen (mapO Sb.d C)))), (67, .d .top (.int .i64 (std.dlen (mapO Sb.d dd))))])
      (fun dd r => [.bx [.d .old (.int .u8 (opI o)), .d .old (.str n), .d .old (.row 3 (Tm.ds us)), .d .old (.row 4 Fs)], .bx [.d .top (.int .u8 0), .d .top (.str []), .own 402 3 [] .top, .own 403 4 [] .top],
        .bx [.own 3697 1 (Nms (I ++ Sb.names dd)) .new], .bx [.d .top (.bool (Sb.clash dd n))]]) (fun _ _ => ()) ?_ rfl (fun _ _ => rfl) ?_ ?_
    · rw [show Sb.names [] = [] from rfl, List.append_nil, show Sb.clash [] n = false from rfl]
      generalize hp : std = p
      (generalize cq0 : Nms = cy0, cq1 : Sb.d = cy1, cq2 : Tm.ds = cy2, cq3 : mapO = cy3, cq4 : opI = cy4; cbv <;> subst cq0 cq1 cq2 cq3 cq4)
      subst hp
      simp [std, mapO]
    · generalize hp : std = p
      have hfr := fresh_ok (I ++ Sb.names C) (by simp only [List.length_append]; omega)
      obtain ⟨T, hT⟩ : ∃ T, I ++ Sb.names C = T := ⟨_, rfl⟩
      rw [hT] at hput hfr ⊢
      obtain ⟨N, hN⟩ : ∃ N, freshN T = N := ⟨_, rfl⟩
      rw [hN] at hput hfr
      (generalize cq0 : Frm.d = cy0, cq1 : Nms = cy1, cq2 : Sb.clash = cy2, cq3 : Sb.d = cy3, cq4 : Tm.ds = cy4, cq5 : mapO = cy5, cq6 : opI = cy6; cbv <;> subst cq0 cq1 cq2 cq3 cq4 cq5 cq6)
      simp only [end_ltO hp]
      (generalize cq0 : Frm.d = cy0, cq1 : Nms = cy1, cq2 : Sb.clash = cy2, cq3 : Sb.d = cy3, cq4 : Tm.ds = cy4, cq5 : mapO = cy5, cq6 : opI = cy6; cbv <;> subst cq0 cq1 cq2 cq3 cq4 cq5 cq6)
      cases hcl : Sb.clash C n with
      | false =>
        rw [hcl, if_neg (by simp)] at hput
        (generalize cq0 : Frm.d = cy0, cq1 : Nms = cy1, cq2 : Sb.d = cy2, cq3 : Tm.ds = cy3, cq4 : mapO = cy4, cq5 : opI = cy5; cbv <;> subst cq0 cq1 cq2 cq3 cq4 cq5)
        refine callA.pure (heach C (by omega)) rfl ?_
        (generalize cq0 : Frm.d = cy0, cq1 : Frm.ds = cy1, cq2 : Frm.puts = cy2, cq3 : Nms = cy3, cq4 : Sb.d = cy4, cq5 : Tm.ds = cy5, cq6 : mapO = cy6, cq7 : opI = cy7; cbv <;> subst cq0 cq1 cq2 cq3 cq4 cq5 cq6 cq7)
        rw [hput, Frm.d]
        rfl
      | true =>
        rw [hcl, if_pos rfl] at hput
        have hroom : p.room (mapO Sb.d C) [.agg [.str n, .bool true, .str N, .row 3 []]] := by subst hp; simp [std, mapO_len]; omega
        have hcat : p.dcat (mapO Sb.d C) [.agg [.str n, .bool true, .str N, .row 3 []]] = mapO Sb.d (C ++ [(n, .mk true N [])]) := by subst hp; simp [std, mapO, Sb.d, Tm.ds]
        have hea := heach (C ++ [(n, .mk true N [])]) (by rw [Sb.sz_app]; simp only [Sb.sz, Tm.size, Tm.size.sizes]; omega)
        obtain ⟨C2, hC2⟩ : ∃ C2, C ++ [(n, Tm.mk true N [])] = C2 := ⟨_, rfl⟩
        rw [hC2] at hcat hea hput
        (generalize cq0 : Frm.d = cy0, cq1 : Nms = cy1, cq2 : Sb.d = cy2, cq3 : Tm.ds = cy3, cq4 : mapO = cy4, cq5 : opI = cy5; cbv <;> subst cq0 cq1 cq2 cq3 cq4 cq5)
        refine callA.pure hfr rfl ?_
        (generalize cq0 : Frm.d = cy0, cq1 : Nms = cy1, cq2 : Sb.d = cy2, cq3 : Tm.ds = cy3, cq4 : mapO = cy4, cq5 : opI = cy5; cbv <;> subst cq0 cq1 cq2 cq3 cq4 cq5)
        simp only [hcat]
        refine ⟨hroom, ?_⟩
        (generalize cq0 : Frm.d = cy0, cq1 : Nms = cy1, cq2 : Sb.d = cy2, cq3 : Tm.ds = cy3, cq4 : mapO = cy4, cq5 : opI = cy5; cbv <;> subst cq0 cq1 cq2 cq3 cq4 cq5)
        refine callA.pure hea rfl ?_
        (generalize cq0 : Frm.d = cy0, cq1 : Frm.ds = cy1, cq2 : Frm.puts = cy2, cq3 : Nms = cy3, cq4 : Sb.d = cy4, cq5 : Tm.ds = cy5, cq6 : mapO = cy6, cq7 : opI = cy7; cbv <;> subst cq0 cq1 cq2 cq3 cq4 cq5 cq6 cq7)
        rw [hput, Frm.d]
        rfl
    · intro d1 e r d2 hes hd2
      obtain ⟨x, v, m, ws⟩ := e
      have hmem : (x, Tm.mk v m ws) ∈ C := by rw [hes]; simp
      have hsz := Sb.sz_mem hmem
      simp only at hsz
      have hzz : Tm.size.sizes [Tm.mk v m ws] ≤ 1000000 := by simp only [Tm.size.sizes]; omega
      have hit := inTerms_iter [.mk v m ws] hzz
      have hok := inTerms_ok [.mk v m ws]
      have hvs : Tm.varss [Tm.mk v m ws] = (Tm.mk v m ws).vars := by simp [Tm.varss]
      rw [hvs] at hit
      rw [show Tm.ds [Tm.mk v m ws] = [.agg [.bool v, .str m, .row 3 (Tm.ds ws)]] from rfl] at hit hok
      have hnm : Sb.names C = Sb.names d1 ++ (((Tm.mk v m ws).vars ++ [x]) ++ Sb.names r) := by rw [hes, Sb.names_app]; rfl
      have hn2 : Sb.names d2 = Sb.names d1 ++ ((Tm.mk v m ws).vars ++ [x]) := by rw [hd2, Sb.names_app]; simp [Sb.names]
      have hc2 : Sb.clash d2 n = (Sb.clash d1 n || hasB (Tm.mk v m ws).vars n) := by rw [hd2]; simp [Sb.clash]
      rw [hnm] at hnl
      simp only [List.length_append] at hnl
      have hCl : C.length = d1.length + (r.length + 1) := by rw [hes]; simp
      rw [hn2, hc2]
      obtain ⟨V, hV⟩ : ∃ V, (Tm.mk v m ws).vars = V := ⟨_, rfl⟩
      rw [hV] at hit hnl ⊢
      obtain ⟨N1, hN1⟩ : ∃ N1, I ++ Sb.names d1 = N1 := ⟨_, rfl⟩
      have hN1l : N1.length = I.length + (Sb.names d1).length := by rw [← hN1]; simp
      rw [hN1, show I ++ (Sb.names d1 ++ (V ++ [x])) = N1 ++ (V ++ [x]) by rw [← hN1]; simp]
      obtain ⟨c1, hc1⟩ : ∃ c1, Sb.clash d1 n = c1 := ⟨_, rfl⟩
      rw [hc1]
      clear hn2 hc2 hnm hN1 hc1
      generalize hp : std = p
      have hget := at_getO (g := Sb.d) hp hes
      rw [show Sb.d (x, Tm.mk v m ws) = .agg [.str x, .bool v, .str m, .row 3 (Tm.ds ws)] from rfl] at hget
      (generalize cq0 : Frm.d = cy0, cq1 : Nms = cy1, cq2 : Sb.d = cy2, cq3 : Tm.ds = cy3, cq4 : hasB = cy4, cq5 : mapO = cy5, cq6 : opI = cy6; cbv <;> subst cq0 cq1 cq2 cq3 cq4 cq5 cq6)
      simp only [at_ltO hp hes]
      (generalize cq0 : Frm.d = cy0, cq1 : Nms = cy1, cq2 : Sb.d = cy2, cq3 : Tm.ds = cy3, cq4 : hasB = cy4, cq5 : mapO = cy5, cq6 : opI = cy6; cbv <;> subst cq0 cq1 cq2 cq3 cq4 cq5 cq6)
      refine ⟨_, hget, ?_⟩
      (generalize cq0 : Frm.d = cy0, cq1 : Nms = cy1, cq2 : Sb.d = cy2, cq3 : Tm.ds = cy3, cq4 : hasB = cy4, cq5 : mapO = cy5, cq6 : opI = cy6; cbv <;> subst cq0 cq1 cq2 cq3 cq4 cq5 cq6)
      refine callA.pure hok rfl ?_
      (generalize cq0 : Frm.d = cy0, cq1 : Nms = cy1, cq2 : Sb.d = cy2, cq3 : Tm.ds = cy3, cq4 : hasB = cy4, cq5 : mapO = cy5, cq6 : opI = cy6; cbv <;> subst cq0 cq1 cq2 cq3 cq4 cq5 cq6)
      subst hp
      refine rf_keep [698] (items := Sits V) rfl rfl rfl hit (Sits_fit _) ?_
      rw [Sits]
      obtain ⟨σf, hσf⟩ : ∃ σf : List Nm → Sto, σf = fun d' => [.bx [.d .old (.int .u8 (opI o)), .d .old (.str n), .d .old (.row 3 (Tm.ds us)), .d .old (.row 4 Fs)], .bx [.d .top (.int .u8 0), .d .top (.str []), .own 402 3 [] .top, .own 403 4 [] .top],
        .bx [.own 3697 1 (Nms (N1 ++ d')) .new], .bx [.d .top (.bool (c1 || hasB d' n))], .bx [.d .unk (.str x), .d .unk (.bool v), .d .unk (.str m), .d .unk (.row 3 (Tm.ds ws))]] := ⟨_, rfl⟩
      have hσ : demoteS [698] [SE.bx [.d .old (.int .u8 (opI o)), .d .old (.str n), .d .old (.row 3 (Tm.ds us)), .d .old (.row 4 Fs)], .bx [.d .top (.int .u8 0), .d .top (.str []), .own 402 3 [] .top, .own 403 4 [] .top],
        .bx [.own 3697 1 (Nms N1) .new], .bx [.d .top (.bool c1)], .bx [.d .unk (.str x), .d .unk (.bool v), .d .unk (.str m), .d .unk (.row 3 (Tm.ds ws))]] = σf [] := by
        rw [hσf]
        simp only [List.append_nil, hasB, List.any_nil, Bool.or_false]
        rfl
      rw [hσ]
      refine range_fold (O := alone E) (g := fun s => D.str s) σf () ?_ ?_
      · intro dv s r2 K' hesv hK
        have hvl : V.length = dv.length + (r2.length + 1) := by rw [hesv]; simp
        have hb : (c1 || hasB (dv ++ [s]) n) = ((c1 || hasB dv n) || (s == n)) := by rw [hasB_app]; simp [hasB, Bool.or_assoc]
        simp only [hσf, hb, ← List.append_assoc] at hK ⊢
        have hPl : (N1 ++ dv).length = N1.length + dv.length := by simp
        generalize N1 ++ dv = P at *
        generalize (c1 || hasB dv n) = c2 at *
        obtain ⟨P2, hP2⟩ : ∃ P2, P ++ [s] = P2 := ⟨_, rfl⟩
        rw [hP2] at hK
        obtain ⟨q, hq2⟩ : ∃ q, (s == n) = q := ⟨_, rfl⟩
        rw [hq2] at hK
        refine roundA_by ?_
        generalize hp : std = p
        have e2 : p.dcat (Nms P) [.str s] = Nms P2 := by subst hp hP2; simp [std, Nms]
        have hroom : p.room (Nms P) [.str s] := by subst hp; simp [std, Nms_len]; omega
        have e3 : p.seq s n = q := by subst hp; exact hq2
        (generalize cq0 : Nms = cy0, cq1 : Sb.d = cy1, cq2 : Tm.ds = cy2, cq3 : mapO = cy3, cq4 : opI = cy4; cbv <;> subst cq0 cq1 cq2 cq3 cq4)
        simp only [e2]
        refine ⟨hroom, ?_⟩
        (generalize cq0 : Nms = cy0, cq1 : Sb.d = cy1, cq2 : Tm.ds = cy2, cq3 : mapO = cy3, cq4 : opI = cy4; cbv <;> subst cq0 cq1 cq2 cq3 cq4)
        cases c2 with
        | true =>
          (generalize cq0 : Nms = cy0, cq1 : Sb.d = cy1, cq2 : Tm.ds = cy2, cq3 : mapO = cy3, cq4 : opI = cy4; cbv <;> subst cq0 cq1 cq2 cq3 cq4)
          rw [Bool.true_or] at hK
          refine ⟨[.bx [.d .old (.int .u8 (opI o)), .d .old (.str n), .d .old (.row 3 (Tm.ds us)), .d .old (.row 4 Fs)], .bx [.d .top (.int .u8 0), .d .top (.str []), .own 402 3 [] .top, .own 403 4 [] .top],
            .bx [.own 3697 1 (Nms P2) .new], .bx [.d .top (.bool true)], .bx [.d .unk (.str x), .d .unk (.bool v), .d .unk (.str m), .d .unk (.row 3 (Tm.ds ws))]], ?_, rfl, hK⟩
          (generalize cq0 : Nms = cy0, cq1 : Tm.ds = cy1, cq2 : opI = cy2; cbv <;> subst cq0 cq1 cq2)
        | false =>
          (generalize cq0 : Nms = cy0, cq1 : Sb.d = cy1, cq2 : Tm.ds = cy2, cq3 : mapO = cy3, cq4 : opI = cy4; cbv <;> subst cq0 cq1 cq2 cq3 cq4)
          simp only [e3]
          rw [Bool.false_or] at hK
          refine ⟨[.bx [.d .old (.int .u8 (opI o)), .d .old (.str n), .d .old (.row 3 (Tm.ds us)), .d .old (.row 4 Fs)], .bx [.d .top (.int .u8 0), .d .top (.str []), .own 402 3 [] .top, .own 403 4 [] .top],
            .bx [.own 3697 1 (Nms P2) .new], .bx [.d .top (.bool q)], .bx [.d .unk (.str x), .d .unk (.bool v), .d .unk (.str m), .d .unk (.row 3 (Tm.ds ws))]], ?_, rfl, hK⟩
          (generalize cq0 : Nms = cy0, cq1 : Tm.ds = cy1, cq2 : opI = cy2; cbv <;> subst cq0 cq1 cq2)
      · simp only [hσf]
        have hPl : (N1 ++ V).length = N1.length + V.length := by simp
        rw [show N1 ++ (V ++ [x]) = (N1 ++ V) ++ [x] by simp]
        generalize N1 ++ V = P at *
        generalize (c1 || hasB V n) = c2 at *
        obtain ⟨P2, hP2⟩ : ∃ P2, P ++ [x] = P2 := ⟨_, rfl⟩
        rw [hP2]
        have hnx : std.add (std.dlen (mapO Sb.d d1)) 1 = std.dlen (mapO Sb.d d2) := by subst hd2; simp [std, mapO]
        have hd3 : (mapO Sb.d d2).length = d1.length + 1 := by rw [mapO_len, hd2]; simp
        generalize hp : std = p at *
        have e2 : p.dcat (Nms P) [.str x] = Nms P2 := by subst hp hP2; simp [std, Nms]
        have hroom : p.room (Nms P) [.str x] := by subst hp; simp [std, Nms_len]; omega
        (generalize cq0 : Frm.d = cy0, cq1 : Nms = cy1, cq2 : Sb.d = cy2, cq3 : Tm.ds = cy3, cq4 : mapO = cy4, cq5 : opI = cy5; cbv <;> subst cq0 cq1 cq2 cq3 cq4 cq5)
        simp only [e2, hnx]
        refine ⟨hroom, by subst hp; simp [std, hd3]; omega, ?_⟩
        cbv
  · intro d1 e r d2 hes hd2
    have hcs := counts_snoc d1 e n I
    rw [← hd2] at hcs
    have hcl1 : (Sb.counts d1 n I).length ≤ d1.length := by simp only [Sb.counts]; exact List.length_filter_le _ _
    have hlen' : l.length = d1.length + (r.length + 1) := by rw [hes]; simp
    have hcont := contains_ok I e.1 (by omega)
    obtain ⟨v1, v2, v3, v4, he⟩ := Sb.shape e
    have he1 : v1 = e.1 := by
      obtain ⟨x, ⟨_, _, _⟩⟩ := e
      simp only [Sb.d, D.agg.injEq, List.cons.injEq, D.str.injEq] at he
      exact he.1.symm
    rw [← he1] at hcs hcont
    generalize hasB I v1 = q at *
    have hnx : std.add (std.dlen (mapO Sb.d d1)) 1 = std.dlen (mapO Sb.d d2) := by subst hd2; simp [std, mapO]
    have hd3 : (mapO Sb.d d2).length = d1.length + 1 := by rw [mapO_len, hd2]; simp
    generalize hp : std = p at *
    have hget := at_getO (g := Sb.d) hp hes
    rw [he] at hget
    have hne : p.not (p.seq v1 n) = !(v1 == n) := by subst hp; rfl
    have hcat : p.dcat (mapO Sb.d (Sb.counts d1 n I)) [.agg [.str v1, .bool v2, .str v3, .row 3 v4]] = mapO Sb.d (Sb.counts d1 n I ++ [e]) := by subst hp; simp [std, mapO, he]
    (generalize cq0 : Frm.d = cy0, cq1 : Nms = cy1, cq2 : Sb.counts = cy2, cq3 : Sb.d = cy3, cq4 : Tm.ds = cy4, cq5 : mapO = cy5, cq6 : opI = cy6; cbv <;> subst cq0 cq1 cq2 cq3 cq4 cq5 cq6)
    simp only [at_ltO hp hes]
    (generalize cq0 : Frm.d = cy0, cq1 : Nms = cy1, cq2 : Sb.counts = cy2, cq3 : Sb.d = cy3, cq4 : Tm.ds = cy4, cq5 : mapO = cy5, cq6 : opI = cy6; cbv <;> subst cq0 cq1 cq2 cq3 cq4 cq5 cq6)
    refine ⟨_, hget, ?_⟩
    (generalize cq0 : Frm.d = cy0, cq1 : Nms = cy1, cq2 : Sb.counts = cy2, cq3 : Sb.d = cy3, cq4 : Tm.ds = cy4, cq5 : mapO = cy5, cq6 : opI = cy6; cbv <;> subst cq0 cq1 cq2 cq3 cq4 cq5 cq6)
    simp only [hne]
    cases hx : v1 == n with
    | true =>
      rw [hx] at hcs
      (generalize cq0 : Frm.d = cy0, cq1 : Nms = cy1, cq2 : Sb.counts = cy2, cq3 : Sb.d = cy3, cq4 : Tm.ds = cy4, cq5 : mapO = cy5, cq6 : opI = cy6; cbv <;> subst cq0 cq1 cq2 cq3 cq4 cq5 cq6)
      rw [hcs]
      simp only [hnx]
      refine ⟨by subst hp; simp [std, hd3]; omega, ?_⟩
      (generalize cq0 : Sb.counts = cy0, cq1 : Sb.d = cy1, cq2 : mapO = cy2; cbv <;> subst cq0 cq1 cq2)
      all_goals ((repeat' apply And.intro) <;> first | rfl | trivial)
    | false =>
      rw [hx] at hcs
      (generalize cq0 : Frm.d = cy0, cq1 : Nms = cy1, cq2 : Sb.counts = cy2, cq3 : Sb.d = cy3, cq4 : Tm.ds = cy4, cq5 : mapO = cy5, cq6 : opI = cy6; cbv <;> subst cq0 cq1 cq2 cq3 cq4 cq5 cq6)
      refine callA.pure hcont rfl ?_
      (generalize cq0 : Frm.d = cy0, cq1 : Nms = cy1, cq2 : Sb.counts = cy2, cq3 : Sb.d = cy3, cq4 : Tm.ds = cy4, cq5 : mapO = cy5, cq6 : opI = cy6; cbv <;> subst cq0 cq1 cq2 cq3 cq4 cq5 cq6)
      cases q with
      | false =>
        (generalize cq0 : Frm.d = cy0, cq1 : Nms = cy1, cq2 : Sb.counts = cy2, cq3 : Sb.d = cy3, cq4 : Tm.ds = cy4, cq5 : mapO = cy5, cq6 : opI = cy6; cbv <;> subst cq0 cq1 cq2 cq3 cq4 cq5 cq6)
        rw [hcs]
        simp only [hnx]
        refine ⟨by subst hp; simp [std, hd3]; omega, ?_⟩
        (generalize cq0 : Sb.counts = cy0, cq1 : Sb.d = cy1, cq2 : mapO = cy2; cbv <;> subst cq0 cq1 cq2)
        all_goals ((repeat' apply And.intro) <;> first | rfl | trivial)
      | true =>
        rw [hcs]
        (generalize cq0 : Frm.d = cy0, cq1 : Nms = cy1, cq2 : Sb.counts = cy2, cq3 : Sb.d = cy3, cq4 : Tm.ds = cy4, cq5 : mapO = cy5, cq6 : opI = cy6; cbv <;> subst cq0 cq1 cq2 cq3 cq4 cq5 cq6)
        simp only [hcat, hnx]
        refine ⟨by subst hp; simp [std, mapO_len]; omega, by subst hp; simp [std, hd3]; omega, ?_⟩
        (generalize cq0 : Sb.counts = cy0, cq1 : Sb.d = cy1, cq2 : mapO = cy2; cbv <;> subst cq0 cq1 cq2)
        all_goals ((repeat' apply And.intro) <;> first | rfl | trivial)
end Go.Ly.Tr
end
section
namespace Go.Ly.Tr
set_option maxRecDepth 10000
theorem form_ok (f : Frm) : ∀ l : List Sb, f.size ≤ 100000 → Sb.sz l + 2 * f.size ≤ 500000 → f.qok = true → Pure E 63 [.d .old (.row 4 (mapO Sb.d l)), .d .old f.d] (.d .new (f.put l).d) := by
  induction f using Frm.ind with
  | h o n us fs ih =>
  intro l hs hl hq
  rw [Frm.qok, Bool.and_eq_true] at hq
  have hs' : Tm.size.sizes us + Frm.size.sizes fs + 1 ≤ 100000 := hs
  have hl' : Sb.sz l + 2 * (Tm.size.sizes us + Frm.size.sizes fs + 1) ≤ 500000 := hl
  cases hb : isQ o with
  | false =>
    refine form_plain (.mk o n us fs) o n us fs l hb (by omega) (by omega) fun a ha => ?_
    have := Frm.size_mem ha
    exact ih a ha l (by omega) (by omega) (Frm.qok_mem ha hq.2)
  | true =>
    rw [hb] at hq
    cases fs with
    | nil => simp at hq
    | cons g gs =>
      refine form_quant o n us g gs l hb (by omega) (by omega) fun a ha l' hl2 => ?_
      have := Frm.size_mem ha
      exact ih a ha l' (by omega) (by omega) (Frm.qok_mem ha hq.2)
theorem ok_qok (f : Frm) : f.ok = true → f.qok = true := by
  induction f using Frm.ind with
  | h o n us fs ih =>
  intro h
  rw [Frm.ok] at h
  cases hr : rowOp o with
  | none => rw [hr] at h; cases h
  | some kas =>
    obtain ⟨k, a, s⟩ := kas
    rw [hr] at h
    simp only [Bool.and_eq_true, beq_iff_eq, decide_eq_true_eq] at h
    obtain ⟨⟨⟨_, _⟩, hlen⟩, _, hfs⟩ := h
    have hsub : ∀ l : List Frm, (∀ x ∈ l, x.ok = true → x.qok = true) → Frm.oks l = true → Frm.qok.qoks l = true := by
      intro l
      induction l with
      | nil => intro _ _; rfl
      | cons x l ihl =>
        intro h1 h2
        simp only [Frm.oks, Bool.and_eq_true] at h2
        simp only [Frm.qok.qoks, Bool.and_eq_true]
        exact ⟨h1 x (by simp) h2.1, ihl (fun y hy => h1 y (by simp [hy])) h2.2⟩
    rw [Frm.qok, Bool.and_eq_true]
    refine ⟨?_, hsub fs ih hfs⟩
    cases hb : isQ o with
    | false => rfl
    | true =>
      have hs : s = 1 := by
        simp only [isQ, Bool.or_eq_true, beq_iff_eq] at hb
        rcases hb with rfl | rfl
        · simp [rowOp] at hr; omega
        · simp [rowOp] at hr; omega
      subst hs
      cases fs with
      | nil => cases hlen
      | cons x l => rfl
theorem Tm.sub_size {M : Nat} (hM : 1 ≤ M) {l : List Sb} (hl : ∀ o ∈ l, o.2.size ≤ M) (t : Tm) : (t.sub l).size ≤ M * t.size := by
  induction t using Tm.ind with
  | h v n us ih =>
  have hs : ∀ ts : List Tm, (∀ x ∈ ts, (x.sub l).size ≤ M * x.size) → Tm.size.sizes (Tm.subs l ts) ≤ M * Tm.size.sizes ts := by
    intro ts
    induction ts with
    | nil => intro _; rw [Tm.subs]; simp [Tm.size.sizes]
    | cons x ts iht =>
      intro h
      have h1 := h x (by simp)
      have h2 := iht fun y hy => h y (by simp [hy])
      rw [Tm.subs]
      simp only [Tm.size.sizes, Nat.mul_add]
      omega
  have h1 := hs us ih
  have h2 : (Tm.mk v n (Tm.subs l us)).size ≤ M * (Tm.mk v n us).size := by simp only [Tm.size, Nat.mul_add, Nat.mul_one]; omega
  rw [Tm.sub]
  split
  · split
    · rename_i o ho
      have := hl o (List.mem_of_find?_eq_some ho)
      have h3 : M * 1 ≤ M * (Tm.mk v n us).size := Nat.mul_le_mul_left _ (by simp [Tm.size])
      omega
    · exact h2
  · exact h2
theorem Tm.subs_size {M : Nat} (hM : 1 ≤ M) {l : List Sb} (hl : ∀ o ∈ l, o.2.size ≤ M) : ∀ ts : List Tm, Tm.size.sizes (Tm.subs l ts) ≤ M * Tm.size.sizes ts
  | [] => by rw [Tm.subs]; simp [Tm.size.sizes]
  | t :: ts => by
    have h1 := Tm.sub_size hM hl t
    have h2 := Tm.subs_size hM hl ts
    rw [Tm.subs]
    simp only [Tm.size.sizes, Nat.mul_add]
    omega
theorem put_size {M : Nat} (hM : 1 ≤ M) (f : Frm) : ∀ l : List Sb, (∀ o ∈ l, o.2.size ≤ M) → (f.put l).size ≤ M * f.size := by
  induction f using Frm.ind with
  | h o n us fs ih =>
  intro l hl
  have hs : ∀ l : List Sb, (∀ o ∈ l, o.2.size ≤ M) → ∀ gs : List Frm, (∀ x ∈ gs, (x.put l).size ≤ M * x.size) → Frm.size.sizes (Frm.puts gs l) ≤ M * Frm.size.sizes gs := by
    intro l hl gs
    induction gs with
    | nil => intro _; rw [Frm.puts]; simp [Frm.size.sizes]
    | cons x ts iht =>
      intro h
      have h1 := h x (by simp)
      have h2 := iht fun y hy => h y (by simp [hy])
      rw [Frm.puts]
      simp only [Frm.size.sizes, Nat.mul_add]
      omega
  have hcl : ∀ o' ∈ Sb.counts l n (Frm.insideH fs), o'.2.size ≤ M := fun o' ho' => hl o' (List.mem_filter.1 ho').1
  have h1 := Tm.subs_size hM hl us
  have hmul : Tm.size.sizes us ≤ M * Tm.size.sizes us := Nat.le_mul_of_pos_left _ hM
  have hmul2 : Frm.size.sizes fs ≤ M * Frm.size.sizes fs := Nat.le_mul_of_pos_left _ hM
  rw [Frm.put]
  split
  · split
    · simp only [Frm.size, Nat.mul_add, Nat.mul_one]
      omega
    · split
      · have h2 := hs (Sb.counts l n (Frm.insideH fs) ++ [(n, .mk true (freshN (Frm.insideH fs ++ Sb.names (Sb.counts l n (Frm.insideH fs)))) [])]) (by
          intro o' ho'
          rw [List.mem_append, List.mem_singleton] at ho'
          rcases ho' with ho' | rfl
          · exact hcl o' ho'
          · simpa [Tm.size, Tm.size.sizes] using hM) fs fun x hx => ih x hx _ (by
          intro o' ho'
          rw [List.mem_append, List.mem_singleton] at ho'
          rcases ho' with ho' | rfl
          · exact hcl o' ho'
          · simpa [Tm.size, Tm.size.sizes] using hM)
        simp only [Frm.size, Nat.mul_add, Nat.mul_one, Tm.size.sizes]
        omega
      · have h2 := hs _ hcl fs fun x hx => ih x hx _ hcl
        simp only [Frm.size, Nat.mul_add, Nat.mul_one, Tm.size.sizes]
        omega
  · have h2 := hs l hl fs fun x hx => ih x hx l hl
    simp only [Frm.size, Nat.mul_add, Nat.mul_one]
    omega
end Go.Ly.Tr
end
section
namespace Go.Ly.Tr
set_option maxRecDepth 10000
theorem idxQ_any {α : Type} (q : α → Bool) : ∀ (d r : List α) (k : Nat), d.any q = true → ∃ i, i < d.length ∧ idxQ q (d ++ r) k = ((k + i : Nat) : Int)
  | [], _, _, h => by cases h
  | e :: d, r, k, h => by
    rw [List.cons_append, idxQ]
    cases he : q e with
    | true => exact ⟨0, by simp, by simp⟩
    | false =>
      rw [List.any_cons, he, Bool.false_or] at h
      obtain ⟨i, hi, h'⟩ := idxQ_any q d r (k + 1) h
      exact ⟨i + 1, by simp; omega, by simp [h']; omega⟩
def argsOK (d : List Sb) : List Sb → Bool
  | [] => true
  | e :: r => (varB e.1 && e.2.ok && !(d.any fun o => o.1 == e.1)) && argsOK (d ++ [e]) r
def zeroF : Frm := .mk 0 [] [] []
def bigB (I : List Nm) (o : Sb) : Bool := hasB I o.1 && decide (400 < o.2.size + 1)
def putsS (f : Frm) (l : List Sb) : Frm × Nat :=
  if !f.right then (zeroF, 2) else if !argsOK [] l then (zeroF, 2) else if l.any (bigB (setN f.frees)) then (zeroF, 3)
  else if decide (400 < (f.put l).size) || decide (40 < (f.put l).hi) then (zeroF, 3) else (f.put l, 0)
theorem puts1_ok (I : List Nm) (hI : I.length ≤ 1000000) (o : Sb) (ho : o.2.size ≤ 100000) : Pure E 61 [.d .old (Sb.d o), .fb [.d .old (.row 1 (Nms I))] 0] (.d .top (.bool (bigB I o))) := by
  obtain ⟨x, v, n, us⟩ := o
  simp only at ho
  have h1 := contains_ok I x (by omega)
  have hN : Pure E 30 [.d .old (.agg [.int .u8 0, .str [], .row 3 [.agg [.bool v, .str n, .row 3 (Tm.ds us)]], .row 4 []])] (.d .top (.int .i64 (natI (Frm.mk 0 [] [.mk v n us] []).size))) := nodes_ok (.mk 0 [] [.mk v n us] []) (by simp only [Frm.size, Tm.size.sizes, Frm.size.sizes]; omega)
  rw [show (Frm.mk 0 [] [.mk v n us] []).size = (Tm.mk v n us).size + 1 by simp only [Frm.size, Tm.size.sizes, Frm.size.sizes, Nat.add_zero]] at hN
  have hq : bigB I (x, .mk v n us) = (hasB I x && decide (400 < (Tm.mk v n us).size + 1)) := rfl
  obtain ⟨z, hz⟩ : ∃ z, bigB I (x, .mk v n us) = z := ⟨_, rfl⟩
  rw [hz] at hq ⊢
  generalize (Tm.mk v n us).size + 1 = s at *
  generalize hasB I x = b at *
  simp only [Sb.d]
  refine pure_by has61 ?_
  generalize hp : std = p
  have e1 : p.lt 400 (natI s) = decide (400 < s) := by subst hp; simp [std, natI]; omega
  (generalize cq0 : Nms = cy0, cq1 : Tm.ds = cy1; cbv <;> subst cq0 cq1)
  refine callA.pure h1 rfl ?_
  (generalize cq0 : Nms = cy0, cq1 : Tm.ds = cy1; cbv <;> subst cq0 cq1)
  cases b with
  | false => (generalize cq0 : Nms = cy0, cq1 : Tm.ds = cy1; cbv <;> subst cq0 cq1); rw [hq]; rfl
  | true =>
    (generalize cq0 : Nms = cy0, cq1 : Tm.ds = cy1; cbv <;> subst cq0 cq1)
    refine callA.pure hN rfl ?_
    (generalize cq0 : Nms = cy0, cq1 : Tm.ds = cy1, cq2 : natI = cy2; cbv <;> subst cq0 cq1 cq2)
    simp only [e1]
    rw [hq]
    rfl
theorem pure_or {k : Nat} {args : List AV} {r1 r2 : AV} (h : Fun E (alone E) k args [] () fun r _ _ => r = r1 ∨ r = r2) (hw : ∀ S w v, Res E S w r1 v → Res E S w r2 v) : Pure E k args r2 :=
  ⟨h.1, fun S w vs B J => (h.2 S w vs B J).mono fun e w' ⟨v, r, σ', ω', S', e1, hr, hJ, hL⟩ => by
    rcases hr with rfl | rfl
    · exact ⟨v, _, σ', ω', S', e1, rfl, hJ, hL.rep, hL.θ, hL.clean, hw _ _ _ hL.res, hL.ev⟩
    · exact ⟨v, _, σ', ω', S', e1, rfl, hJ, hL⟩⟩
theorem res_top {S : St} {w : World} {v : Value} {d e : D} (h : Res E S w (.tup [.d .top d, .d .top e]) v) : Res E S w (.tup [.d .new d, .d .top e]) v := by
  obtain ⟨_, h⟩ := h
  refine ⟨rfl, ?_⟩
  simp only [RdA, RdNs] at h ⊢
  obtain ⟨vs, hv, v1, rest, e1, h1, h2, h3⟩ := h
  exact ⟨vs, hv, v1, rest, e1, rfl, RdD_weak (fun b hb => hb.elim) h2, h3⟩
theorem puts_okG (f : Frm) (l : List Sb) (hf : f.size ≤ 100000) (hl : ∀ o ∈ l, o.2.size ≤ 100000) (hsz : Sb.sz l ≤ 200000) (hll : l.length ≤ 100) (hps : f.right = true → l.any (bigB (setN f.frees)) = false → (f.put l).size ≤ 1000000) :
    Pure E 22 [.d .old f.d, .d .old (.row 4 (mapO Sb.d l))] (.tup [.d .new (putsS f l).1.d, .d .top (.int .i64 (natI (putsS f l).2))]) := by
  have h1 := right_ok f (by omega)
  have h2 := Free_ok f (by omega)
  have hfl := frees_len f
  have hsl : (setN f.frees).length ≤ f.frees.length := by
    have := nubs_len f.frees
    simp only [setN, sortN, List.length_mergeSort]
    exact this
  have h3 := containsFuncO_ok (g := Sb.d) (q := bigB (setN f.frees)) (k := 61) (y := .row 1 (Nms (setN f.frees))) l (by omega) fun o ho => ⟨o.shape, puts1_ok _ (by omega) o (by have := hl o ho; omega)⟩
  have hq : putsS f l = if !f.right then (zeroF, 2) else if !argsOK [] l then (zeroF, 2) else if l.any (bigB (setN f.frees)) then (zeroF, 3)
    else if decide (400 < (f.put l).size) || decide (40 < (f.put l).hi) then (zeroF, 3) else (f.put l, 0) := rfl
  have h4 : f.right = true → Pure E 63 [.d .old (.row 4 (mapO Sb.d l)), .d .old f.d] (.d .new (f.put l).d) ∧ f.size ≤ 400 := fun hr => by
    have hr' : fitsB f = true ∧ f.ok = true := by
      have : f.right = (fitsB f && f.ok) := rfl
      rw [this, Bool.and_eq_true] at hr
      exact hr
    have h400 : f.size ≤ 400 := by
      have := hr'.1
      simp only [fitsB, Bool.and_eq_true, decide_eq_true_eq] at this
      exact this.1
    exact ⟨form_ok f l (by omega) (by omega) (ok_qok f hr'.2), h400⟩
  generalize (setN f.frees) = I at *
  generalize l.any (bigB I) = ba at *
  obtain ⟨G, hG⟩ : ∃ G, f.put l = G := ⟨_, rfl⟩
  rw [hG] at hps hq h4
  have h5 : f.right = true → ba = false → Pure E 30 [.d .old G.d] (.d .top (.int .i64 (natI G.size))) ∧ Pure E 64 [.d .old G.d] (.d .top (.int .i64 (natI G.hi))) := fun hr hb => by
    have := hps hr hb
    exact ⟨nodes_ok G (by omega), depth_ok G (by omega)⟩
  obtain ⟨R, hR⟩ : ∃ R, putsS f l = R := ⟨_, rfl⟩
  rw [hR] at hq ⊢
  generalize f.right = rt at *
  obtain ⟨a0, b0, c0, d0⟩ := G
  generalize (Frm.mk a0 b0 c0 d0).size = gs at *
  generalize (Frm.mk a0 b0 c0 d0).hi = gh at *
  obtain ⟨o, n, us, fs⟩ := f
  simp only [Frm.d] at h1 h2 h3 h4 h5 ⊢
  clear hG hR
  refine pure_or (r1 := .tup [.d .top (R.1.d), .d .top (.int .i64 (natI R.2))]) ?_ (fun S w v => res_top)
  refine fun_by has22 ?_
  generalize hp : std = p
  (generalize cq0 : Frm.d = cy0, cq1 : Frm.ds = cy1, cq2 : Sb.d = cy2, cq3 : Tm.ds = cy3, cq4 : mapO = cy4, cq5 : natI = cy5, cq6 : opI = cy6; cbv <;> subst cq0 cq1 cq2 cq3 cq4 cq5 cq6)
  refine callA.pure h1 rfl ?_
  (generalize cq0 : Frm.d = cy0, cq1 : Frm.ds = cy1, cq2 : Sb.d = cy2, cq3 : Tm.ds = cy3, cq4 : mapO = cy4, cq5 : natI = cy5, cq6 : opI = cy6; cbv <;> subst cq0 cq1 cq2 cq3 cq4 cq5 cq6)
  have zero2 : R = (zeroF, 2) → AV.tup [AV.d Ep.top (D.agg [D.int IntKind.u8 0, D.str [], D.row 3 [], D.row 4 []]), AV.d Ep.top (D.int IntKind.i64 2)] = .tup [.d .top R.1.d, .d .top (.int .i64 (natI R.2))] := by rintro rfl; rfl
  have zero3 : R = (zeroF, 3) → AV.tup [AV.d Ep.top (D.agg [D.int IntKind.u8 0, D.str [], D.row 3 [], D.row 4 []]), AV.d Ep.top (D.int IntKind.i64 3)] = .tup [.d .top R.1.d, .d .top (.int .i64 (natI R.2))] := by rintro rfl; rfl
  cases rt with
  | false =>
    simp only [not_f hp]
    (generalize cq0 : Frm.d = cy0, cq1 : Frm.ds = cy1, cq2 : Sb.d = cy2, cq3 : Tm.ds = cy3, cq4 : mapO = cy4, cq5 : natI = cy5, cq6 : opI = cy6; cbv <;> subst cq0 cq1 cq2 cq3 cq4 cq5 cq6)
    exact .inl (zero2 (by rw [hq]; rfl))
  | true =>
  obtain ⟨hform, h400⟩ := h4 rfl
  simp only [Bool.not_true, Bool.false_eq_true, if_false] at hq
  simp only [not_t hp]
  (generalize cq0 : Frm.d = cy0, cq1 : Frm.ds = cy1, cq2 : Sb.d = cy2, cq3 : Tm.ds = cy3, cq4 : mapO = cy4, cq5 : natI = cy5, cq6 : opI = cy6; cbv <;> subst cq0 cq1 cq2 cq3 cq4 cq5 cq6)
  subst hp
  refine loopA_inv (ι := List Sb × List Sb) (fun j => l = j.1 ++ j.2 ∧ argsOK [] l = argsOK j.1 j.2) (fun j => j.2.length)
    (fun j => mkF 60 [(1, .d .old (.row 4 (mapO Sb.d l))), (2, .ptr 0 0), (4, .ptr 1 0), (5, .d .top (.int .i64 0)), (14, .d .old (.row 4 (mapO Sb.d l))), (15, .d .top (.int .i64 (std.dlen (mapO Sb.d l)))), (16, .d .top (.int .i64 (std.dlen (mapO Sb.d j.1))))])
    (fun j => [.bx [.d .old (.int .u8 (opI o)), .d .old (.str n), .d .old (.row 3 (Tm.ds us)), .d .old (.row 4 (Frm.ds fs))], .bx [.d .top (.int .u8 0), .d .top (.str []), .own 402 3 [] .top, .own 403 4 [] .top]]) (fun j => ()) ([], l) ⟨rfl, rfl⟩ ?_ rfl (fun _ => rfl) ?_
  · generalize hp : std = p
    (generalize cq0 : Frm.ds = cy0, cq1 : Sb.d = cy1, cq2 : Tm.ds = cy2, cq3 : mapO = cy3, cq4 : opI = cy4; cbv <;> subst cq0 cq1 cq2 cq3 cq4)
    subst hp
    simp [std, mapO]
  rintro ⟨d, r⟩ ⟨hes, hargs⟩
  simp only at hes hargs ⊢
  cases r with
  | nil =>
    rw [List.append_nil] at hes
    subst hes
    rw [hargs, show argsOK l [] = true by rw [argsOK]] at hq
    simp only [Bool.not_true, Bool.false_eq_true, if_false] at hq
    generalize hp : std = p
    (generalize cq0 : Frm.d = cy0, cq1 : Frm.ds = cy1, cq2 : Sb.d = cy2, cq3 : Tm.ds = cy3, cq4 : argsOK = cy4, cq5 : mapO = cy5, cq6 : natI = cy6, cq7 : opI = cy7; cbv <;> subst cq0 cq1 cq2 cq3 cq4 cq5 cq6 cq7)
    simp only [end_ltO hp]
    (generalize cq0 : Frm.d = cy0, cq1 : Frm.ds = cy1, cq2 : Sb.d = cy2, cq3 : Tm.ds = cy3, cq4 : argsOK = cy4, cq5 : mapO = cy5, cq6 : natI = cy6, cq7 : opI = cy7; cbv <;> subst cq0 cq1 cq2 cq3 cq4 cq5 cq6 cq7)
    refine callA.pure h2 rfl ?_
    (generalize cq0 : Frm.d = cy0, cq1 : Frm.ds = cy1, cq2 : Nms = cy2, cq3 : Sb.d = cy3, cq4 : Tm.ds = cy4, cq5 : mapO = cy5, cq6 : natI = cy6, cq7 : opI = cy7; cbv <;> subst cq0 cq1 cq2 cq3 cq4 cq5 cq6 cq7)
    refine callA.pure h3 rfl ?_
    (generalize cq0 : Frm.d = cy0, cq1 : Frm.ds = cy1, cq2 : Nms = cy2, cq3 : Sb.d = cy3, cq4 : Tm.ds = cy4, cq5 : mapO = cy5, cq6 : natI = cy6, cq7 : opI = cy7; cbv <;> subst cq0 cq1 cq2 cq3 cq4 cq5 cq6 cq7)
    cases ba with
    | true =>
      (generalize cq0 : Frm.d = cy0, cq1 : Frm.ds = cy1, cq2 : Nms = cy2, cq3 : Sb.d = cy3, cq4 : Tm.ds = cy4, cq5 : mapO = cy5, cq6 : natI = cy6, cq7 : opI = cy7; cbv <;> subst cq0 cq1 cq2 cq3 cq4 cq5 cq6 cq7)
      exact .inl (zero3 (by rw [hq]; rfl))
    | false =>
      obtain ⟨hnodes, hdepth⟩ := h5 rfl rfl
      simp only [Bool.false_eq_true, if_false] at hq
      (generalize cq0 : Frm.d = cy0, cq1 : Frm.ds = cy1, cq2 : Nms = cy2, cq3 : Sb.d = cy3, cq4 : Tm.ds = cy4, cq5 : mapO = cy5, cq6 : natI = cy6, cq7 : opI = cy7; cbv <;> subst cq0 cq1 cq2 cq3 cq4 cq5 cq6 cq7)
      refine callA.pure hform rfl ?_
      have e1 : p.lt 400 (natI gs) = decide (400 < gs) := by subst hp; simp [std, natI]; omega
      have e2 : p.lt 40 (natI gh) = decide (40 < gh) := by subst hp; simp [std, natI]; omega
      (generalize cq0 : Frm.d = cy0, cq1 : Frm.ds = cy1, cq2 : Nms = cy2, cq3 : Sb.d = cy3, cq4 : Tm.ds = cy4, cq5 : mapO = cy5, cq6 : natI = cy6, cq7 : opI = cy7; cbv <;> subst cq0 cq1 cq2 cq3 cq4 cq5 cq6 cq7)
      refine callA.pure hnodes rfl ?_
      (generalize cq0 : Frm.d = cy0, cq1 : Frm.ds = cy1, cq2 : Nms = cy2, cq3 : Sb.d = cy3, cq4 : Tm.ds = cy4, cq5 : mapO = cy5, cq6 : natI = cy6, cq7 : opI = cy7; cbv <;> subst cq0 cq1 cq2 cq3 cq4 cq5 cq6 cq7)
      simp only [e1]
      generalize decide (400 < gs) = b2 at *
      generalize decide (40 < gh) = b3 at *
      cases b2 with
      | true =>
        (generalize cq0 : Frm.d = cy0, cq1 : Frm.ds = cy1, cq2 : Nms = cy2, cq3 : Sb.d = cy3, cq4 : Tm.ds = cy4, cq5 : mapO = cy5, cq6 : natI = cy6, cq7 : opI = cy7; cbv <;> subst cq0 cq1 cq2 cq3 cq4 cq5 cq6 cq7)
        exact .inl (zero3 (by rw [hq]; rfl))
      | false =>
        (generalize cq0 : Frm.d = cy0, cq1 : Frm.ds = cy1, cq2 : Nms = cy2, cq3 : Sb.d = cy3, cq4 : Tm.ds = cy4, cq5 : mapO = cy5, cq6 : natI = cy6, cq7 : opI = cy7; cbv <;> subst cq0 cq1 cq2 cq3 cq4 cq5 cq6 cq7)
        refine callA.pure hdepth rfl ?_
        (generalize cq0 : Frm.d = cy0, cq1 : Frm.ds = cy1, cq2 : Nms = cy2, cq3 : Sb.d = cy3, cq4 : Tm.ds = cy4, cq5 : mapO = cy5, cq6 : natI = cy6, cq7 : opI = cy7; cbv <;> subst cq0 cq1 cq2 cq3 cq4 cq5 cq6 cq7)
        simp only [e2]
        cases b3 with
        | true =>
          (generalize cq0 : Frm.d = cy0, cq1 : Frm.ds = cy1, cq2 : Nms = cy2, cq3 : Sb.d = cy3, cq4 : Tm.ds = cy4, cq5 : mapO = cy5, cq6 : natI = cy6, cq7 : opI = cy7; cbv <;> subst cq0 cq1 cq2 cq3 cq4 cq5 cq6 cq7)
          exact .inl (zero3 (by rw [hq]; rfl))
        | false =>
          (generalize cq0 : Frm.d = cy0, cq1 : Frm.ds = cy1, cq2 : Nms = cy2, cq3 : Sb.d = cy3, cq4 : Tm.ds = cy4, cq5 : mapO = cy5, cq6 : natI = cy6, cq7 : opI = cy7; cbv <;> subst cq0 cq1 cq2 cq3 cq4 cq5 cq6 cq7)
          refine .inr ?_
          rw [hq]
          rfl
  | cons e r =>
    have hm : e ∈ l := by rw [hes]; simp
    have hsz2 := hl e hm
    have hv := variable_ok e.1
    have ht := Term_ok e.2 (by omega)
    have hfi := find_ok l e.1 (by omega)
    have hdl : d.length + (r.length + 1) = l.length := by rw [hes]; simp
    rw [argsOK] at hargs
    have hz : decide (idxQ (fun o : Sb => o.1 == e.1) l 0 = (d.length : Int)) = !(d.any fun o => o.1 == e.1) := by
      cases hc : d.any fun o => o.1 == e.1 with
      | true =>
        obtain ⟨i, hi, h⟩ := idxQ_any (fun o : Sb => o.1 == e.1) d (e :: r) 0 hc
        rw [hes, h]
        simp
        omega
      | false =>
        rw [hes, idxQ_app _ _ _ _ hc, idxQ]
        simp
    obtain ⟨x, v, m, ws⟩ := e
    simp only at hv ht hfi hz hargs hsz2
    generalize idxQ (fun o : Sb => o.1 == x) l 0 = z at *
    generalize (d.any fun o => o.1 == x) = b3 at *
    generalize (Tm.mk v m ws).ok = b2 at *
    generalize varB x = b1 at *
    simp only [Tm.d] at ht
    generalize hp : std = p at *
    have hget := at_getO (g := Sb.d) hp hes
    rw [show Sb.d (x, Tm.mk v m ws) = .agg [.str x, .bool v, .str m, .row 3 (Tm.ds ws)] from rfl] at hget
    (generalize cq0 : Frm.d = cy0, cq1 : Frm.ds = cy1, cq2 : Sb.d = cy2, cq3 : Tm.ds = cy3, cq4 : argsOK = cy4, cq5 : mapO = cy5, cq6 : natI = cy6, cq7 : opI = cy7; cbv <;> subst cq0 cq1 cq2 cq3 cq4 cq5 cq6 cq7)
    simp only [at_ltO hp hes]
    (generalize cq0 : Frm.d = cy0, cq1 : Frm.ds = cy1, cq2 : Sb.d = cy2, cq3 : Tm.ds = cy3, cq4 : argsOK = cy4, cq5 : mapO = cy5, cq6 : natI = cy6, cq7 : opI = cy7; cbv <;> subst cq0 cq1 cq2 cq3 cq4 cq5 cq6 cq7)
    refine ⟨_, hget, ?_⟩
    (generalize cq0 : Frm.d = cy0, cq1 : Frm.ds = cy1, cq2 : Sb.d = cy2, cq3 : Tm.ds = cy3, cq4 : argsOK = cy4, cq5 : mapO = cy5, cq6 : natI = cy6, cq7 : opI = cy7; cbv <;> subst cq0 cq1 cq2 cq3 cq4 cq5 cq6 cq7)
    refine callA.pure hv rfl ?_
    (generalize cq0 : Frm.d = cy0, cq1 : Frm.ds = cy1, cq2 : Sb.d = cy2, cq3 : Tm.ds = cy3, cq4 : argsOK = cy4, cq5 : mapO = cy5, cq6 : natI = cy6, cq7 : opI = cy7; cbv <;> subst cq0 cq1 cq2 cq3 cq4 cq5 cq6 cq7)
    cases b1 with
    | false =>
      simp only [not_f hp]
      (generalize cq0 : Frm.d = cy0, cq1 : Frm.ds = cy1, cq2 : Sb.d = cy2, cq3 : Tm.ds = cy3, cq4 : argsOK = cy4, cq5 : mapO = cy5, cq6 : natI = cy6, cq7 : opI = cy7; cbv <;> subst cq0 cq1 cq2 cq3 cq4 cq5 cq6 cq7)
      exact .inl (zero2 (by rw [hq, hargs]; rfl))
    | true =>
    simp only [not_t hp]
    (generalize cq0 : Frm.d = cy0, cq1 : Frm.ds = cy1, cq2 : Sb.d = cy2, cq3 : Tm.ds = cy3, cq4 : argsOK = cy4, cq5 : mapO = cy5, cq6 : natI = cy6, cq7 : opI = cy7; cbv <;> subst cq0 cq1 cq2 cq3 cq4 cq5 cq6 cq7)
    refine callA.pure ht rfl ?_
    (generalize cq0 : Frm.d = cy0, cq1 : Frm.ds = cy1, cq2 : Sb.d = cy2, cq3 : Tm.ds = cy3, cq4 : argsOK = cy4, cq5 : mapO = cy5, cq6 : natI = cy6, cq7 : opI = cy7; cbv <;> subst cq0 cq1 cq2 cq3 cq4 cq5 cq6 cq7)
    cases b2 with
    | false =>
      simp only [not_f hp]
      (generalize cq0 : Frm.d = cy0, cq1 : Frm.ds = cy1, cq2 : Sb.d = cy2, cq3 : Tm.ds = cy3, cq4 : argsOK = cy4, cq5 : mapO = cy5, cq6 : natI = cy6, cq7 : opI = cy7; cbv <;> subst cq0 cq1 cq2 cq3 cq4 cq5 cq6 cq7)
      exact .inl (zero2 (by rw [hq, hargs]; rfl))
    | true =>
    simp only [not_t hp]
    (generalize cq0 : Frm.d = cy0, cq1 : Frm.ds = cy1, cq2 : Sb.d = cy2, cq3 : Tm.ds = cy3, cq4 : argsOK = cy4, cq5 : mapO = cy5, cq6 : natI = cy6, cq7 : opI = cy7; cbv <;> subst cq0 cq1 cq2 cq3 cq4 cq5 cq6 cq7)
    refine callA.pure hfi rfl ?_
    (generalize cq0 : Frm.d = cy0, cq1 : Frm.ds = cy1, cq2 : Sb.d = cy2, cq3 : Tm.ds = cy3, cq4 : argsOK = cy4, cq5 : mapO = cy5, cq6 : natI = cy6, cq7 : opI = cy7; cbv <;> subst cq0 cq1 cq2 cq3 cq4 cq5 cq6 cq7)
    have e1 : p.eq z (p.dlen (mapO Sb.d d)) = !b3 := by rw [← hz]; subst hp; simp only [std, mapO_len]; rw [Bool.eq_iff_iff]; simp
    simp only [e1]
    cases b3 with
    | true =>
      simp only [Bool.not_true, not_f hp]
      (generalize cq0 : Frm.d = cy0, cq1 : Frm.ds = cy1, cq2 : Sb.d = cy2, cq3 : Tm.ds = cy3, cq4 : argsOK = cy4, cq5 : mapO = cy5, cq6 : natI = cy6, cq7 : opI = cy7; cbv <;> subst cq0 cq1 cq2 cq3 cq4 cq5 cq6 cq7)
      exact .inl (zero2 (by rw [hq, hargs]; rfl))
    | false =>
      simp only [Bool.not_false, not_t hp]
      (generalize cq0 : Frm.d = cy0, cq1 : Frm.ds = cy1, cq2 : Sb.d = cy2, cq3 : Tm.ds = cy3, cq4 : argsOK = cy4, cq5 : mapO = cy5, cq6 : natI = cy6, cq7 : opI = cy7; cbv <;> subst cq0 cq1 cq2 cq3 cq4 cq5 cq6 cq7)
      refine ⟨by subst hp; simp [std, mapO_len]; omega, (d ++ [(x, .mk v m ws)], r), ⟨by rw [hes]; simp, by rw [hargs]; rfl⟩, by simp, ?_, rfl⟩
      generalize hd' : d ++ [(x, Tm.mk v m ws)] = d'
      (generalize cq0 : Frm.ds = cy0, cq1 : Sb.d = cy1, cq2 : Tm.ds = cy2, cq3 : mapO = cy3, cq4 : opI = cy4; cbv <;> subst cq0 cq1 cq2 cq3 cq4)
      subst hp hd'
      simp [std, mapO_len]
theorem puts_ok (f : Frm) (l : List Sb) (hf : f.size ≤ 100000) (hl : ∀ o ∈ l, o.2.size ≤ 1000) (hll : l.length ≤ 100) :
    Pure E 22 [.d .old f.d, .d .old (.row 4 (mapO Sb.d l))] (.tup [.d .new (putsS f l).1.d, .d .top (.int .i64 (natI (putsS f l).2))]) := by
  have hsz : Sb.sz l ≤ 1001 * l.length := by
    clear hll
    induction l with
    | nil => exact Nat.le_refl _
    | cons o l ih =>
      have h1 := hl o (by simp)
      have h2 := ih fun o' ho' => hl o' (by simp [ho'])
      simp only [Sb.sz, List.length_cons]
      omega
  refine puts_okG f l hf (fun o ho => by have := hl o ho; omega) (by omega) hll fun hr _ => ?_
  have hps := put_size (M := 1000) (by omega) f l hl
  have hr' : fitsB f = true ∧ f.ok = true := by
    have : f.right = (fitsB f && f.ok) := rfl
    rw [this, Bool.and_eq_true] at hr
    exact hr
  have h400 := hr'.1
  simp only [fitsB, Bool.and_eq_true, decide_eq_true_eq] at h400
  omega
end Go.Ly.Tr
end
section
namespace Go.Ly.Tr
set_option maxRecDepth 10000
theorem Z_eq {p : Prims} (hp : std = p) (a : Int) : p.eq a a = true := by subst hp; simp [std]
theorem Z_seq {p : Prims} (hp : std = p) (a : Nm) : p.seq a a = true := by subst hp; simp [std]
theorem I_irr (a : Int) : std.lt a a = false := by simp [std]
theorem S_irr : ∀ a : Nm, std.slt a a = false
  | [] => rfl
  | c :: s => by
    have := S_irr s
    simp only [std] at this ⊢
    simp [Op.bytesLess, this, UInt8.lt_irrefl]
theorem nan149_ok (a : Int) : Pure E 176 [.d .old (.int .u8 a)] (.d .top (.bool false)) := by
  refine pure_by has176 ?_
  generalize hp : std = p
  have e : p.eq a a = true := Z_eq hp a
  cbv
  simp only [e, not_t hp]
theorem compare149_ok (a b : Int) : ∃ c : Int, Pure E 149 [.d .old (.int .u8 a), .d .old (.int .u8 b)] (.d .top (.int .i64 c)) ∧ ((c = 0) ↔ a = b) := by
  have h1 := nan149_ok a
  have h2 := nan149_ok b
  have main : ∀ x y : Bool, std.lt a b = x → std.lt b a = y → Pure E 149 [.d .old (.int .u8 a), .d .old (.int .u8 b)] (.d .top (.int .i64 (match x with | true => -1 | false => match y with | true => 1 | false => 0))) := by
    intro x y hx hy
    refine pure_by has149 ?_
    generalize hp : std = p at *
    have hy' : p.lt b a = y := by subst hp; exact hy
    cbv
    refine callA.pure h1 rfl ?_
    cbv
    refine callA.pure h2 rfl ?_
    cbv
    simp only [hx]
    cases x with
    | true => cbv
    | false =>
      cbv
      simp only [hy']
      cases y with
      | true => cbv
      | false => cbv
  refine ⟨_, main _ _ rfl rfl, ?_⟩
  cases hx : std.lt a b with
  | true =>
    constructor
    · intro h; simp at h
    · rintro rfl
      rw [I_irr a] at hx
      cases hx
  | false =>
    cases hy : std.lt b a with
    | true =>
      constructor
      · intro h; simp at h
      · rintro rfl
        rw [I_irr a] at hy; cases hy
    | false =>
      constructor
      · intro _
        simp only [std, decide_eq_false_iff_not] at hx hy; omega
      · intro _; rfl
theorem nan178_ok (a : Int) : Pure E 194 [.d .old (.int .i64 a)] (.d .top (.bool false)) := by
  refine pure_by has194 ?_
  generalize hp : std = p
  have e : p.eq a a = true := Z_eq hp a
  cbv
  simp only [e, not_t hp]
theorem compare178_ok (a b : Int) : ∃ c : Int, Pure E 178 [.d .old (.int .i64 a), .d .old (.int .i64 b)] (.d .top (.int .i64 c)) ∧ ((c = 0) ↔ a = b) := by
  have h1 := nan178_ok a
  have h2 := nan178_ok b
  have main : ∀ x y : Bool, std.lt a b = x → std.lt b a = y → Pure E 178 [.d .old (.int .i64 a), .d .old (.int .i64 b)] (.d .top (.int .i64 (match x with | true => -1 | false => match y with | true => 1 | false => 0))) := by
    intro x y hx hy
    refine pure_by has178 ?_
    generalize hp : std = p at *
    have hy' : p.lt b a = y := by subst hp; exact hy
    cbv
    refine callA.pure h1 rfl ?_
    cbv
    refine callA.pure h2 rfl ?_
    cbv
    simp only [hx]
    cases x with
    | true => cbv
    | false =>
      cbv
      simp only [hy']
      cases y with
      | true => cbv
      | false => cbv
  refine ⟨_, main _ _ rfl rfl, ?_⟩
  cases hx : std.lt a b with
  | true =>
    constructor
    · intro h; simp at h
    · rintro rfl
      rw [I_irr a] at hx
      cases hx
  | false =>
    cases hy : std.lt b a with
    | true =>
      constructor
      · intro h; simp at h
      · rintro rfl
        rw [I_irr a] at hy; cases hy
    | false =>
      constructor
      · intro _
        simp only [std, decide_eq_false_iff_not] at hx hy; omega
      · intro _; rfl
theorem nan150_ok (a : Nm) : Pure E 177 [.d .old (.str a)] (.d .top (.bool false)) := by
  refine pure_by has177 ?_
  generalize hp : std = p
  have e : p.seq a a = true := Z_seq hp a
  cbv
  simp only [e, not_t hp]
theorem compare150_ok (a b : Nm) : ∃ c : Int, Pure E 150 [.d .old (.str a), .d .old (.str b)] (.d .top (.int .i64 c)) ∧ ((c = 0) ↔ a = b) := by
  have h1 := nan150_ok a
  have h2 := nan150_ok b
  have main : ∀ x y : Bool, std.slt a b = x → (!std.sle a b) = y → Pure E 150 [.d .old (.str a), .d .old (.str b)] (.d .top (.int .i64 (match x with | true => -1 | false => match y with | true => 1 | false => 0))) := by
    intro x y hx hy
    refine pure_by has150 ?_
    generalize hp : std = p at *
    have hy' : p.not (p.sle a b) = y := by subst hp; exact hy
    cbv
    refine callA.pure h1 rfl ?_
    cbv
    refine callA.pure h2 rfl ?_
    cbv
    simp only [hx]
    cases x with
    | true => cbv
    | false =>
      cbv
      simp only [hy']
      cases y with
      | true => cbv
      | false => cbv
  refine ⟨_, main _ _ rfl rfl, ?_⟩
  cases hx : std.slt a b with
  | true =>
    constructor
    · intro h; simp at h
    · rintro rfl
      rw [S_irr a] at hx
      cases hx
  | false =>
    cases hy : (!std.sle a b) with
    | true =>
      constructor
      · intro h; simp at h
      · rintro rfl
        simp [std] at hy
    | false =>
      constructor
      · intro _
        simp only [std] at hx hy; simp [hx] at hy; exact hy
      · intro _; rfl
def orI : List Int → Int
  | [] => 0
  | c :: l => if c = 0 then orI l else c
theorem orI_zero : ∀ l : List Int, orI l = 0 ↔ ∀ c ∈ l, c = 0
  | [] => by simp [orI]
  | c :: l => by
    have := orI_zero l
    simp only [orI, List.mem_cons, forall_eq_or_imp]
    by_cases h : c = 0
    · simp [h, this]
    · simp [h]
def intD (c : Int) : D := .int .i64 c
theorem or_ok (l : List Int) (hl : l.length ≤ 1000) : Pure E 148 [.d .old (.row 1 (mapO intD l))] (.d .top (.int .i64 (orI l))) := by
  refine pure_or (r1 := .d .old (.int .i64 (orI l))) ?_ (fun S w v h => ⟨rfl, h.2⟩)
  refine fun_by has148 ?_
  generalize hp : std = p
  (generalize cq0 : mapO = cy0, cq1 : orI = cy1; cbv <;> subst cq0 cq1)
  subst hp
  refine loopA_inv (ι := List Int × List Int) (fun j => l = j.1 ++ j.2 ∧ orI l = orI j.2) (fun j => j.2.length)
    (fun j => mkF 18 [(2, .d .top (.int .i64 0)), (3, .d .top (.int .i64 0)), (6, .d .old (.row 1 (mapO intD l))), (7, .d .top (.int .i64 (std.dlen (mapO intD l)))), (8, .d .top (.int .i64 (std.dlen (mapO intD j.1))))])
    (fun j => []) (fun j => ()) ([], l) ⟨rfl, rfl⟩ ?_ rfl (fun _ => rfl) ?_
  · generalize hp : std = p
    (generalize cq0 : mapO = cy0; cbv <;> subst cq0)
    subst hp
    simp [std, mapO]
  · rintro ⟨d, r⟩ ⟨hes, hd⟩
    simp only at hes hd ⊢
    cases r with
    | nil =>
      rw [List.append_nil] at hes
      subst hes
      rw [hd, orI]
      generalize hp : std = p
      (generalize cq0 : mapO = cy0, cq1 : orI = cy1; cbv <;> subst cq0 cq1)
      simp only [end_ltO hp]
      (generalize cq0 : mapO = cy0, cq1 : orI = cy1; cbv <;> subst cq0 cq1)
      exact .inr trivial
    | cons e r =>
      have hdl : d.length + (r.length + 1) = l.length := by rw [hes]; simp
      have hd1 := hd
      rw [hd, orI]
      generalize hp : std = p
      have hget := at_getO (g := intD) hp hes
      rw [show intD e = .int .i64 e from rfl] at hget
      have e1 : p.not (p.eq e 0) = decide (e ≠ 0) := by subst hp; simp only [std]; rw [Bool.eq_iff_iff]; simp
      (generalize cq0 : mapO = cy0, cq1 : orI = cy1; cbv <;> subst cq0 cq1)
      simp only [at_ltO hp hes]
      (generalize cq0 : mapO = cy0, cq1 : orI = cy1; cbv <;> subst cq0 cq1)
      refine ⟨_, hget, ?_⟩
      (generalize cq0 : mapO = cy0, cq1 : orI = cy1; cbv <;> subst cq0 cq1)
      simp only [e1]
      by_cases h : e = 0
      · have hde : decide (e ≠ 0) = false := by simp [h]
        rw [if_pos h]
        simp only [hde]
        (generalize cq0 : mapO = cy0, cq1 : orI = cy1; cbv <;> subst cq0 cq1)
        refine ⟨by subst hp; simp [std, mapO_len]; omega, (d ++ [e], r), ⟨by rw [hes]; simp, rfl⟩, by simp, ?_, rfl⟩
        generalize hd' : d ++ [e] = d'
        (generalize cq0 : mapO = cy0; cbv <;> subst cq0)
        subst hp hd'
        simp [std, mapO_len]
      · have hde : decide (e ≠ 0) = true := by simp [h]
        rw [if_neg h]
        simp only [hde]
        (generalize cq0 : mapO = cy0, cq1 : orI = cy1; cbv <;> subst cq0 cq1)
theorem compareFuncT_ok {α : Type} {g : α → D} {k : Nat} (q : α → α → Bool) (hs : ∀ x, ∃ v1 v2 v3, g x = .agg [.bool v1, .str v2, .row 3 v3]) (a b : List α) (hla : a.length ≤ 1000000) (hab : a.length = b.length)
    (hc : ∀ x ∈ a, ∀ y, ∃ c : Int, Pure E k [.d .old (g x), .d .old (g y)] (.d .top (.int .i64 c)) ∧ ((c = 0) ↔ q x y = true)) :
    ∃ c : Int, Pure E 179 [.d .old (.row 3 (mapO g a)), .d .old (.row 3 (mapO g b)), .fn k [] []] (.d .top (.int .i64 c)) ∧ ((c = 0) ↔ (a.zip b).all (fun p => q p.1 p.2) = true) := by
  obtain ⟨C, hC⟩ : ∃ C : List (α × α) → Int, (∀ p r, (C (p :: r) = 0 → C r = 0 ∧ q p.1 p.2 = true) ∧ (q p.1 p.2 = true → C (p :: r) = C r)) ∧ C [] = 0 ∧
      ∀ p ∈ a.zip b, ∀ r, ∃ c : Int, Pure E k [.d .old (g p.1), .d .old (g p.2)] (.d .top (.int .i64 c)) ∧ ((c = 0) ↔ q p.1 p.2 = true) ∧ (c ≠ 0 → C (p :: r) = c) := by
    classical
    let cf : α × α → Int := fun p => if h : ∃ c : Int, Pure E k [.d .old (g p.1), .d .old (g p.2)] (.d .top (.int .i64 c)) ∧ ((c = 0) ↔ q p.1 p.2 = true) then h.choose else if q p.1 p.2 then 0 else 1
    have hcf : ∀ p, (cf p = 0) ↔ q p.1 p.2 = true := by
      intro p
      simp only [cf]
      split
      · rename_i h; exact h.choose_spec.2
      · split <;> simp_all
    refine ⟨fun l => orI (l.map cf), fun p r => ⟨fun h => ?_, fun h => ?_⟩, rfl, fun p hp r => ?_⟩
    · simp only [List.map_cons, orI] at h
      by_cases h0 : cf p = 0
      · rw [if_pos h0] at h; exact ⟨h, (hcf p).1 h0⟩
      · rw [if_neg h0] at h; exact absurd h h0
    · simp only [List.map_cons, orI]
      rw [if_pos ((hcf p).2 h)]
    · have hm := hc p.1 (List.of_mem_zip hp).1 p.2
      refine ⟨cf p, ?_, hcf p, fun h0 => by simp only [List.map_cons, orI]; rw [if_neg h0]⟩
      simp only [cf]
      rw [dif_pos hm]
      exact hm.choose_spec.1
  obtain ⟨hC1, hC0, hC2⟩ := hC
  refine ⟨C (a.zip b), ?_, ?_⟩
  · refine pure_by has179 ?_
    generalize hp : std = p
    (generalize cq0 : mapO = cy0; cbv <;> subst cq0)
    subst hp
    refine loopA_inv (ι := (List α × List α) × (List α × List α)) (fun j => a = j.1.1 ++ j.2.1 ∧ b = j.1.2 ++ j.2.2 ∧ j.1.1.length = j.1.2.length ∧ j.2.1.length = j.2.2.length ∧ C (a.zip b) = C (j.2.1.zip j.2.2)) (fun j => j.2.1.length)
      (fun j => mkF 39 [(0, .d .old (.row 3 (mapO g a))), (1, .d .old (.row 3 (mapO g b))), (2, .fn k [] []), (6, .d .top (.int .i64 0)), (11, .d .old (.row 3 (mapO g a))), (12, .d .top (.int .i64 (std.dlen (mapO g a)))), (13, .d .top (.int .i64 (std.dlen (mapO g j.1.1))))])
      (fun j => []) (fun j => ()) (([], []), (a, b)) ⟨rfl, rfl, rfl, hab, rfl⟩ ?_ rfl (fun _ => rfl) ?_
    · generalize hp : std = p
      (generalize cq0 : mapO = cy0; cbv <;> subst cq0)
      subst hp
      simp [std, mapO]
    · rintro ⟨⟨d1, d2⟩, ⟨r1, r2⟩⟩ ⟨h1, h2, h3, h4, h5⟩
      simp only at h1 h2 h3 h4 h5 ⊢
      cases r1 with
      | nil =>
        have hr2 : r2 = [] := List.length_eq_zero_iff.1 h4.symm
        subst hr2
        rw [List.append_nil] at h1 h2
        subst h1 h2
        rw [h5, List.zip_nil_left, hC0]
        generalize hp : std = p
        have e1 : p.lt (p.dlen (mapO g a)) (p.dlen (mapO g b)) = false := by subst hp; simp [std, mapO_len, hab]
        (generalize cq0 : mapO = cy0; cbv <;> subst cq0)
        simp only [end_ltO hp]
        (generalize cq0 : mapO = cy0; cbv <;> subst cq0)
        simp only [e1]
        (generalize cq0 : mapO = cy0; cbv <;> subst cq0)
      | cons x r1 =>
        cases r2 with
        | nil => cases h4
        | cons y r2 =>
        have hmem : (x, y) ∈ a.zip b := by rw [h1, h2, List.zip_append h3]; simp
        obtain ⟨c, hcp, hc0, hcn⟩ := hC2 (x, y) hmem (r1.zip r2)
        have hCC := hC1 (x, y) (r1.zip r2)
        obtain ⟨v1, v2, v3, hv⟩ := hs x
        obtain ⟨w1, w2, w3, hw⟩ := hs y
        simp only at hcp hc0 hCC hcn
        rw [List.zip_cons_cons] at h5
        have hdl : d1.length + (r1.length + 1) = a.length := by rw [h1]; simp
        have hdl2 : d2.length + (r2.length + 1) = b.length := by rw [h2]; simp
        rw [hv, hw] at hcp
        generalize hp : std = p
        have hg1 := at_getO (g := g) hp h1
        have hg2 : p.dget (mapO g b) (p.dlen (mapO g d1)) = some (g y) := by
          have := at_getO (g := g) hp h2
          rwa [show p.dlen (mapO g d1) = p.dlen (mapO g d2) by subst hp; simp [std, mapO_len, h3]]
        rw [hv] at hg1
        rw [hw] at hg2
        have e1 : p.le (p.dlen (mapO g b)) (p.dlen (mapO g d1)) = false := by subst hp; simp [std, mapO_len]; omega
        have e2 : p.not (p.eq c 0) = decide (c ≠ 0) := by subst hp; simp only [std]; rw [Bool.eq_iff_iff]; simp
        (generalize cq0 : mapO = cy0; cbv <;> subst cq0)
        simp only [at_ltO hp h1]
        (generalize cq0 : mapO = cy0; cbv <;> subst cq0)
        refine ⟨_, hg1, ?_⟩
        (generalize cq0 : mapO = cy0; cbv <;> subst cq0)
        simp only [e1]
        (generalize cq0 : mapO = cy0; cbv <;> subst cq0)
        refine ⟨_, hg2, ?_⟩
        (generalize cq0 : mapO = cy0; cbv <;> subst cq0)
        refine callA.pure hcp rfl ?_
        (generalize cq0 : mapO = cy0; cbv <;> subst cq0)
        simp only [e2]
        by_cases h : c = 0
        · have hde : decide (c ≠ 0) = false := by simp [h]
          simp only [hde]
          (generalize cq0 : mapO = cy0; cbv <;> subst cq0)
          refine ⟨by subst hp; simp [std, mapO_len]; omega, ((d1 ++ [x], d2 ++ [y]), (r1, r2)), ⟨by rw [h1]; simp, by rw [h2]; simp, by simp [h3], by simpa using h4, by rw [h5]; exact hCC.2 (hc0.1 h)⟩, by simp, ?_, rfl⟩
          generalize hd' : d1 ++ [x] = d'
          (generalize cq0 : mapO = cy0; cbv <;> subst cq0)
          subst hp hd'
          simp [std, mapO_len]
        · have hde : decide (c ≠ 0) = true := by simp [h]
          simp only [hde]
          (generalize cq0 : mapO = cy0; cbv <;> subst cq0)
          rw [h5, hcn h]
  · have : ∀ l : List (α × α), C l = 0 → l.all (fun p => q p.1 p.2) = true := by
      intro l
      induction l with
      | nil => intro _; rfl
      | cons p r ih =>
        intro h
        obtain ⟨g1, g2⟩ := (hC1 p r).1 h
        simp only [List.all_cons, Bool.and_eq_true]
        exact ⟨g2, ih g1⟩
    have back : ∀ l : List (α × α), l.all (fun p => q p.1 p.2) = true → C l = 0 := by
      intro l
      induction l with
      | nil => intro _; exact hC0
      | cons p r ih =>
        intro h
        simp only [List.all_cons, Bool.and_eq_true] at h
        rw [(hC1 p r).2 h.1]
        exact ih h.2
    exact ⟨this _, back _⟩
theorem listsT_ok {α : Type} {g : α → D} {k : Nat} (q : α → α → Bool) (hs : ∀ x, ∃ v1 v2 v3, g x = .agg [.bool v1, .str v2, .row 3 v3]) (a b : List α) (hla : a.length ≤ 1000000)
    (hc : ∀ x ∈ a, ∀ y, ∃ c : Int, Pure E k [.d .old (g x), .d .old (g y)] (.d .top (.int .i64 c)) ∧ ((c = 0) ↔ q x y = true)) :
    ∃ c : Int, Pure E 151 [.d .old (.row 3 (mapO g a)), .d .old (.row 3 (mapO g b)), .fn k [] []] (.d .top (.int .i64 c)) ∧ ((c = 0) ↔ (a.length = b.length ∧ (a.zip b).all (fun p => q p.1 p.2) = true)) := by
  by_cases hab : a.length = b.length
  · obtain ⟨c, h1, h2⟩ := compareFuncT_ok q hs a b hla hab hc
    refine ⟨c, ?_, by rw [h2]; simp [hab]⟩
    refine pure_by has151 ?_
    generalize hp : std = p
    have e1 : p.not (p.eq (p.dlen (mapO g a)) (p.dlen (mapO g b))) = false := by subst hp; simp [std, mapO_len, hab]
    (generalize cq0 : mapO = cy0; cbv <;> subst cq0)
    simp only [e1]
    (generalize cq0 : mapO = cy0; cbv <;> subst cq0)
    refine callA.pure h1 rfl ?_
    (generalize cq0 : mapO = cy0; cbv <;> subst cq0)
  · obtain ⟨c, h1, h2⟩ := compare178_ok (std.dlen (mapO g a)) (std.dlen (mapO g b))
    refine ⟨c, ?_, ?_⟩
    · refine pure_by has151 ?_
      generalize hp : std = p at *
      have e1 : p.not (p.eq (p.dlen (mapO g a)) (p.dlen (mapO g b))) = true := by subst hp; simp [std, mapO_len]; omega
      (generalize cq0 : mapO = cy0; cbv <;> subst cq0)
      simp only [e1]
      (generalize cq0 : mapO = cy0; cbv <;> subst cq0)
      refine callA.pure h1 rfl ?_
      (generalize cq0 : mapO = cy0; cbv <;> subst cq0)
    · rw [h2]
      simp only [std, mapO_len, hab, false_and, iff_false]
      omega
theorem compareFuncF_ok {α : Type} {g : α → D} {k : Nat} (q : α → α → Bool) (hs : ∀ x, ∃ v1 v2 v3 v4, g x = .agg [.int .u8 v1, .str v2, .row 3 v3, .row 4 v4]) (a b : List α) (hla : a.length ≤ 1000000) (hab : a.length = b.length)
    (hc : ∀ x ∈ a, ∀ y, ∃ c : Int, Pure E k [.d .old (g x), .d .old (g y)] (.d .top (.int .i64 c)) ∧ ((c = 0) ↔ q x y = true)) :
    ∃ c : Int, Pure E 180 [.d .old (.row 4 (mapO g a)), .d .old (.row 4 (mapO g b)), .fn k [] []] (.d .top (.int .i64 c)) ∧ ((c = 0) ↔ (a.zip b).all (fun p => q p.1 p.2) = true) := by
  obtain ⟨C, hC⟩ : ∃ C : List (α × α) → Int, (∀ p r, (C (p :: r) = 0 → C r = 0 ∧ q p.1 p.2 = true) ∧ (q p.1 p.2 = true → C (p :: r) = C r)) ∧ C [] = 0 ∧
      ∀ p ∈ a.zip b, ∀ r, ∃ c : Int, Pure E k [.d .old (g p.1), .d .old (g p.2)] (.d .top (.int .i64 c)) ∧ ((c = 0) ↔ q p.1 p.2 = true) ∧ (c ≠ 0 → C (p :: r) = c) := by
    classical
    let cf : α × α → Int := fun p => if h : ∃ c : Int, Pure E k [.d .old (g p.1), .d .old (g p.2)] (.d .top (.int .i64 c)) ∧ ((c = 0) ↔ q p.1 p.2 = true) then h.choose else if q p.1 p.2 then 0 else 1
    have hcf : ∀ p, (cf p = 0) ↔ q p.1 p.2 = true := by
      intro p
      simp only [cf]
      split
      · rename_i h; exact h.choose_spec.2
      · split <;> simp_all
    refine ⟨fun l => orI (l.map cf), fun p r => ⟨fun h => ?_, fun h => ?_⟩, rfl, fun p hp r => ?_⟩
    · simp only [List.map_cons, orI] at h
      by_cases h0 : cf p = 0
      · rw [if_pos h0] at h; exact ⟨h, (hcf p).1 h0⟩
      · rw [if_neg h0] at h; exact absurd h h0
    · simp only [List.map_cons, orI]
      rw [if_pos ((hcf p).2 h)]
    · have hm := hc p.1 (List.of_mem_zip hp).1 p.2
      refine ⟨cf p, ?_, hcf p, fun h0 => by simp only [List.map_cons, orI]; rw [if_neg h0]⟩
      simp only [cf]
      rw [dif_pos hm]
      exact hm.choose_spec.1
  obtain ⟨hC1, hC0, hC2⟩ := hC
  refine ⟨C (a.zip b), ?_, ?_⟩
  · refine pure_by has180 ?_
    generalize hp : std = p
    (generalize cq0 : mapO = cy0; cbv <;> subst cq0)
    subst hp
    refine loopA_inv (ι := (List α × List α) × (List α × List α)) (fun j => a = j.1.1 ++ j.2.1 ∧ b = j.1.2 ++ j.2.2 ∧ j.1.1.length = j.1.2.length ∧ j.2.1.length = j.2.2.length ∧ C (a.zip b) = C (j.2.1.zip j.2.2)) (fun j => j.2.1.length)
      (fun j => mkF 39 [(0, .d .old (.row 4 (mapO g a))), (1, .d .old (.row 4 (mapO g b))), (2, .fn k [] []), (6, .d .top (.int .i64 0)), (11, .d .old (.row 4 (mapO g a))), (12, .d .top (.int .i64 (std.dlen (mapO g a)))), (13, .d .top (.int .i64 (std.dlen (mapO g j.1.1))))])
      (fun j => []) (fun j => ()) (([], []), (a, b)) ⟨rfl, rfl, rfl, hab, rfl⟩ ?_ rfl (fun _ => rfl) ?_
    · generalize hp : std = p
      (generalize cq0 : mapO = cy0; cbv <;> subst cq0)
      subst hp
      simp [std, mapO]
    · rintro ⟨⟨d1, d2⟩, ⟨r1, r2⟩⟩ ⟨h1, h2, h3, h4, h5⟩
      simp only at h1 h2 h3 h4 h5 ⊢
      cases r1 with
      | nil =>
        have hr2 : r2 = [] := List.length_eq_zero_iff.1 h4.symm
        subst hr2
        rw [List.append_nil] at h1 h2
        subst h1 h2
        rw [h5, List.zip_nil_left, hC0]
        generalize hp : std = p
        have e1 : p.lt (p.dlen (mapO g a)) (p.dlen (mapO g b)) = false := by subst hp; simp [std, mapO_len, hab]
        (generalize cq0 : mapO = cy0; cbv <;> subst cq0)
        simp only [end_ltO hp]
        (generalize cq0 : mapO = cy0; cbv <;> subst cq0)
        simp only [e1]
        (generalize cq0 : mapO = cy0; cbv <;> subst cq0)
      | cons x r1 =>
        cases r2 with
        | nil => cases h4
        | cons y r2 =>
        have hmem : (x, y) ∈ a.zip b := by rw [h1, h2, List.zip_append h3]; simp
        obtain ⟨c, hcp, hc0, hcn⟩ := hC2 (x, y) hmem (r1.zip r2)
        have hCC := hC1 (x, y) (r1.zip r2)
        obtain ⟨v1, v2, v3, v4, hv⟩ := hs x
        obtain ⟨w1, w2, w3, w4, hw⟩ := hs y
        simp only at hcp hc0 hCC hcn
        rw [List.zip_cons_cons] at h5
        have hdl : d1.length + (r1.length + 1) = a.length := by rw [h1]; simp
        have hdl2 : d2.length + (r2.length + 1) = b.length := by rw [h2]; simp
        rw [hv, hw] at hcp
        generalize hp : std = p
        have hg1 := at_getO (g := g) hp h1
        have hg2 : p.dget (mapO g b) (p.dlen (mapO g d1)) = some (g y) := by
          have := at_getO (g := g) hp h2
          rwa [show p.dlen (mapO g d1) = p.dlen (mapO g d2) by subst hp; simp [std, mapO_len, h3]]
        rw [hv] at hg1
        rw [hw] at hg2
        have e1 : p.le (p.dlen (mapO g b)) (p.dlen (mapO g d1)) = false := by subst hp; simp [std, mapO_len]; omega
        have e2 : p.not (p.eq c 0) = decide (c ≠ 0) := by subst hp; simp only [std]; rw [Bool.eq_iff_iff]; simp
        (generalize cq0 : mapO = cy0; cbv <;> subst cq0)
        simp only [at_ltO hp h1]
        (generalize cq0 : mapO = cy0; cbv <;> subst cq0)
        refine ⟨_, hg1, ?_⟩
        (generalize cq0 : mapO = cy0; cbv <;> subst cq0)
        simp only [e1]
        (generalize cq0 : mapO = cy0; cbv <;> subst cq0)
        refine ⟨_, hg2, ?_⟩
        (generalize cq0 : mapO = cy0; cbv <;> subst cq0)
        refine callA.pure hcp rfl ?_
        (generalize cq0 : mapO = cy0; cbv <;> subst cq0)
        simp only [e2]
        by_cases h : c = 0
        · have hde : decide (c ≠ 0) = false := by simp [h]
          simp only [hde]
          (generalize cq0 : mapO = cy0; cbv <;> subst cq0)
          refine ⟨by subst hp; simp [std, mapO_len]; omega, ((d1 ++ [x], d2 ++ [y]), (r1, r2)), ⟨by rw [h1]; simp, by rw [h2]; simp, by simp [h3], by simpa using h4, by rw [h5]; exact hCC.2 (hc0.1 h)⟩, by simp, ?_, rfl⟩
          generalize hd' : d1 ++ [x] = d'
          (generalize cq0 : mapO = cy0; cbv <;> subst cq0)
          subst hp hd'
          simp [std, mapO_len]
        · have hde : decide (c ≠ 0) = true := by simp [h]
          simp only [hde]
          (generalize cq0 : mapO = cy0; cbv <;> subst cq0)
          rw [h5, hcn h]
  · have : ∀ l : List (α × α), C l = 0 → l.all (fun p => q p.1 p.2) = true := by
      intro l
      induction l with
      | nil => intro _; rfl
      | cons p r ih =>
        intro h
        obtain ⟨g1, g2⟩ := (hC1 p r).1 h
        simp only [List.all_cons, Bool.and_eq_true]
        exact ⟨g2, ih g1⟩
    have back : ∀ l : List (α × α), l.all (fun p => q p.1 p.2) = true → C l = 0 := by
      intro l
      induction l with
      | nil => intro _; exact hC0
      | cons p r ih =>
        intro h
        simp only [List.all_cons, Bool.and_eq_true] at h
        rw [(hC1 p r).2 h.1]
        exact ih h.2
    exact ⟨this _, back _⟩
theorem listsF_ok {α : Type} {g : α → D} {k : Nat} (q : α → α → Bool) (hs : ∀ x, ∃ v1 v2 v3 v4, g x = .agg [.int .u8 v1, .str v2, .row 3 v3, .row 4 v4]) (a b : List α) (hla : a.length ≤ 1000000)
    (hc : ∀ x ∈ a, ∀ y, ∃ c : Int, Pure E k [.d .old (g x), .d .old (g y)] (.d .top (.int .i64 c)) ∧ ((c = 0) ↔ q x y = true)) :
    ∃ c : Int, Pure E 153 [.d .old (.row 4 (mapO g a)), .d .old (.row 4 (mapO g b)), .fn k [] []] (.d .top (.int .i64 c)) ∧ ((c = 0) ↔ (a.length = b.length ∧ (a.zip b).all (fun p => q p.1 p.2) = true)) := by
  by_cases hab : a.length = b.length
  · obtain ⟨c, h1, h2⟩ := compareFuncF_ok q hs a b hla hab hc
    refine ⟨c, ?_, by rw [h2]; simp [hab]⟩
    refine pure_by has153 ?_
    generalize hp : std = p
    have e1 : p.not (p.eq (p.dlen (mapO g a)) (p.dlen (mapO g b))) = false := by subst hp; simp [std, mapO_len, hab]
    (generalize cq0 : mapO = cy0; cbv <;> subst cq0)
    simp only [e1]
    (generalize cq0 : mapO = cy0; cbv <;> subst cq0)
    refine callA.pure h1 rfl ?_
    (generalize cq0 : mapO = cy0; cbv <;> subst cq0)
  · obtain ⟨c, h1, h2⟩ := compare178_ok (std.dlen (mapO g a)) (std.dlen (mapO g b))
    refine ⟨c, ?_, ?_⟩
    · refine pure_by has153 ?_
      generalize hp : std = p at *
      have e1 : p.not (p.eq (p.dlen (mapO g a)) (p.dlen (mapO g b))) = true := by subst hp; simp [std, mapO_len]; omega
      (generalize cq0 : mapO = cy0; cbv <;> subst cq0)
      simp only [e1]
      (generalize cq0 : mapO = cy0; cbv <;> subst cq0)
      refine callA.pure h1 rfl ?_
      (generalize cq0 : mapO = cy0; cbv <;> subst cq0)
    · rw [h2]
      simp only [std, mapO_len, hab, false_and, iff_false]
      omega
end Go.Ly.Tr
end
section
namespace Go.Ly.Tr
set_option maxRecDepth 10000
theorem sames_zip : ∀ a b : List Tm, Tm.sames a b = true ↔ (a.length = b.length ∧ (a.zip b).all (fun p => p.1.same p.2) = true)
  | [], [] => by simp [Tm.sames]
  | [], _ :: _ => by simp [Tm.sames]
  | _ :: _, [] => by simp [Tm.sames]
  | x :: a, y :: b => by
    rw [Tm.sames, Bool.and_eq_true, sames_zip a b]
    simp only [List.length_cons, List.zip_cons_cons, List.all_cons, Bool.and_eq_true, Nat.add_right_cancel_iff]
    constructor
    · rintro ⟨h1, h2, h3⟩; exact ⟨h2, h1, h3⟩
    · rintro ⟨h2, h1, h3⟩; exact ⟨h1, h2, h3⟩
theorem Fsames_zip : ∀ a b : List Frm, Frm.sames a b = true ↔ (a.length = b.length ∧ (a.zip b).all (fun p => p.1.same p.2) = true)
  | [], [] => by simp [Frm.sames]
  | [], _ :: _ => by simp [Frm.sames]
  | _ :: _, [] => by simp [Frm.sames]
  | x :: a, y :: b => by
    rw [Frm.sames, Bool.and_eq_true, Fsames_zip a b]
    simp only [List.length_cons, List.zip_cons_cons, List.all_cons, Bool.and_eq_true, Nat.add_right_cancel_iff]
    constructor
    · rintro ⟨h1, h2, h3⟩; exact ⟨h2, h1, h3⟩
    · rintro ⟨h2, h1, h3⟩; exact ⟨h1, h2, h3⟩
theorem byTerm_ok (t : Tm) : t.size ≤ 1000000 → ∀ u : Tm, ∃ c : Int, Pure E 152 [.d .old t.d, .d .old u.d] (.d .top (.int .i64 c)) ∧ ((c = 0) ↔ t.same u = true) := by
  induction t using Tm.ind with
  | h v n us ih =>
  intro hs u
  have hl := Tm.len_size us
  simp only [Tm.size] at hs
  obtain ⟨v', n', us'⟩ := u
  obtain ⟨c1, g1, g2⟩ := compare150_ok n n'
  obtain ⟨c2, g3, g4⟩ := listsT_ok (g := Tm.d) (k := 152) Tm.same Tm.shape us us' (by omega) fun x hx y => ih x hx (by have := Tm.size_mem hx; omega) y
  rw [mapT, mapT] at g3
  rw [← sames_zip] at g4
  have g5 : Pure E 148 [.d .old (.row 1 [.int .i64 c1, .int .i64 c2])] (.d .top (.int .i64 (orI [c1, c2]))) := or_ok [c1, c2] (by simp)
  have hsame : (Tm.mk v n us).same (.mk v' n' us') = (v == v' && (n == n' && Tm.sames us us')) := by rw [Tm.same]
  have hor := orI_zero [c1, c2]
  simp only [List.mem_cons, List.mem_singleton, forall_eq_or_imp, forall_eq, List.not_mem_nil, false_imp_iff, implies_true, and_true] at hor
  have main : Pure E 152 [.d .old (.agg [.bool v, .str n, .row 3 (Tm.ds us)]), .d .old (.agg [.bool v', .str n', .row 3 (Tm.ds us')])] (.d .top (.int .i64 (cond (v && !v') (-1) (cond (v' && !v) 1 (orI [c1, c2]))))) := by
    generalize orI [c1, c2] = z at *
    clear ih g2 g4 hsame hor
    refine pure_by has152 ?_
    generalize hp : std = p
    (generalize cq0 : Tm.ds = cy0; cbv <;> subst cq0)
    cases v with
    | true =>
      (generalize cq0 : Tm.ds = cy0; cbv <;> subst cq0)
      cases v' with
      | false =>
        simp only [not_f hp]
        (generalize cq0 : Tm.ds = cy0; cbv <;> subst cq0)
      | true =>
        simp only [not_t hp]
        (generalize cq0 : Tm.ds = cy0; cbv <;> subst cq0)
        simp only [not_t hp]
        (generalize cq0 : Tm.ds = cy0; cbv <;> subst cq0)
        refine drawA.mk _ ⟨_, _, _, rfl, g1, rfl, rfl⟩ ?_
        (generalize cq0 : Tm.ds = cy0; cbv <;> subst cq0)
        refine drawA.mk _ ⟨_, _, _, rfl, g3, rfl, rfl⟩ ?_
        (generalize cq0 : Tm.ds = cy0; cbv <;> subst cq0)
        refine drawA.mk _ ⟨_, _, _, rfl, g5, rfl, rfl⟩ ?_
        (generalize cq0 : Tm.ds = cy0; cbv <;> subst cq0)
    | false =>
      (generalize cq0 : Tm.ds = cy0; cbv <;> subst cq0)
      cases v' with
      | true =>
        (generalize cq0 : Tm.ds = cy0; cbv <;> subst cq0)
        simp only [not_f hp]
        (generalize cq0 : Tm.ds = cy0; cbv <;> subst cq0)
      | false =>
        (generalize cq0 : Tm.ds = cy0; cbv <;> subst cq0)
        refine drawA.mk _ ⟨_, _, _, rfl, g1, rfl, rfl⟩ ?_
        (generalize cq0 : Tm.ds = cy0; cbv <;> subst cq0)
        refine drawA.mk _ ⟨_, _, _, rfl, g3, rfl, rfl⟩ ?_
        (generalize cq0 : Tm.ds = cy0; cbv <;> subst cq0)
        refine drawA.mk _ ⟨_, _, _, rfl, g5, rfl, rfl⟩ ?_
        (generalize cq0 : Tm.ds = cy0; cbv <;> subst cq0)
  simp only [Tm.d]
  refine ⟨_, main, ?_⟩
  rw [hsame]
  cases v <;> cases v'
  · show orI [c1, c2] = 0 ↔ _
    simp only [beq_self_eq_true, Bool.true_and, Bool.and_eq_true, beq_iff_eq, hor, g2, g4]
  · simp
  · simp
  · show orI [c1, c2] = 0 ↔ _
    simp only [beq_self_eq_true, Bool.true_and, Bool.and_eq_true, beq_iff_eq, hor, g2, g4]
theorem compare_ok (f : Frm) : f.size ≤ 1000000 → ∀ u : Frm, ∃ c : Int, Pure E 113 [.d .old f.d, .d .old u.d] (.d .top (.int .i64 c)) ∧ ((c = 0) ↔ f.same u = true) := by
  induction f using Frm.ind with
  | h o n us fs ih =>
  intro hs u
  have hl := Tm.len_size us
  have hl2 := Frm.len_size fs
  simp only [Frm.size] at hs
  obtain ⟨o', n', us', fs'⟩ := u
  obtain ⟨c0, g1, g2⟩ := compare149_ok (opI o) (opI o')
  obtain ⟨c1, g3, g4⟩ := compare150_ok n n'
  obtain ⟨c2, g5, g6⟩ := listsT_ok (g := Tm.d) (k := 152) Tm.same Tm.shape us us' (by omega) fun x hx y => byTerm_ok x (by have := Tm.size_mem hx; omega) y
  obtain ⟨c3, g7, g8⟩ := listsF_ok (g := Frm.d) (k := 113) Frm.same Frm.shape fs fs' (by omega) fun x hx y => ih x hx (by have := Frm.size_mem hx; omega) y
  rw [mapT, mapT] at g5
  rw [mapF, mapF] at g7
  rw [← sames_zip] at g6
  rw [← Fsames_zip] at g8
  have g9 : Pure E 148 [.d .old (.row 1 [.int .i64 c0, .int .i64 c1, .int .i64 c2, .int .i64 c3])] (.d .top (.int .i64 (orI [c0, c1, c2, c3]))) := or_ok [c0, c1, c2, c3] (by simp)
  have hsame : (Frm.mk o n us fs).same (.mk o' n' us' fs') = (o == o' && (n == n' && (Tm.sames us us' && Frm.sames fs fs'))) := by rw [Frm.same]
  have hor := orI_zero [c0, c1, c2, c3]
  simp only [List.mem_cons, List.mem_singleton, forall_eq_or_imp, forall_eq, List.not_mem_nil, false_imp_iff, implies_true, and_true] at hor
  have hoo : opI o = opI o' ↔ o = o' := by
    simp only [opI]
    constructor
    · intro h; exact UInt8.toNat_inj.1 (by omega)
    · rintro rfl; rfl
  have main : Pure E 113 [.d .old (.agg [.int .u8 (opI o), .str n, .row 3 (Tm.ds us), .row 4 (Frm.ds fs)]), .d .old (.agg [.int .u8 (opI o'), .str n', .row 3 (Tm.ds us'), .row 4 (Frm.ds fs')])] (.d .top (.int .i64 (orI [c0, c1, c2, c3]))) := by
    generalize orI [c0, c1, c2, c3] = z at *
    clear ih g2 g4 g6 g8 hsame hor
    refine pure_by has113 ?_
    generalize hp : std = p
    (generalize cq0 : Frm.ds = cy0, cq1 : Tm.ds = cy1, cq2 : opI = cy2; cbv <;> subst cq0 cq1 cq2)
    refine drawA.mk _ ⟨_, _, _, rfl, g1, rfl, rfl⟩ ?_
    (generalize cq0 : Frm.ds = cy0, cq1 : Tm.ds = cy1, cq2 : opI = cy2; cbv <;> subst cq0 cq1 cq2)
    refine drawA.mk _ ⟨_, _, _, rfl, g3, rfl, rfl⟩ ?_
    (generalize cq0 : Frm.ds = cy0, cq1 : Tm.ds = cy1, cq2 : opI = cy2; cbv <;> subst cq0 cq1 cq2)
    refine drawA.mk _ ⟨_, _, _, rfl, g5, rfl, rfl⟩ ?_
    (generalize cq0 : Frm.ds = cy0, cq1 : Tm.ds = cy1, cq2 : opI = cy2; cbv <;> subst cq0 cq1 cq2)
    refine drawA.mk _ ⟨_, _, _, rfl, g7, rfl, rfl⟩ ?_
    (generalize cq0 : Frm.ds = cy0, cq1 : Tm.ds = cy1, cq2 : opI = cy2; cbv <;> subst cq0 cq1 cq2)
    refine drawA.mk _ ⟨_, _, _, rfl, g9, rfl, rfl⟩ ?_
    (generalize cq0 : Frm.ds = cy0, cq1 : Tm.ds = cy1, cq2 : opI = cy2; cbv <;> subst cq0 cq1 cq2)
  simp only [Frm.d]
  refine ⟨_, main, ?_⟩
  rw [hsame, hor]
  simp only [Bool.and_eq_true, beq_iff_eq, g2, g4, g6, g8, hoo]
theorem Same_ok (f g : Frm) (hs : f.size ≤ 1000000) : Pure E 69 [.d .old f.d, .d .old g.d] (.d .top (.bool (f.same g))) := by
  obtain ⟨c, h1, h2⟩ := compare_ok f hs g
  have hq : f.same g = decide (c = 0) := by rw [Bool.eq_iff_iff, decide_eq_true_eq, h2]
  rw [hq]
  clear h2 hq
  obtain ⟨o, n, us, fs⟩ := f
  obtain ⟨o', n', us', fs'⟩ := g
  simp only [Frm.d] at h1 ⊢
  refine pure_by has69 ?_
  generalize hp : std = p
  have e : p.eq c 0 = decide (c = 0) := by subst hp; simp only [std]; rw [Bool.eq_iff_iff]; simp
  (generalize cq0 : Frm.ds = cy0, cq1 : Tm.ds = cy1, cq2 : opI = cy2; cbv <;> subst cq0 cq1 cq2)
  refine callA.pure h1 rfl ?_
  (generalize cq0 : Frm.ds = cy0, cq1 : Tm.ds = cy1, cq2 : opI = cy2; cbv <;> subst cq0 cq1 cq2)
  rw [← e]
end Go.Ly.Tr
end
section
namespace Go.Ly.Tr
set_option maxRecDepth 10000
theorem res_fresh {S : St} {w : World} {v : Value} {sz : Nat} {es : List D} {ep : Ep} (h : Res E S w (.fresh sz es .top) v) : Res E S w (.fresh sz es ep) v := by
  rcases h with ⟨hp, hd⟩ | ⟨b, o, cap, vs, cs, T, _, _, _, _, _, he, _⟩
  · exact .inl ⟨hp, RdD_on (fun b hb => hb.elim) _ _ hd⟩
  · exact he.elim
theorem clone_ok (l : List Nm) (hl : l.length ≤ 1000000) : Pure E 111 [.d .old (.row 1 (Nms l))] (.fresh 1 (Nms l) .unk) := by
  refine pure_or (r1 := .fresh 1 (Nms l) .top) ?_ (fun S w v => res_fresh)
  refine fun_by has111 ?_
  generalize hp : std = p
  have e1 : p.dcat [] (Nms l) = Nms l := by subst hp; rfl
  have hroom : p.room [] (Nms l) := by subst hp; simp [std, Nms_len]; omega
  (generalize cq0 : Nms = cy0; cbv <;> subst cq0)
  intro b hb
  have en : p.not false = true := not_f hp
  have et : p.not true = false := not_t hp
  cases b with
  | true =>
    (generalize cq0 : Nms = cy0; cbv <;> subst cq0)
    exact .inl (by rw [hb rfl])
  | false =>
    (generalize cq0 : Nms = cy0; cbv <;> subst cq0)
    refine ⟨hroom, ?_⟩
    simp only [e1]
    (generalize cq0 : Nms = cy0; cbv <;> subst cq0)
    exact .inr trivial
mutual
def Frm.norm : Frm → List Nm → List Sb → Frm
  | .mk o n us fs, T, l =>
    if isQ o then .mk o (freshN T) [] (Frm.norms fs (T ++ [freshN T]) ((n, .mk true (freshN T) []) :: l))
    else .mk o n (Tm.subs l us) (Frm.norms fs T l)
def Frm.norms : List Frm → List Nm → List Sb → List Frm
  | [], _, _ => []
  | f :: fs, T, l => f.norm T l :: Frm.norms fs T l
end
theorem Frm.norms_eq (T : List Nm) (l : List Sb) : ∀ fs : List Frm, Frm.norms fs T l = fs.map fun f => f.norm T l
  | [] => by rw [Frm.norms]; rfl
  | f :: fs => by rw [Frm.norms, Frm.norms_eq T l fs, List.map_cons]
theorem normal_ok (f : Frm) : ∀ (T : List Nm) (l : List Sb), f.size ≤ 100000 → T.length + f.size ≤ 500000 → Sb.sz l + 2 * f.size ≤ 500000 →
    Pure E 68 [.d .old f.d, .d .old (.row 1 (Nms T)), .d .old (.row 4 (mapO Sb.d l))] (.d .new (f.norm T l).d) := by
  induction f using Frm.ind with
  | h o n us fs ih =>
  intro T l hs hT hl
  have hs' : Tm.size.sizes us + Frm.size.sizes fs + 1 ≤ 100000 := hs
  have hT' : T.length + (Tm.size.sizes us + Frm.size.sizes fs + 1) ≤ 500000 := hT
  have hl' : Sb.sz l + 2 * (Tm.size.sizes us + Frm.size.sizes fs + 1) ≤ 500000 := hl
  have hl1 := Tm.len_size us
  have hl2 := Frm.len_size fs
  have hll := Sb.sz_len l
  have hqq := quant_ok .old (.mk o n us fs) _ _ _ _ rfl
  have closed : ∀ (k : Nat), (k = 110 ∨ k = 112) → ∀ (T' : List Nm) (l' : List Sb) (x : Frm), Pure E 68 [.d .old x.d, .d .old (.row 1 (Nms T')), .d .old (.row 4 (mapO Sb.d l'))] (.d .new (x.norm T' l').d) →
      Pure E k [.d .old x.d, .fb [.d .old (.row 1 (Nms T'))] 0, .fb [.d .old (.row 4 (mapO Sb.d l'))] 0] (.d .new (x.norm T' l').d) := by
    intro k hk T' l' x h
    obtain ⟨R, hR⟩ : ∃ R, x.norm T' l' = R := ⟨_, rfl⟩
    rw [hR] at h ⊢
    obtain ⟨a, b, c, d⟩ := x
    obtain ⟨a', b', c', d'⟩ := R
    simp only [Frm.d] at h ⊢
    rcases hk with rfl | rfl
    · refine pure_by has110 ?_
      generalize hp : std = p
      (generalize cq0 : Frm.ds = cy0, cq1 : Nms = cy1, cq2 : Sb.d = cy2, cq3 : Tm.ds = cy3, cq4 : mapO = cy4, cq5 : opI = cy5; cbv <;> subst cq0 cq1 cq2 cq3 cq4 cq5)
      refine callA.pure h rfl ?_
      (generalize cq0 : Frm.ds = cy0, cq1 : Nms = cy1, cq2 : Sb.d = cy2, cq3 : Tm.ds = cy3, cq4 : mapO = cy4, cq5 : opI = cy5; cbv <;> subst cq0 cq1 cq2 cq3 cq4 cq5)
    · refine pure_by has112 ?_
      generalize hp : std = p
      (generalize cq0 : Frm.ds = cy0, cq1 : Nms = cy1, cq2 : Sb.d = cy2, cq3 : Tm.ds = cy3, cq4 : mapO = cy4, cq5 : opI = cy5; cbv <;> subst cq0 cq1 cq2 cq3 cq4 cq5)
      refine callA.pure h rfl ?_
      (generalize cq0 : Frm.ds = cy0, cq1 : Nms = cy1, cq2 : Sb.d = cy2, cq3 : Tm.ds = cy3, cq4 : mapO = cy4, cq5 : opI = cy5; cbv <;> subst cq0 cq1 cq2 cq3 cq4 cq5)
  have heach : ∀ (k : Nat), (k = 110 ∨ k = 112) → ∀ (T' : List Nm) (l' : List Sb), T'.length ≤ T.length + 1 → Sb.sz l' ≤ Sb.sz l + 2 →
      Pure E 104 [.d .old (.row 4 (Frm.ds fs)), .fn k [] [.fb [.d .old (.row 1 (Nms T'))] 0, .fb [.d .old (.row 4 (mapO Sb.d l'))] 0]] (.fresh 4 (Frm.ds (Frm.norms fs T' l')) .new) := by
    intro k hk T' l' hT2 hl2'
    have h2 := eachFC_ok (g := Frm.d) (h := fun t => (t.norm T' l').d) (k := k) (y := .row 1 (Nms T')) (z := .row 4 (mapO Sb.d l')) fs (by omega) fun x hx => ⟨x.shape, (x.norm T' l').shape, closed k hk T' l' x (ih x hx T' l' (by have := Frm.size_mem hx; omega) (by have := Frm.size_mem hx; omega) (by have := Frm.size_mem hx; omega))⟩
    rwa [mapF, show mapO (fun t => (t.norm T' l').d) fs = Frm.ds (Frm.norms fs T' l') by rw [Frm.norms_eq, Frm.ds_eq, List.map_map]; rfl] at h2
  clear closed ih
  cases hq : isQ o with
  | false =>
    have hn : (Frm.mk o n us fs).norm T l = .mk o n (Tm.subs l us) (Frm.norms fs T l) := by rw [Frm.norm, hq]; rfl
    rw [hn]
    rw [hq] at hqq
    have h1 := eachTB_ok (g := Tm.d) (h := fun t => (t.sub l).d) (k := 72) (y := .row 4 (mapO Sb.d l)) us (by omega) fun x hx => ⟨x.shape, (x.sub l).shape, lterm_ok l (by omega) (fun o ho => by have := Sb.sz_mem ho; omega) x (by have := Tm.size_mem hx; omega)⟩
    rw [mapT, show mapO (fun t => (t.sub l).d) us = Tm.ds (Tm.subs l us) by rw [Tm.subs_eq, Tm.ds_eq, List.map_map]; rfl] at h1
    have h2 := heach 110 (.inl rfl) T l (by omega) (by omega)
    simp only [Frm.d]
    clear heach hn
    generalize mapO Sb.d l = L at *
    generalize Tm.subs l us = us' at *
    generalize Frm.norms fs T l = fs' at *
    refine pure_by has68 ?_
    generalize hp : std = p
    (generalize cq0 : Frm.ds = cy0, cq1 : Nms = cy1, cq2 : Tm.ds = cy2, cq3 : opI = cy3; cbv <;> subst cq0 cq1 cq2 cq3)
    refine callA.pure hqq rfl ?_
    (generalize cq0 : Frm.ds = cy0, cq1 : Nms = cy1, cq2 : Tm.ds = cy2, cq3 : opI = cy3; cbv <;> subst cq0 cq1 cq2 cq3)
    simp only [not_f hp]
    (generalize cq0 : Frm.ds = cy0, cq1 : Nms = cy1, cq2 : Tm.ds = cy2, cq3 : opI = cy3; cbv <;> subst cq0 cq1 cq2 cq3)
    refine callA.pure h1 rfl ?_
    (generalize cq0 : Frm.ds = cy0, cq1 : Nms = cy1, cq2 : Tm.ds = cy2, cq3 : opI = cy3; cbv <;> subst cq0 cq1 cq2 cq3)
    refine callA.pure h2 rfl ?_
    (generalize cq0 : Frm.ds = cy0, cq1 : Nms = cy1, cq2 : Tm.ds = cy2, cq3 : opI = cy3; cbv <;> subst cq0 cq1 cq2 cq3)
  | true =>
    have hn : (Frm.mk o n us fs).norm T l = .mk o (freshN T) [] (Frm.norms fs (T ++ [freshN T]) ((n, .mk true (freshN T) []) :: l)) := by rw [Frm.norm, hq]; rfl
    rw [hn]
    rw [hq] at hqq
    have h1 := fresh_ok T (by omega)
    obtain ⟨N, hN⟩ : ∃ N, freshN T = N := ⟨_, rfl⟩
    rw [hN] at h1 ⊢
    have h2 := heach 112 (.inr rfl) (T ++ [N]) ((n, .mk true N []) :: l) (by simp) (by simp only [Sb.sz, Tm.size, Tm.size.sizes]; omega)
    have h3 := clone_ok T (by omega)
    clear heach hn
    obtain ⟨T2, hT2⟩ : ∃ T2, T ++ [N] = T2 := ⟨_, rfl⟩
    obtain ⟨l2, hl2⟩ : ∃ l2, (n, Tm.mk true N []) :: l = l2 := ⟨_, rfl⟩
    rw [hT2, hl2] at h2 ⊢
    generalize Frm.norms fs T2 l2 = fs' at *
    simp only [Frm.d]
    refine pure_by has68 ?_
    generalize hp : std = p
    have e1 : p.dcat [.agg [.str n, .bool true, .str N, .row 3 []]] (mapO Sb.d l) = mapO Sb.d l2 := by subst hp hl2; simp [std, mapO, Sb.d, Tm.ds]
    have e2 : p.dcat (Nms T) [.str N] = Nms T2 := by subst hp hT2; simp [std, Nms]
    have r1 : p.room [.agg [.str n, .bool true, .str N, .row 3 []]] (mapO Sb.d l) := by subst hp; simp [std, mapO_len]; omega
    have r2 : p.room (Nms T) [.str N] := by subst hp; simp [std, Nms_len]; omega
    (generalize cq0 : Frm.ds = cy0, cq1 : Nms = cy1, cq2 : Sb.d = cy2, cq3 : Tm.ds = cy3, cq4 : mapO = cy4, cq5 : opI = cy5; cbv <;> subst cq0 cq1 cq2 cq3 cq4 cq5)
    refine callA.pure hqq rfl ?_
    (generalize cq0 : Frm.ds = cy0, cq1 : Nms = cy1, cq2 : Sb.d = cy2, cq3 : Tm.ds = cy3, cq4 : mapO = cy4, cq5 : opI = cy5; cbv <;> subst cq0 cq1 cq2 cq3 cq4 cq5)
    simp only [not_t hp]
    (generalize cq0 : Frm.ds = cy0, cq1 : Nms = cy1, cq2 : Sb.d = cy2, cq3 : Tm.ds = cy3, cq4 : mapO = cy4, cq5 : opI = cy5; cbv <;> subst cq0 cq1 cq2 cq3 cq4 cq5)
    refine callA.pure h1 rfl ?_
    (generalize cq0 : Frm.ds = cy0, cq1 : Nms = cy1, cq2 : Sb.d = cy2, cq3 : Tm.ds = cy3, cq4 : mapO = cy4, cq5 : opI = cy5; cbv <;> subst cq0 cq1 cq2 cq3 cq4 cq5)
    simp only [e1]
    refine ⟨r1, ?_⟩
    (generalize cq0 : Frm.ds = cy0, cq1 : Nms = cy1, cq2 : Sb.d = cy2, cq3 : Tm.ds = cy3, cq4 : mapO = cy4, cq5 : opI = cy5; cbv <;> subst cq0 cq1 cq2 cq3 cq4 cq5)
    refine callA.pure h3 rfl ?_
    (generalize cq0 : Frm.ds = cy0, cq1 : Nms = cy1, cq2 : Sb.d = cy2, cq3 : Tm.ds = cy3, cq4 : mapO = cy4, cq5 : opI = cy5; cbv <;> subst cq0 cq1 cq2 cq3 cq4 cq5)
    simp only [e2]
    refine ⟨r2, ?_⟩
    (generalize cq0 : Frm.ds = cy0, cq1 : Nms = cy1, cq2 : Sb.d = cy2, cq3 : Tm.ds = cy3, cq4 : mapO = cy4, cq5 : opI = cy5; cbv <;> subst cq0 cq1 cq2 cq3 cq4 cq5)
    refine callA.pure h2 rfl ?_
    (generalize cq0 : Frm.ds = cy0, cq1 : Nms = cy1, cq2 : Sb.d = cy2, cq3 : Tm.ds = cy3, cq4 : mapO = cy4, cq5 : opI = cy5; cbv <;> subst cq0 cq1 cq2 cq3 cq4 cq5)
    all_goals ((repeat' apply And.intro) <;> first | rfl | trivial)
def normS (f : Frm) : Frm × Nat := if f.right then (f.norm (setN f.frees) [], 0) else (zeroF, 2)
theorem Normal_ok (f : Frm) (hf : f.size ≤ 100000) : Pure E 26 [.d .old f.d] (.tup [.d .new (normS f).1.d, .d .top (.int .i64 (natI (normS f).2))]) := by
  have h1 := right_ok f (by omega)
  have h2 := Free_ok f (by omega)
  have hfl := frees_len f
  have hsl : (setN f.frees).length ≤ f.frees.length := by
    have := nubs_len f.frees
    simp only [setN, sortN, List.length_mergeSort]
    exact this
  have h3 := normal_ok f (setN f.frees) [] hf (by omega) (by simp only [Sb.sz]; omega)
  rw [show mapO Sb.d [] = [] from rfl] at h3
  have hq : normS f = if f.right then (f.norm (setN f.frees) [], 0) else (zeroF, 2) := rfl
  obtain ⟨R, hR⟩ : ∃ R, normS f = R := ⟨_, rfl⟩
  rw [hR] at hq ⊢
  generalize setN f.frees = I at *
  obtain ⟨G, hG⟩ : ∃ G, f.norm I [] = G := ⟨_, rfl⟩
  rw [hG] at h3 hq
  obtain ⟨a0, b0, c0, d0⟩ := G
  generalize f.right = rt at *
  obtain ⟨o, n, us, fs⟩ := f
  simp only [Frm.d] at h1 h2 h3 ⊢
  refine pure_or (r1 := .tup [.d .top (R.1.d), .d .top (.int .i64 (natI R.2))]) ?_ (fun S w v => res_top)
  refine fun_by has26 ?_
  generalize hp : std = p
  have zero2 : R = (zeroF, 2) → AV.tup [AV.d Ep.top (D.agg [D.int IntKind.u8 0, D.str [], D.row 3 [], D.row 4 []]), AV.d Ep.top (D.int IntKind.i64 2)] = .tup [.d .top R.1.d, .d .top (.int .i64 (natI R.2))] := by rintro rfl; rfl
  (generalize cq0 : Frm.d = cy0, cq1 : Frm.ds = cy1, cq2 : Tm.ds = cy2, cq3 : natI = cy3, cq4 : opI = cy4; cbv <;> subst cq0 cq1 cq2 cq3 cq4)
  refine callA.pure h1 rfl ?_
  (generalize cq0 : Frm.d = cy0, cq1 : Frm.ds = cy1, cq2 : Tm.ds = cy2, cq3 : natI = cy3, cq4 : opI = cy4; cbv <;> subst cq0 cq1 cq2 cq3 cq4)
  cases rt with
  | false =>
    simp only [not_f hp]
    (generalize cq0 : Frm.d = cy0, cq1 : Frm.ds = cy1, cq2 : Tm.ds = cy2, cq3 : natI = cy3, cq4 : opI = cy4; cbv <;> subst cq0 cq1 cq2 cq3 cq4)
    exact .inl (zero2 (by rw [hq]; rfl))
  | true =>
    simp only [not_t hp]
    (generalize cq0 : Frm.d = cy0, cq1 : Frm.ds = cy1, cq2 : Tm.ds = cy2, cq3 : natI = cy3, cq4 : opI = cy4; cbv <;> subst cq0 cq1 cq2 cq3 cq4)
    refine drawA.mk _ ⟨_, _, _, rfl, h2, rfl, rfl⟩ ?_
    (generalize cq0 : Frm.d = cy0, cq1 : Frm.ds = cy1, cq2 : Nms = cy2, cq3 : Tm.ds = cy3, cq4 : natI = cy4, cq5 : opI = cy5; cbv <;> subst cq0 cq1 cq2 cq3 cq4 cq5)
    refine drawA.mk _ ⟨_, _, _, rfl, h3, rfl, rfl⟩ ?_
    (generalize cq0 : Frm.d = cy0, cq1 : Frm.ds = cy1, cq2 : Nms = cy2, cq3 : Tm.ds = cy3, cq4 : natI = cy4, cq5 : opI = cy5; cbv <;> subst cq0 cq1 cq2 cq3 cq4 cq5)
    refine .inr ?_
    rw [hq]
    rfl
def alphaB (f g : Frm) : Bool := (f.right && g.right) && (f.norm (setN f.frees) []).same (g.norm (setN g.frees) [])
theorem norm_size {M : Nat} (hM : 1 ≤ M) (f : Frm) : ∀ (T : List Nm) (l : List Sb), (∀ o ∈ l, o.2.size ≤ M) → (f.norm T l).size ≤ M * f.size := by
  induction f using Frm.ind with
  | h o n us fs ih =>
  intro T l hl
  have hs : ∀ (T : List Nm) (l : List Sb), (∀ o ∈ l, o.2.size ≤ M) → ∀ gs : List Frm, (∀ x ∈ gs, (x.norm T l).size ≤ M * x.size) → Frm.size.sizes (Frm.norms gs T l) ≤ M * Frm.size.sizes gs := by
    intro T l hl gs
    induction gs with
    | nil => intro _; rw [Frm.norms]; simp [Frm.size.sizes]
    | cons x ts iht =>
      intro h
      have h1 := h x (by simp)
      have h2 := iht fun y hy => h y (by simp [hy])
      rw [Frm.norms]
      simp only [Frm.size.sizes, Nat.mul_add]
      omega
  have h1 := Tm.subs_size hM hl us
  have hmul : Tm.size.sizes us ≤ M * Tm.size.sizes us := Nat.le_mul_of_pos_left _ hM
  rw [Frm.norm]
  split
  · have hl' : ∀ o' ∈ ((n, Tm.mk true (freshN T) []) :: l : List Sb), o'.2.size ≤ M := by
      intro o' ho'
      rw [List.mem_cons] at ho'
      rcases ho' with rfl | ho'
      · simpa [Tm.size, Tm.size.sizes] using hM
      · exact hl o' ho'
    have h2 := hs (T ++ [freshN T]) _ hl' fs fun x hx => ih x hx _ _ hl'
    simp only [Frm.size, Nat.mul_add, Nat.mul_one, Tm.size.sizes]
    omega
  · have h2 := hs T l hl fs fun x hx => ih x hx _ _ hl
    simp only [Frm.size, Nat.mul_add, Nat.mul_one]
    omega
theorem Alpha_ok (f g : Frm) (hf : f.size ≤ 100000) (hg : g.size ≤ 100000) : Pure E 27 [.d .old f.d, .d .old g.d] (.d .top (.bool (alphaB f g))) := by
  have h1 := Normal_ok f hf
  have h2 := Normal_ok g hg
  have hn1 := norm_size (M := 1) (Nat.le_refl _) f (setN f.frees) [] (by simp)
  have h3 := Same_ok (f.norm (setN f.frees) []) (g.norm (setN g.frees) []) (by omega)
  have hq : alphaB f g = ((f.right && g.right) && (f.norm (setN f.frees) []).same (g.norm (setN g.frees) [])) := rfl
  have e1 : (normS f).2 = if f.right then 0 else 2 := by unfold normS; split <;> rfl
  have e2 : (normS g).2 = if g.right then 0 else 2 := by unfold normS; split <;> rfl
  have f1 : f.right = true → (normS f).1 = f.norm (setN f.frees) [] := fun h => by unfold normS; rw [h]; rfl
  have f2 : g.right = true → (normS g).1 = g.norm (setN g.frees) [] := fun h => by unfold normS; rw [h]; rfl
  rw [e1] at h1
  rw [e2] at h2
  obtain ⟨q, hq0⟩ : ∃ q, alphaB f g = q := ⟨_, rfl⟩
  rw [hq0] at hq ⊢
  generalize f.norm (setN f.frees) [] = F at *
  generalize g.norm (setN g.frees) [] = G at *
  generalize (normS f).1 = F' at *
  generalize (normS g).1 = G' at *
  generalize f.right = r1 at *
  generalize g.right = r2 at *
  generalize F.same G = sm at *
  obtain ⟨a1, b1, c1, d1⟩ := f
  obtain ⟨a2, b2, c2, d2⟩ := g
  obtain ⟨a3, b3, c3, d3⟩ := F'
  obtain ⟨a4, b4, c4, d4⟩ := G'
  simp only [Frm.d] at h1 h2 ⊢
  refine pure_by has27 ?_
  generalize hp : std = p
  have k1 : p.eq (natI (if r1 then 0 else 2)) 0 = r1 := by subst hp; cases r1 <;> rfl
  have k2 : p.eq (natI (if r2 then 0 else 2)) 0 = r2 := by subst hp; cases r2 <;> rfl
  generalize natI (if r1 then 0 else 2) = n1 at *
  generalize natI (if r2 then 0 else 2) = n2 at *
  (generalize cq0 : Frm.ds = cy0, cq1 : Tm.ds = cy1, cq2 : opI = cy2; cbv <;> subst cq0 cq1 cq2)
  refine callA.pure h1 rfl ?_
  (generalize cq0 : Frm.ds = cy0, cq1 : Tm.ds = cy1, cq2 : opI = cy2; cbv <;> subst cq0 cq1 cq2)
  refine callA.pure h2 rfl ?_
  (generalize cq0 : Frm.ds = cy0, cq1 : Tm.ds = cy1, cq2 : opI = cy2; cbv <;> subst cq0 cq1 cq2)
  simp only [k1]
  cases r1 with
  | false =>
    (generalize cq0 : Frm.ds = cy0, cq1 : Tm.ds = cy1, cq2 : opI = cy2; cbv <;> subst cq0 cq1 cq2)
    rw [hq]
    rfl
  | true =>
    (generalize cq0 : Frm.ds = cy0, cq1 : Tm.ds = cy1, cq2 : opI = cy2; cbv <;> subst cq0 cq1 cq2)
    simp only [k2]
    cases r2 with
    | false =>
      (generalize cq0 : Frm.ds = cy0, cq1 : Tm.ds = cy1, cq2 : opI = cy2; cbv <;> subst cq0 cq1 cq2)
      rw [hq]
      rfl
    | true =>
      (generalize cq0 : Frm.ds = cy0, cq1 : Tm.ds = cy1, cq2 : opI = cy2; cbv <;> subst cq0 cq1 cq2)
      have hF := f1 rfl
      have hG := f2 rfl
      rw [← hF, ← hG] at h3
      simp only [Frm.d] at h3
      refine callA.pure h3 rfl ?_
      (generalize cq0 : Frm.ds = cy0, cq1 : Tm.ds = cy1, cq2 : opI = cy2; cbv <;> subst cq0 cq1 cq2)
      rw [hq]
      rfl
theorem Put_of (f : Frm) (x : Nm) (t : Tm) (h : Pure E 22 [.d .old f.d, .d .old (.row 4 (mapO Sb.d [(x, t)]))] (.tup [.d .new (putsS f [(x, t)]).1.d, .d .top (.int .i64 (natI (putsS f [(x, t)]).2))])) :
    Pure E 20 [.d .old f.d, .d .old (.str x), .d .old t.d] (.tup [.d .new (putsS f [(x, t)]).1.d, .d .top (.int .i64 (natI (putsS f [(x, t)]).2))]) := by
  obtain ⟨R, hR⟩ : ∃ R, putsS f [(x, t)] = R := ⟨_, rfl⟩
  rw [hR] at h ⊢
  obtain ⟨⟨a0, b0, c0, d0⟩, e⟩ := R
  obtain ⟨a1, b1, c1, d1⟩ := f
  obtain ⟨v, n, us⟩ := t
  rw [show mapO Sb.d [(x, Tm.mk v n us)] = [.agg [.str x, .bool v, .str n, .row 3 (Tm.ds us)]] from rfl] at h
  simp only [Frm.d, Tm.d] at h ⊢
  refine pure_by has20 ?_
  generalize hp : std = p
  (generalize cq0 : Frm.ds = cy0, cq1 : Tm.ds = cy1, cq2 : natI = cy2, cq3 : opI = cy3; cbv <;> subst cq0 cq1 cq2 cq3)
  refine callA.pure h rfl ?_
  (generalize cq0 : Frm.ds = cy0, cq1 : Tm.ds = cy1, cq2 : natI = cy2, cq3 : opI = cy3; cbv <;> subst cq0 cq1 cq2 cq3)
theorem Put_ok (f : Frm) (x : Nm) (t : Tm) (hf : f.size ≤ 100000) (ht : t.size ≤ 1000) :
    Pure E 20 [.d .old f.d, .d .old (.str x), .d .old t.d] (.tup [.d .new (putsS f [(x, t)]).1.d, .d .top (.int .i64 (natI (putsS f [(x, t)]).2))]) :=
  Put_of f x t (puts_ok f [(x, t)] hf (by simpa using ht) (by simp))
end Go.Ly.Tr
end
section
namespace Go.Ly.Tr
set_option maxRecDepth 10000
mutual
def Tm.szt : Tm → Nat → Nat
  | .mk _ n us, k => (1 + n.length / 40) + Tm.szl us k 0
def Tm.szl : List Tm → Nat → Nat → Nat
  | [], _, n => n
  | t :: r, k, n => if n ≤ k then Tm.szl r k (n + t.szt (k - n)) else n
end
mutual
def Tm.wt : Tm → Nat
  | .mk _ n us => (1 + n.length / 40) + Tm.wts us
def Tm.wts : List Tm → Nat
  | [] => 0
  | t :: r => t.wt + Tm.wts r
end
mutual
theorem szt_le : ∀ (t : Tm) (k : Nat), t.szt k ≤ t.wt
  | .mk _ n us, k => by
    have := szl_le us k 0
    rw [Tm.szt, Tm.wt]
    omega
theorem szl_le : ∀ (l : List Tm) (k n : Nat), Tm.szl l k n ≤ n + Tm.wts l
  | [], k, n => by rw [Tm.szl]; omega
  | t :: r, k, n => by
    have h1 := szt_le t (k - n)
    have h2 := szl_le r k (n + t.szt (k - n))
    rw [Tm.szl, Tm.wts]
    split <;> omega
end
mutual
theorem szt_eq : ∀ (t : Tm) (k : Nat), t.szt k ≤ k → t.szt k = t.wt
  | .mk _ n us, k, h => by
    rw [Tm.szt] at h ⊢
    rw [Tm.wt, szl_eq us k 0 (by omega)]
    omega
theorem szl_eq : ∀ (l : List Tm) (k n : Nat), Tm.szl l k n ≤ k → Tm.szl l k n = n + Tm.wts l
  | [], k, n, h => by rw [Tm.szl, Tm.wts]; rfl
  | t :: r, k, n, h => by
    rw [Tm.szl] at h ⊢
    rw [Tm.wts]
    split
    · rename_i hn
      rw [if_pos hn] at h
      have h2 := szl_eq r k _ h
      have h1 := szt_eq t (k - n) (by omega)
      omega
    · rename_i hn
      rw [if_neg hn] at h
      omega
end
theorem Tm.wts_mem : ∀ {l : List Tm} {t : Tm}, t ∈ l → t.wt ≤ Tm.wts l
  | a :: l, t, h => by
    simp only [List.mem_cons] at h
    rw [Tm.wts]
    rcases h with rfl | h
    · omega
    · have := Tm.wts_mem h; omega
theorem Tm.wts_app : ∀ a b : List Tm, Tm.wts (a ++ b) = Tm.wts a + Tm.wts b
  | [], b => by rw [List.nil_append, Tm.wts]; omega
  | t :: a, b => by rw [List.cons_append, Tm.wts, Tm.wts, Tm.wts_app a b]; omega
theorem Tm.len_wts : ∀ l : List Tm, l.length ≤ Tm.wts l
  | [] => Nat.zero_le _
  | .mk _ n us :: l => by
    have := Tm.len_wts l
    rw [List.length_cons, Tm.wts, Tm.wt]
    omega
theorem size_ok (l : List Tm) : Tm.wts l ≤ 2000000 → ∀ k, k ≤ 10000 → Pure E 82 [.d .old (.row 3 (Tm.ds l)), .d .old (.int .i64 (natI k))] (.d .top (.int .i64 (natI (Tm.szl l k 0)))) := by
  obtain ⟨N, hN⟩ : ∃ N, Tm.wts l < N := ⟨_, Nat.lt_succ_self _⟩
  induction N generalizing l with
  | zero => omega
  | succ N ih =>
  intro hw k hk
  have hlen := Tm.len_wts l
  refine pure_by has82 ?_
  generalize hp : std = p
  (generalize cq0 : Tm.ds = cy0, cq1 : Tm.szl = cy1, cq2 : natI = cy2; cbv <;> subst cq0 cq1 cq2)
  subst hp
  refine loopA_inv (ι := List Tm × List Tm × Nat) (fun j => l = j.1 ++ j.2.1 ∧ Tm.szl l k 0 = Tm.szl j.2.1 k j.2.2 ∧ j.2.2 ≤ Tm.wts j.1) (fun j => j.2.1.length)
    (fun j => mkF 39 [(0, .d .old (.row 3 (Tm.ds l))), (1, .d .old (.int .i64 (natI k))), (4, .d .top (.int .i64 0)), (5, .d .top (.int .i64 (natI j.2.2))), (6, .d .top (.int .i64 (std.dlen (Tm.ds j.1))))])
    (fun j => []) (fun j => ()) ([], l, 0) ⟨rfl, rfl, Nat.zero_le _⟩ ?_ rfl (fun _ => rfl) ?_
  · generalize hp : std = p
    (generalize cq0 : Tm.ds = cy0, cq1 : natI = cy1; cbv <;> subst cq0 cq1)
    subst hp
    simp [std, Tm.ds, natI]
  · rintro ⟨d, r, n⟩ ⟨hes, hsz, hn⟩
    simp only at hes hsz hn ⊢
    rw [hsz]
    cases r with
    | nil =>
      rw [List.append_nil] at hes
      subst hes
      rw [Tm.szl]
      generalize hp : std = p
      (generalize cq0 : Tm.ds = cy0, cq1 : Tm.szl = cy1, cq2 : natI = cy2; cbv <;> subst cq0 cq1 cq2)
      simp only [end_ltT hp]
      (generalize cq0 : Tm.ds = cy0, cq1 : Tm.szl = cy1, cq2 : natI = cy2; cbv <;> subst cq0 cq1 cq2)
    | cons e r =>
      have hm : e ∈ l := by rw [hes]; simp
      have hwe := Tm.wts_mem hm
      have hwl : Tm.wts l = Tm.wts d + (e.wt + Tm.wts r) := by rw [hes, Tm.wts_app, Tm.wts]
      have hwd : Tm.wts (d ++ [e]) = Tm.wts d + e.wt := by rw [Tm.wts_app, Tm.wts, Tm.wts]; rfl
      have hdl : d.length + (r.length + 1) = l.length := by rw [hes]; simp
      rw [Tm.szl]
      generalize hp : std = p
      have e1 : p.le (natI n) (natI k) = decide (n ≤ k) := by subst hp; simp [std, natI]
      by_cases hnk : n ≤ k
      · rw [if_pos hnk]
        have hd1 : decide (n ≤ k) = true := by simpa using hnk
        obtain ⟨v, nm, us⟩ := e
        have hwt : (Tm.mk v nm us).wt = (1 + nm.length / 40) + Tm.wts us := by rw [Tm.wt]
        rw [hwt] at hwe hwl hwd
        have hih := ih us (by omega) (by omega) (k - n) (by omega)
        have hst : (Tm.mk v nm us).szt (k - n) = (1 + nm.length / 40) + Tm.szl us (k - n) 0 := by rw [Tm.szt]
        have hle := szl_le us (k - n) 0
        rw [hst]
        obtain ⟨m, hm'⟩ : ∃ m, k - n = m := ⟨_, rfl⟩
        rw [hm'] at hih hle ⊢
        generalize Tm.szl us m 0 = z at *
        obtain ⟨q2, hq2⟩ : ∃ q2, nm.length / 40 = q2 := ⟨_, rfl⟩
        rw [hq2] at hwe hwl hwd ⊢
        obtain ⟨q, hq⟩ : ∃ q, 1 + q2 = q := ⟨_, rfl⟩
        rw [hq] at hwe hwl hwd ⊢
        obtain ⟨s, hs⟩ : ∃ s, q + z = s := ⟨_, rfl⟩
        rw [hs]
        obtain ⟨n', hn'⟩ : ∃ n', n + s = n' := ⟨_, rfl⟩
        rw [hn']
        have e2 : p.sub (natI k) (natI n) = natI m := by subst hp hm'; simp [std, natI]; omega
        have e3 : p.quo (p.slen nm) 40 = natI q2 := by subst hp hq2; simp [std, natI]
        have e4 : p.add 1 (natI q2) = natI q := by subst hp hq; simp [std, natI]
        have e5 : p.add (natI q) (natI z) = natI s := by subst hp hs; simp [std, natI]
        have e6 : p.add (natI n) (natI s) = natI n' := by subst hp hn'; simp [std, natI]
        have hdv : p.div (p.slen nm) 40 := by subst hp; simp [std]; omega
        clear hst
        (generalize cq0 : Tm.ds = cy0, cq1 : Tm.szl = cy1, cq2 : natI = cy2; cbv <;> subst cq0 cq1 cq2)
        simp only [at_ltT hp hes]
        (generalize cq0 : Tm.ds = cy0, cq1 : Tm.szl = cy1, cq2 : natI = cy2; cbv <;> subst cq0 cq1 cq2)
        simp only [e1, hd1]
        (generalize cq0 : Tm.ds = cy0, cq1 : Tm.szl = cy1, cq2 : natI = cy2; cbv <;> subst cq0 cq1 cq2)
        refine ⟨_, at_getT hp hes, ?_⟩
        (generalize cq0 : Tm.ds = cy0, cq1 : Tm.szl = cy1, cq2 : natI = cy2; cbv <;> subst cq0 cq1 cq2)
        refine ⟨hdv, ?_⟩
        simp only [e3, e4]
        refine ⟨nat_ok hp (by omega), _, at_getT hp hes, ?_⟩
        (generalize cq0 : Tm.ds = cy0, cq1 : Tm.szl = cy1, cq2 : natI = cy2; cbv <;> subst cq0 cq1 cq2)
        simp only [e2]
        refine ⟨nat_ok hp (by omega), ?_⟩
        (generalize cq0 : Tm.ds = cy0, cq1 : Tm.szl = cy1, cq2 : natI = cy2; cbv <;> subst cq0 cq1 cq2)
        refine drawA.mk _ ⟨_, _, _, rfl, hih, rfl, rfl⟩ ?_
        (generalize cq0 : Tm.ds = cy0, cq1 : Tm.szl = cy1, cq2 : natI = cy2; cbv <;> subst cq0 cq1 cq2)
        simp only [e5]
        refine ⟨nat_ok hp (by omega), ?_⟩
        simp only [e6]
        refine ⟨nat_ok hp (by omega), ?_⟩
        (generalize cq0 : Tm.ds = cy0, cq1 : Tm.szl = cy1, cq2 : natI = cy2; cbv <;> subst cq0 cq1 cq2)
        refine ⟨by subst hp; simp [std, Tm.ds_len]; omega, (d ++ [.mk v nm us], r, n'), ⟨by rw [hes]; simp, rfl, by simp only; omega⟩, by simp, ?_, rfl⟩
        generalize hd' : d ++ [Tm.mk v nm us] = d'
        (generalize cq0 : Tm.ds = cy0, cq1 : natI = cy1; cbv <;> subst cq0 cq1)
        subst hp hd'
        simp [std, Tm.ds_len]
      · rw [if_neg hnk]
        have hd1 : decide (n ≤ k) = false := by simpa using hnk
        (generalize cq0 : Tm.ds = cy0, cq1 : Tm.szl = cy1, cq2 : natI = cy2; cbv <;> subst cq0 cq1 cq2)
        simp only [at_ltT hp hes]
        (generalize cq0 : Tm.ds = cy0, cq1 : Tm.szl = cy1, cq2 : natI = cy2; cbv <;> subst cq0 cq1 cq2)
        simp only [e1, hd1]
        (generalize cq0 : Tm.ds = cy0, cq1 : Tm.szl = cy1, cq2 : natI = cy2; cbv <;> subst cq0 cq1 cq2)
end Go.Ly.Tr
end
section
namespace Go.Ly.Tr
set_option maxRecDepth 10000
mutual
def Frm.szf : Frm → Nat → Nat
  | .mk _ n us fs, k => Frm.szs fs k ((1 + n.length / 40) + Tm.szl us k 0)
def Frm.szs : List Frm → Nat → Nat → Nat
  | [], _, n => n
  | t :: r, k, n => if n ≤ k then Frm.szs r k (n + t.szf (k - n)) else n
end
mutual
def Frm.wt : Frm → Nat
  | .mk _ n us fs => (1 + n.length / 40) + Tm.wts us + Frm.wts fs
def Frm.wts : List Frm → Nat
  | [] => 0
  | t :: r => t.wt + Frm.wts r
end
mutual
theorem szf_le : ∀ (t : Frm) (k : Nat), t.szf k ≤ t.wt
  | .mk _ n us fs, k => by
    have h1 := szl_le us k 0
    have h2 := szs_le fs k ((1 + n.length / 40) + Tm.szl us k 0)
    rw [Frm.szf, Frm.wt]
    omega
theorem szs_le : ∀ (l : List Frm) (k n : Nat), Frm.szs l k n ≤ n + Frm.wts l
  | [], k, n => by rw [Frm.szs]; omega
  | t :: r, k, n => by
    have h1 := szf_le t (k - n)
    have h2 := szs_le r k (n + t.szf (k - n))
    rw [Frm.szs, Frm.wts]
    split <;> omega
end
mutual
theorem szf_eq : ∀ (t : Frm) (k : Nat), t.szf k ≤ k → t.szf k = t.wt
  | .mk _ n us fs, k, h => by
    rw [Frm.szf] at h ⊢
    have h1 := szs_eq fs k _ h
    have h2 := szl_eq us k 0 (by omega)
    rw [Frm.wt, h1, h2]
    omega
theorem szs_eq : ∀ (l : List Frm) (k n : Nat), Frm.szs l k n ≤ k → Frm.szs l k n = n + Frm.wts l
  | [], k, n, h => by rw [Frm.szs, Frm.wts]; rfl
  | t :: r, k, n, h => by
    rw [Frm.szs] at h ⊢
    rw [Frm.wts]
    split
    · rename_i hn
      rw [if_pos hn] at h
      have h2 := szs_eq r k _ h
      have h1 := szf_eq t (k - n) (by omega)
      omega
    · rename_i hn
      rw [if_neg hn] at h
      omega
end
theorem Frm.wts_mem : ∀ {l : List Frm} {t : Frm}, t ∈ l → t.wt ≤ Frm.wts l
  | a :: l, t, h => by
    simp only [List.mem_cons] at h
    rw [Frm.wts]
    rcases h with rfl | h
    · omega
    · have := Frm.wts_mem h; omega
theorem Frm.wts_app : ∀ a b : List Frm, Frm.wts (a ++ b) = Frm.wts a + Frm.wts b
  | [], b => by rw [List.nil_append, Frm.wts]; omega
  | t :: a, b => by rw [List.cons_append, Frm.wts, Frm.wts, Frm.wts_app a b]; omega
theorem Frm.len_wts : ∀ l : List Frm, l.length ≤ Frm.wts l
  | [] => Nat.zero_le _
  | .mk _ n us fs :: l => by
    have := Frm.len_wts l
    rw [List.length_cons, Frm.wts, Frm.wt]
    omega
theorem Size_ok (f : Frm) : f.wt ≤ 2000000 → ∀ k, k ≤ 10000 → Pure E 47 [.d .old f.d, .d .old (.int .i64 (natI k))] (.d .top (.int .i64 (natI (f.szf k)))) := by
  induction f using Frm.ind with
  | h o nm us fs ih =>
  intro hw k hk
  have hlen := Frm.len_wts fs
  have hwt : (Frm.mk o nm us fs).wt = (1 + nm.length / 40) + Tm.wts us + Frm.wts fs := by rw [Frm.wt]
  rw [hwt] at hw
  have h1 := size_ok us (by omega) k hk
  have hle := szl_le us k 0
  have hsz : (Frm.mk o nm us fs).szf k = Frm.szs fs k ((1 + nm.length / 40) + Tm.szl us k 0) := by rw [Frm.szf]
  rw [hsz]
  simp only [Frm.d]
  generalize Tm.szl us k 0 = z at *
  obtain ⟨q2, hq2⟩ : ∃ q2, nm.length / 40 = q2 := ⟨_, rfl⟩
  rw [hq2] at hw ⊢
  obtain ⟨q, hq⟩ : ∃ q, 1 + q2 = q := ⟨_, rfl⟩
  rw [hq] at hw ⊢
  obtain ⟨n0, hn0⟩ : ∃ n0, q + z = n0 := ⟨_, rfl⟩
  rw [hn0]
  clear hsz hwt
  refine pure_by has47 ?_
  generalize hp : std = p
  have e3 : p.quo (p.slen nm) 40 = natI q2 := by subst hp hq2; simp [std, natI]
  have e4 : p.add 1 (natI q2) = natI q := by subst hp hq; simp [std, natI]
  have e5 : p.add (natI q) (natI z) = natI n0 := by subst hp hn0; simp [std, natI]
  have hdv : p.div (p.slen nm) 40 := by subst hp; simp [std]; omega
  (generalize cq0 : Frm.ds = cy0, cq1 : Frm.szs = cy1, cq2 : Tm.ds = cy2, cq3 : natI = cy3, cq4 : opI = cy4; cbv <;> subst cq0 cq1 cq2 cq3 cq4)
  refine ⟨hdv, ?_⟩
  simp only [e3, e4]
  refine ⟨nat_ok hp (by omega), ?_⟩
  (generalize cq0 : Frm.ds = cy0, cq1 : Frm.szs = cy1, cq2 : Tm.ds = cy2, cq3 : natI = cy3, cq4 : opI = cy4; cbv <;> subst cq0 cq1 cq2 cq3 cq4)
  refine drawA.mk _ ⟨_, _, _, rfl, h1, rfl, rfl⟩ ?_
  (generalize cq0 : Frm.ds = cy0, cq1 : Frm.szs = cy1, cq2 : Tm.ds = cy2, cq3 : natI = cy3, cq4 : opI = cy4; cbv <;> subst cq0 cq1 cq2 cq3 cq4)
  simp only [e5]
  refine ⟨nat_ok hp (by omega), ?_⟩
  (generalize cq0 : Frm.ds = cy0, cq1 : Frm.szs = cy1, cq2 : Tm.ds = cy2, cq3 : natI = cy3, cq4 : opI = cy4; cbv <;> subst cq0 cq1 cq2 cq3 cq4)
  clear e3 e4 e5 hdv
  subst hp
  refine loopA_inv (ι := List Frm × List Frm × Nat) (fun j => fs = j.1 ++ j.2.1 ∧ Frm.szs fs k n0 = Frm.szs j.2.1 k j.2.2 ∧ j.2.2 ≤ n0 + Frm.wts j.1) (fun j => j.2.1.length)
    (fun j => mkF 41 [(1, .d .old (.int .i64 (natI k))), (2, .ptr 0 0), (4, .d .top (.int .i64 0)), (5, .d .top (.int .i64 (natI j.2.2))), (6, .d .top (.int .i64 (std.dlen (Frm.ds j.1))))])
    (fun j => [.bx [.d .old (.int .u8 (opI o)), .d .old (.str nm), .d .old (.row 3 (Tm.ds us)), .d .old (.row 4 (Frm.ds fs))]]) (fun j => ()) ([], fs, n0) ⟨rfl, rfl, Nat.le_add_right _ _⟩ ?_ rfl (fun _ => rfl) ?_
  · generalize hp : std = p
    (generalize cq0 : Frm.ds = cy0, cq1 : Tm.ds = cy1, cq2 : natI = cy2, cq3 : opI = cy3; cbv <;> subst cq0 cq1 cq2 cq3)
    subst hp
    simp [std, Frm.ds]
  · rintro ⟨d, r, n⟩ ⟨hes, hsz, hn⟩
    simp only at hes hsz hn ⊢
    rw [hsz]
    cases r with
    | nil =>
      rw [List.append_nil] at hes
      subst hes
      rw [Frm.szs]
      generalize hp : std = p
      (generalize cq0 : Frm.ds = cy0, cq1 : Frm.szs = cy1, cq2 : Tm.ds = cy2, cq3 : natI = cy3, cq4 : opI = cy4; cbv <;> subst cq0 cq1 cq2 cq3 cq4)
      simp only [end_ltF hp]
      (generalize cq0 : Frm.ds = cy0, cq1 : Frm.szs = cy1, cq2 : Tm.ds = cy2, cq3 : natI = cy3, cq4 : opI = cy4; cbv <;> subst cq0 cq1 cq2 cq3 cq4)
    | cons e r =>
      have hm : e ∈ fs := by rw [hes]; simp
      have hwe := Frm.wts_mem hm
      have hwl : Frm.wts fs = Frm.wts d + (e.wt + Frm.wts r) := by rw [hes, Frm.wts_app, Frm.wts]
      have hwd : Frm.wts (d ++ [e]) = Frm.wts d + e.wt := by rw [Frm.wts_app, Frm.wts, Frm.wts]; rfl
      have hdl : d.length + (r.length + 1) = fs.length := by rw [hes]; simp
      rw [Frm.szs]
      generalize hp : std = p
      have e1 : p.le (natI n) (natI k) = decide (n ≤ k) := by subst hp; simp [std, natI]
      by_cases hnk : n ≤ k
      · rw [if_pos hnk]
        have hd1 : decide (n ≤ k) = true := by simpa using hnk
        obtain ⟨m, hm'⟩ : ∃ m, k - n = m := ⟨_, rfl⟩
        have hih := ih e hm (by omega) m (by omega)
        have hle2 := szf_le e m
        rw [hm']
        obtain ⟨n', hn'⟩ : ∃ n', n + e.szf m = n' := ⟨_, rfl⟩
        rw [hn']
        have e2 : p.sub (natI k) (natI n) = natI m := by subst hp hm'; simp [std, natI]; omega
        have e6 : p.add (natI n) (natI (e.szf m)) = natI n' := by subst hp hn'; simp [std, natI]
        generalize e.szf m = y at *
        generalize e.wt = we at *
        obtain ⟨o2, nm2, us2, fs2⟩ := e
        simp only [Frm.d] at hih
        (generalize cq0 : Frm.ds = cy0, cq1 : Frm.szs = cy1, cq2 : Tm.ds = cy2, cq3 : natI = cy3, cq4 : opI = cy4; cbv <;> subst cq0 cq1 cq2 cq3 cq4)
        simp only [at_ltF hp hes]
        (generalize cq0 : Frm.ds = cy0, cq1 : Frm.szs = cy1, cq2 : Tm.ds = cy2, cq3 : natI = cy3, cq4 : opI = cy4; cbv <;> subst cq0 cq1 cq2 cq3 cq4)
        simp only [e1, hd1]
        (generalize cq0 : Frm.ds = cy0, cq1 : Frm.szs = cy1, cq2 : Tm.ds = cy2, cq3 : natI = cy3, cq4 : opI = cy4; cbv <;> subst cq0 cq1 cq2 cq3 cq4)
        refine ⟨_, at_getF hp hes, ?_⟩
        (generalize cq0 : Frm.ds = cy0, cq1 : Frm.szs = cy1, cq2 : Tm.ds = cy2, cq3 : natI = cy3, cq4 : opI = cy4; cbv <;> subst cq0 cq1 cq2 cq3 cq4)
        simp only [e2]
        refine ⟨nat_ok hp (by omega), ?_⟩
        (generalize cq0 : Frm.ds = cy0, cq1 : Frm.szs = cy1, cq2 : Tm.ds = cy2, cq3 : natI = cy3, cq4 : opI = cy4; cbv <;> subst cq0 cq1 cq2 cq3 cq4)
        refine callA.pure hih rfl ?_
        (generalize cq0 : Frm.ds = cy0, cq1 : Frm.szs = cy1, cq2 : Tm.ds = cy2, cq3 : natI = cy3, cq4 : opI = cy4; cbv <;> subst cq0 cq1 cq2 cq3 cq4)
        simp only [e6]
        refine ⟨nat_ok hp (by omega), ?_⟩
        (generalize cq0 : Frm.ds = cy0, cq1 : Frm.szs = cy1, cq2 : Tm.ds = cy2, cq3 : natI = cy3, cq4 : opI = cy4; cbv <;> subst cq0 cq1 cq2 cq3 cq4)
        refine ⟨by subst hp; simp [std, Frm.ds_len]; omega, (d ++ [.mk o2 nm2 us2 fs2], r, n'), ⟨by rw [hes]; simp, rfl, by simp only; omega⟩, by simp, ?_, rfl⟩
        generalize hd' : d ++ [Frm.mk o2 nm2 us2 fs2] = d'
        (generalize cq0 : Frm.ds = cy0, cq1 : Tm.ds = cy1, cq2 : natI = cy2, cq3 : opI = cy3; cbv <;> subst cq0 cq1 cq2 cq3)
        subst hp hd'
        simp [std, Frm.ds_len]
      · rw [if_neg hnk]
        have hd1 : decide (n ≤ k) = false := by simpa using hnk
        (generalize cq0 : Frm.ds = cy0, cq1 : Frm.szs = cy1, cq2 : Tm.ds = cy2, cq3 : natI = cy3, cq4 : opI = cy4; cbv <;> subst cq0 cq1 cq2 cq3 cq4)
        simp only [at_ltF hp hes]
        (generalize cq0 : Frm.ds = cy0, cq1 : Frm.szs = cy1, cq2 : Tm.ds = cy2, cq3 : natI = cy3, cq4 : opI = cy4; cbv <;> subst cq0 cq1 cq2 cq3 cq4)
        simp only [e1, hd1]
        (generalize cq0 : Frm.ds = cy0, cq1 : Frm.szs = cy1, cq2 : Tm.ds = cy2, cq3 : natI = cy3, cq4 : opI = cy4; cbv <;> subst cq0 cq1 cq2 cq3 cq4)
def smallB (l : List Frm) : Bool := decide (Frm.szs l 500 0 ≤ 500)
theorem Small_ok (l : List Frm) (hw : Frm.wts l ≤ 2000000) : Pure E 13 [.d .old (.row 4 (Frm.ds l))] (.d .top (.bool (smallB l))) := by
  have hlen := Frm.len_wts l
  have hq : smallB l = decide (Frm.szs l 500 0 ≤ 500) := rfl
  rw [hq]
  refine pure_by has13 ?_
  generalize hp : std = p
  (generalize cq0 : Frm.ds = cy0, cq1 : Frm.szs = cy1; cbv <;> subst cq0 cq1)
  subst hp
  refine loopA_inv (ι := List Frm × List Frm × Nat) (fun j => l = j.1 ++ j.2.1 ∧ Frm.szs l 500 0 = Frm.szs j.2.1 500 j.2.2 ∧ j.2.2 ≤ Frm.wts j.1) (fun j => j.2.1.length)
    (fun j => mkF 26 [(0, .d .old (.row 4 (Frm.ds l))), (2, .d .top (.bool false)), (3, .d .top (.int .i64 (natI j.2.2))), (4, .d .top (.int .i64 (std.dlen (Frm.ds j.1))))])
    (fun j => []) (fun j => ()) ([], l, 0) ⟨rfl, rfl, Nat.zero_le _⟩ ?_ rfl (fun _ => rfl) ?_
  · generalize hp : std = p
    (generalize cq0 : Frm.ds = cy0, cq1 : natI = cy1; cbv <;> subst cq0 cq1)
    subst hp
    simp [std, Frm.ds, natI]
  · rintro ⟨d, r, n⟩ ⟨hes, hsz, hn⟩
    simp only at hes hsz hn ⊢
    rw [hsz]
    have hwl0 : Frm.wts l = Frm.wts d + Frm.wts r := by rw [hes, Frm.wts_app]
    cases r with
    | nil =>
      rw [List.append_nil] at hes
      subst hes
      rw [Frm.szs]
      generalize hp : std = p
      have e9 : p.le (natI n) 500 = decide (n ≤ 500) := by subst hp; simp [std, natI]; omega
      generalize decide (n ≤ 500) = b9 at *
      (generalize cq0 : Frm.ds = cy0, cq1 : Frm.szs = cy1, cq2 : natI = cy2; cbv <;> subst cq0 cq1 cq2)
      simp only [end_ltF hp]
      (generalize cq0 : Frm.ds = cy0, cq1 : Frm.szs = cy1, cq2 : natI = cy2; cbv <;> subst cq0 cq1 cq2)
      simp only [e9]
    | cons e r =>
      have hm : e ∈ l := by rw [hes]; simp
      have hwe := Frm.wts_mem hm
      have hwl : Frm.wts l = Frm.wts d + (e.wt + Frm.wts r) := by rw [hes, Frm.wts_app, Frm.wts]
      have hwd : Frm.wts (d ++ [e]) = Frm.wts d + e.wt := by rw [Frm.wts_app, Frm.wts, Frm.wts]; rfl
      have hdl : d.length + (r.length + 1) = l.length := by rw [hes]; simp
      rw [Frm.szs]
      generalize hp : std = p
      have e1 : p.le (natI n) 500 = decide (n ≤ 500) := by subst hp; simp [std, natI]; omega
      by_cases hnk : n ≤ 500
      · rw [if_pos hnk]
        have hd1 : decide (n ≤ 500) = true := by simpa using hnk
        obtain ⟨m, hm'⟩ : ∃ m, 500 - n = m := ⟨_, rfl⟩
        have hih := Size_ok e (by omega) m (by omega)
        have hle2 := szf_le e m
        rw [hm']
        obtain ⟨n', hn'⟩ : ∃ n', n + e.szf m = n' := ⟨_, rfl⟩
        rw [hn']
        have e2 : p.sub 500 (natI n) = natI m := by subst hp hm'; simp [std, natI]; omega
        have e6 : p.add (natI n) (natI (e.szf m)) = natI n' := by subst hp hn'; simp [std, natI]
        generalize e.szf m = y at *
        generalize e.wt = we at *
        obtain ⟨o2, nm2, us2, fs2⟩ := e
        simp only [Frm.d] at hih
        (generalize cq0 : Frm.ds = cy0, cq1 : Frm.szs = cy1, cq2 : natI = cy2; cbv <;> subst cq0 cq1 cq2)
        simp only [at_ltF hp hes]
        (generalize cq0 : Frm.ds = cy0, cq1 : Frm.szs = cy1, cq2 : natI = cy2; cbv <;> subst cq0 cq1 cq2)
        simp only [e1, hd1]
        (generalize cq0 : Frm.ds = cy0, cq1 : Frm.szs = cy1, cq2 : natI = cy2; cbv <;> subst cq0 cq1 cq2)
        refine ⟨_, at_getF hp hes, ?_⟩
        (generalize cq0 : Frm.ds = cy0, cq1 : Frm.szs = cy1, cq2 : Tm.ds = cy2, cq3 : natI = cy3, cq4 : opI = cy4; cbv <;> subst cq0 cq1 cq2 cq3 cq4)
        simp only [e2]
        refine ⟨nat_ok hp (by omega), ?_⟩
        (generalize cq0 : Frm.ds = cy0, cq1 : Frm.szs = cy1, cq2 : Tm.ds = cy2, cq3 : natI = cy3, cq4 : opI = cy4; cbv <;> subst cq0 cq1 cq2 cq3 cq4)
        refine callA.pure hih rfl ?_
        (generalize cq0 : Frm.ds = cy0, cq1 : Frm.szs = cy1, cq2 : Tm.ds = cy2, cq3 : natI = cy3, cq4 : opI = cy4; cbv <;> subst cq0 cq1 cq2 cq3 cq4)
        simp only [e6]
        refine ⟨nat_ok hp (by omega), ?_⟩
        (generalize cq0 : Frm.ds = cy0, cq1 : Frm.szs = cy1, cq2 : Tm.ds = cy2, cq3 : natI = cy3, cq4 : opI = cy4; cbv <;> subst cq0 cq1 cq2 cq3 cq4)
        refine ⟨by subst hp; simp [std, Frm.ds_len]; omega, (d ++ [.mk o2 nm2 us2 fs2], r, n'), ⟨by rw [hes]; simp, rfl, by simp only; omega⟩, by simp, ?_, rfl⟩
        generalize hd' : d ++ [Frm.mk o2 nm2 us2 fs2] = d'
        (generalize cq0 : Frm.ds = cy0, cq1 : Tm.ds = cy1, cq2 : natI = cy2, cq3 : opI = cy3; cbv <;> subst cq0 cq1 cq2 cq3)
        subst hp hd'
        simp [std, Frm.ds_len]
      · rw [if_neg hnk]
        have hd1 : decide (n ≤ 500) = false := by simpa using hnk
        rw [hd1]
        (generalize cq0 : Frm.ds = cy0, cq1 : Frm.szs = cy1, cq2 : natI = cy2; cbv <;> subst cq0 cq1 cq2)
        simp only [at_ltF hp hes]
        (generalize cq0 : Frm.ds = cy0, cq1 : Frm.szs = cy1, cq2 : natI = cy2; cbv <;> subst cq0 cq1 cq2)
        simp only [e1, hd1]
        (generalize cq0 : Frm.ds = cy0, cq1 : Frm.szs = cy1, cq2 : natI = cy2; cbv <;> subst cq0 cq1 cq2)
        rw [← hd1, ← e1]
end Go.Ly.Tr
end
section
namespace Go.Ly
open Classical Go.WideShapes
mutual
def bulkD : D → Nat
  | .str s => s.length + 1
  | .agg cs => bulkDs cs
  | .row _ es => bulkDs es + 1
  | _ => 1
def bulkDs : List D → Nat
  | [] => 0
  | x :: xs => bulkD x + bulkDs xs
end
theorem bulkDs_app : ∀ a b : List D, bulkDs (a ++ b) = bulkDs a + bulkDs b
  | [], b => by simp [bulkDs]
  | x :: a, b => by simp only [List.cons_append, bulkDs, bulkDs_app a b]; omega
mutual
def bulkW {H : Type} : DataW H → Nat
  | .lit (.string bytes) => bytes.length + 1
  | .lit _ => 1
  | .nil => 1
  | .ptr d => bulkW d + 1
  | .slice elems spare => bulkWs elems + bulkWs spare + 1
  | .agg parts => bulkWs parts + 1
  | .iface _ d => bulkW d + 1
  | .map entries => bulkWe entries + 1
  | .held _ => 1
def bulkWs {H : Type} : List (DataW H) → Nat
  | [] => 0
  | d :: r => bulkW d + bulkWs r
def bulkWe {H : Type} : List (Lit × DataW H) → Nat
  | [] => 0
  | x :: r => bulkW1 x + bulkWe r
def bulkW1 {H : Type} : Lit × DataW H → Nat
  | (.string bytes, d) => bytes.length + bulkW d + 1
  | (_, d) => bulkW d + 1
end
theorem bulkW_sum {H : Type} : ∀ l : List (DataW H), bulkWs l = (l.map bulkW).sum
  | [] => rfl
  | d :: r => by simp only [bulkWs, bulkW_sum r, List.map_cons, List.sum_cons]
section
variable {H : Type} {enc : TypeId × Value → H} {P : Program} {w w' : World} {sp : Nat → Bool} {held : Bool} {Ts : List TypeId}
theorem row_rdb {e : TypeId} {n b o : Nat} (hsz : 0 < P.cellsOf e) : ∀ (Bs : List Nat) (k : Nat), (∀ i bb, Bs[i]? = some bb → ∃ cs, w.cells? 0 ((⟨b, o, none⟩ : Addr).add ((k + i) * P.cellsOf e)) (P.cellsOf e) = some cs ∧ ∃ ds, RdDs w (sizeAt w) (fun _ => True) ds cs ∧ dOnes ds = true ∧ Fits P n e ds ∧ bulkDs ds ≤ bb) →
    ∃ (es : List (List D)) (vs : List Value), es.length = Bs.length ∧ bulkDs (es.map (elD P e)) ≤ Bs.sum ∧ (∀ x ∈ es, Fits P n e x) ∧ RdRow w (sizeAt w) (fun _ => True) (P.cellsOf e) (es.map (elD P e)) vs ∧ ∀ i v, vs[i]? = some v → w.cell? ⟨b, o + k * P.cellsOf e + i, none⟩ = some v
  | [], k, _ => ⟨[], [], rfl, Nat.le_refl _, fun x hx => (by cases hx), (by simp [RdRow]), fun i v h => (by simp at h)⟩
  | bb :: Bs, k, h => by
    obtain ⟨cs, hcs, ds, h1, h2, h3, h4⟩ := h 0 bb rfl
    obtain ⟨es, vs, he, hbe, hf, hr, hc⟩ := row_rdb (n := n) (b := b) (o := o) hsz Bs (k + 1) fun i b2 hi => by
      have := h (i + 1) b2 (by simpa using hi)
      rwa [show k + (i + 1) = k + 1 + i by omega] at this
    obtain ⟨hlen, hget⟩ := cells_get hcs
    have hdl := RdDs_len ds cs h1
    have one := dOnes_one ds cs h2 h1
    obtain ⟨v, hv1, hv2, hv3⟩ : ∃ v : Value, v.cells.toList = cs ∧ RdD w (sizeAt w) (fun _ => True) (elD P e ds) v ∧ bulkD (elD P e ds) ≤ bulkDs ds := by
      unfold elD
      split
      · exact ⟨.agg ⟨cs⟩, rfl, by simp only [RdD]; exact ⟨cs, rfl, h1⟩, Nat.le_refl _⟩
      · rename_i hns
        have : ∃ d, ds = [d] := by
          cases n with
          | zero => exact h3.elim
          | succ n =>
            unfold Fits at h3
            split at h3
            · obtain ⟨_, rfl⟩ := h3; exact ⟨_, rfl⟩
            · obtain ⟨_, rfl, _⟩ := h3; exact ⟨_, rfl⟩
            · obtain ⟨_, rfl, _⟩ := h3; exact ⟨_, rfl⟩
            · obtain ⟨_, rfl, _⟩ := h3; exact ⟨_, rfl⟩
            · rename_i fs hu; exact absurd hu (hns fs)
            · exact h3.elim
        obtain ⟨d, rfl⟩ := this
        simp only [RdDs] at h1
        obtain ⟨c, rest, rfl, hd, rfl⟩ := h1
        refine ⟨c, ?_, hd, Nat.le_refl _⟩
        have := one c (by simp)
        cases c <;> first | rfl | exact this.elim
    refine ⟨ds :: es, cs ++ vs, by simp [he], by simp only [List.map_cons, bulkDs, List.sum_cons]; omega, fun x hx => ?_, ?_, fun i v hi => ?_⟩
    · simp only [List.mem_cons] at hx
      rcases hx with rfl | hx
      · exact h3
      · exact hf x hx
    · simp only [List.map_cons, RdRow]
      exact ⟨v, vs, by rw [hv1], by rw [← Array.length_toList, hv1, hlen], by rw [hv1]; exact one, hv2, hr⟩
    · rcases Nat.lt_or_ge i cs.length with hi' | hi'
      · rw [List.getElem?_append_left hi'] at hi
        have := hget i (by omega)
        rw [hi, Nat.add_zero, add_addr, add_addr] at this
        exact this
      · rw [List.getElem?_append_right hi'] at hi
        have := hc _ v hi
        rw [show o + (k + 1) * P.cellsOf e + (i - cs.length) = o + k * P.cellsOf e + i by rw [hlen, Nat.add_mul]; omega] at this
        exact this
theorem fields_rdb {n m : Nat} {cs : List Value} (hm : cs.length = m) : ∀ (fs : List Field) (Bs : List Nat) (k : Nat), Bs.length = fs.length → inOrd P fs k m = true → (∀ (i : Nat) f bb, fs[i]? = some f → Bs[i]? = some bb → ∃ ds, RdDs w (sizeAt w) (fun _ => True) ds ((cs.drop f.offset).take (P.cellsOf f.type)) ∧ dOnes ds = true ∧ Fits P n f.type ds ∧ bulkDs ds ≤ bb) →
    ∃ xs : List (List D), bulkDs xs.flatten ≤ Bs.sum ∧ RdDs w (sizeAt w) (fun _ => True) xs.flatten (cs.drop k) ∧ dOnes xs.flatten = true ∧ xs.length = fs.length ∧ ∀ (i : Nat) (f : Field) (x : List D), fs[i]? = some f → xs[i]? = some x → Fits P n f.type x
  | [], Bs, k, _, ho, _ => by
    simp only [inOrd, beq_iff_eq] at ho
    refine ⟨[], Nat.zero_le _, ?_, rfl, rfl, fun i f x h => by simp at h⟩
    rw [List.drop_eq_nil_of_le (by omega)]
    simp [RdDs]
  | f :: fs, [], k, hB, _, _ => by cases hB
  | f :: fs, bb :: Bs, k, hB, ho, h => by
    simp only [inOrd, Bool.and_eq_true, beq_iff_eq] at ho
    obtain ⟨h1, h2⟩ := ho
    obtain ⟨xs, g0, g1, g2, g3, g4⟩ := fields_rdb hm fs Bs _ (by simpa using hB) h2 fun i f' b2 hf hb => h (i + 1) f' b2 (by simpa using hf) (by simpa using hb)
    obtain ⟨ds, d1, d2, d3, d4⟩ := h 0 f bb rfl rfl
    refine ⟨ds :: xs, by rw [List.flatten_cons, bulkDs_app, List.sum_cons]; omega, ?_, ?_, by simp [g3], fun i f' x hi hx => ?_⟩
    · rw [List.flatten_cons, show cs.drop k = (cs.drop k).take (P.cellsOf f.type) ++ cs.drop (k + P.cellsOf f.type) by rw [← List.drop_drop, List.take_append_drop]]
      rw [h1] at d1
      exact RdDs_cat d1 g1
    · rw [List.flatten_cons]
      exact dOnes_cat d2 g2
    · cases i with
      | zero =>
        simp only [List.getElem?_cons_zero, Option.some.injEq] at hi hx
        subst hi hx
        exact d3
      | succ i =>
        simp only [List.getElem?_cons_succ] at hi hx
        exact g4 i f' x hi hx
theorem trod_rdb (hT : okTs P Ts = true) (hw : 0 < w.heap.size) : ∀ (fuel : Nat) (t : TypeId) (cs : List Value) (x : DataW H × List MemPlace), t ∈ Ts → DataW.trod enc P w 0 sp held fuel t cs = some x →
    ∃ ds, RdDs w (sizeAt w) (fun _ => True) ds cs ∧ dOnes ds = true ∧ Fits P fuel t ds ∧ bulkDs ds ≤ bulkW x.1
  | 0, t, cs, x, _, h => by simp [DataW.trod] at h
  | fuel + 1, t, cs, x, ht, h => by
    have ho := okTs_at hT ht
    split at ho
    · rename_i hu
      obtain ⟨b, rfl, rfl⟩ := DataW.trod_bool hu h
      exact ⟨[.bool b], by simp [RdDs, RdD], rfl, by unfold Fits; rw [hu]; exact ⟨b, rfl⟩, Nat.le_refl _⟩
    · rename_i k hu
      obtain ⟨m, rfl, rfl, hw⟩ := DataW.trod_int hu h
      exact ⟨[.int k m], by simp [RdDs, RdD], rfl, by unfold Fits; rw [hu]; exact ⟨m, rfl, hw⟩, Nat.le_refl _⟩
    · rename_i hu
      obtain ⟨s, rfl, rfl, hl⟩ := DataW.trod_string hu h
      refine ⟨[.str s.data.toList], ?_, rfl, by unfold Fits; rw [hu]; exact ⟨_, rfl, by simpa using hl⟩, Nat.le_refl _⟩
      simp [RdDs, RdD]
    · rename_i e hu
      simp only [Bool.and_eq_true, decide_eq_true_eq, List.contains_iff_mem] at ho
      obtain ⟨he, hsz⟩ := ho
      rcases DataW.trod_slice hu h with ⟨rfl, rfl⟩ | ⟨a, len, cap, elems, rest, n, hn, rfl, rfl, _, hlc, hcm, hel, hget, _⟩
      · refine ⟨[.row (P.cellsOf e) []], ?_, rfl, ?_, Nat.le_refl _⟩
        · simp only [RdDs]
          exact ⟨_, [], rfl, (RdD_nilrow (.inl rfl)), rfl⟩
        · unfold Fits; rw [hu]
          exact ⟨[], rfl, Nat.zero_le _, fun x hx => by cases hx⟩
      · simp only [Nat.add_right_cancel_iff] at hn
        subst hn
        have each : ∀ i bb, (elems.map fun x => bulkW x.1)[i]? = some bb → ∃ cs, w.cells? 0 (a.add (i * P.cellsOf e)) (P.cellsOf e) = some cs ∧ ∃ ds, RdDs w (sizeAt w) (fun _ => True) ds cs ∧ dOnes ds = true ∧ Fits P fuel e ds ∧ bulkDs ds ≤ bb := by
          intro i bb hbb
          rw [List.getElem?_map, Option.map_eq_some_iff] at hbb
          obtain ⟨y, hy, rfl⟩ := hbb
          have hi : i < len := by have := (List.getElem?_eq_some_iff.1 hy).1; omega
          have hg := hget i hi
          rw [hy, Option.bind_eq_some_iff] at hg
          obtain ⟨cs, h1, h2⟩ := hg
          exact ⟨cs, h1, trod_rdb hT hw fuel e cs _ he h2⟩
        rcases Nat.eq_zero_or_pos len with hz | hpos
        · subst hz
          refine ⟨[.row (P.cellsOf e) []], ?_, rfl, ?_, by simp [bulkDs, bulkD, bulkW]⟩
          · simp only [RdDs]
            exact ⟨_, [], rfl, RdD_nilrow (.inr ⟨0, hw, trivial⟩), rfl⟩
          · unfold Fits; rw [hu]
            exact ⟨[], rfl, Nat.zero_le _, fun x hx => by cases hx⟩
        · obtain ⟨cs0, hc0, _⟩ := each 0 _ (List.getElem?_eq_getElem (by simpa [*] using hpos))
          obtain ⟨hl0, hg0⟩ := cells_get hc0
          have hcell := hg0 0 hsz
          rw [Nat.zero_mul, List.getElem?_eq_getElem (by omega)] at hcell
          have hspot : a.spot = none := by
            have : (a.add 0).add 0 = a := by simp [Addr.add]
            rw [this] at hcell
            unfold World.cell? at hcell
            split at hcell
            · split at hcell
              · cases hcell
              · rename_i hs
                cases h' : a.spot with
                | none => rfl
                | some s => rw [h'] at hs; simp at hs
            · cases hcell
          obtain ⟨b, o, spt⟩ := a
          simp only at hspot
          subst hspot
          obtain ⟨es, vs, h1, hbk, h2, h3, h4⟩ := row_rdb (n := fuel) (b := b) (o := o) hsz (elems.map fun x => bulkW x.1) 0 fun i bb hi => by rw [Nat.zero_add]; exact each i bb hi
          rw [List.length_map, hel] at h1
          refine ⟨[.row (P.cellsOf e) (es.map (elD P e))], ?_, rfl, by unfold Fits; rw [hu]; exact ⟨es, rfl, by omega, h2⟩, by simp only [bulkDs, bulkD, bulkW, bulkW_sum]; simp only [List.map_map, Function.comp_def] at hbk ⊢; omega⟩
          have hvl := RdRow_len _ vs h3
          have hb : b < w.heap.size ∧ o + len * P.cellsOf e ≤ sizeAt w b := by
            have hp : 0 < len * P.cellsOf e := Nat.mul_pos hpos hsz
            have hi : len * P.cellsOf e - 1 < vs.length := by rw [hvl]; simp only [List.length_map, h1]; omega
            have hc := h4 (len * P.cellsOf e - 1) _ (List.getElem?_eq_getElem hi)
            refine ⟨cell_lt hc, ?_⟩
            unfold World.cell? at hc
            unfold sizeAt
            split at hc
            · rename_i c _ _ hh
              simp only at hh
              rw [hh]
              simp only [Option.isSome_none, Bool.false_eq_true, if_false] at hc
              rcases Nat.lt_or_ge (o + 0 * P.cellsOf e + (len * P.cellsOf e - 1)) c.size with h' | h'
              · simp only; omega
              · rw [Array.getElem?_eq_none h'] at hc; cases hc
            · cases hc
          simp only [RdDs]
          refine ⟨_, [], rfl, ?_, rfl⟩
          simp only [RdD]
          refine .inr ⟨b, o, cap, vs, by simp [h1], by simp [h1, hlc], ⟨hb.1, trivial⟩, by simpa [h1] using hb.2, fun i v hv => ?_, h3⟩
          have := h4 i v hv
          rwa [Nat.zero_mul, Nat.add_zero] at this
    · rename_i fs hu
      simp only [Bool.and_eq_true, List.all_eq_true, List.contains_iff_mem] at ho
      obtain ⟨hord, hin⟩ := ho
      obtain ⟨xs, n, hn, rfl, hl, hxl, hget⟩ := DataW.trod_struct hu h
      simp only [Nat.add_right_cancel_iff] at hn
      subst hn
      obtain ⟨ys, g0, g1, g2, g3, g4⟩ := fields_rdb (n := fuel) hl fs.toList (xs.map fun x => bulkW x.1) 0 (by simp [hxl]) hord fun i f bb hf hbb => by
        have hfi : fs[i]? = some f := by rw [← Array.getElem?_toList]; exact hf
        have := hget i f hfi
        rw [List.getElem?_map, Option.map_eq_some_iff] at hbb
        obtain ⟨y, hy, rfl⟩ := hbb
        rw [hy] at this
        exact trod_rdb hT hw fuel f.type _ _ (hin f (List.mem_of_getElem? hf)) this
      rw [List.drop_zero] at g1
      refine ⟨ys.flatten, g1, g2, ?_, by simp only [bulkW, bulkW_sum]; simp only [List.map_map, Function.comp_def] at g0 ⊢; omega⟩
      unfold Fits; rw [hu]
      exact ⟨ys, rfl, by simpa using g3, fun i f x hf hx => g4 i f x (by rw [Array.getElem?_toList]; exact hf) hx⟩
    · cases ho
theorem arg_rdb (hT : okTs P Ts = true) (hw : 0 < w.heap.size) {t : TypeId} {v : Value} {d : DataW H} {ps : List MemPlace} {r : Reach} {b0 : Nat} (ht : t ∈ Ts) (hval : Value.okWide P w r b0 t v) (hd : DataW.Trod enc P w 0 sp held t v d ps) :
    ∃ n ds, Fits P n t ds ∧ RdD w (sizeAt w) (fun _ => True) (elD P t ds) v ∧ bulkD (elD P t ds) ≤ bulkW d := by
  obtain ⟨fuel, hf⟩ := hd
  obtain ⟨ds, h1, h2, h3, h4⟩ := trod_rdb hT hw fuel t _ _ ht hf
  refine ⟨fuel, ds, h3, ?_⟩
  unfold elD
  split
  · rename_i fs hu
    obtain ⟨cs, rfl, _⟩ := okWide_struct hu hval
    simp only [RdD]
    exact ⟨⟨cs.toList, rfl, h1⟩, h4⟩
  · rename_i hns
    obtain ⟨d, rfl⟩ := fits_one h3 fun fs h => hns fs h
    simp only [RdDs] at h1
    obtain ⟨c, rest, hc, hd, rfl⟩ := h1
    have ho := okTs_at hT ht
    have : v.cells.toList = [v] := by
      split at ho
      · rename_i hu; obtain ⟨b, rfl⟩ := okWide_bool hu hval; rfl
      · rename_i k hu; obtain ⟨b, rfl⟩ := okWide_int hu hval; rfl
      · rename_i hu; obtain ⟨b, rfl⟩ := okWide_string hu hval; rfl
      · rename_i e hu; obtain ⟨a, l, c, rfl⟩ := okWide_slice hu hval; rfl
      · rename_i fs hu; exact absurd hu (hns fs)
      · cases ho
    rw [this] at hc
    cases hc
    refine ⟨hd, ?_⟩
    simpa [bulkDs] using h4
theorem args_rdb (hT : okTs P Ts = true) (hw : 0 < w.heap.size) {r : Reach} {b0 : Nat} {S : St} (hG : S.G = sizeAt w) (hE : S.E = w.heap.size) {φ : Nat → FuncId} : ∀ {ts : List TypeId} {vs : List Value} {ds : List (DataW H)} {ps : List MemPlace}, (∀ t ∈ ts, t ∈ Ts) →
    (∀ (j : Nat) t v, ts[j]? = some t → vs[j]? = some v → Value.okWide P w r b0 t v) → DataW.TrodAll enc P w 0 sp held ts vs ds ps →
    ∃ xs, ArgsFit P ts xs ∧ RdNs φ S w (xs.map oldD1) vs ∧ bulkDs xs ≤ bulkWs ds
  | [], [], [], _, _, _, h => ⟨[], trivial, rfl, Nat.le_refl _⟩
  | t :: ts, v :: vs, d :: ds, ps, hts, hval, h => by
    obtain ⟨p, q, h1, h2, _⟩ := h
    obtain ⟨n, xs0, h3, h4, h4b⟩ := arg_rdb hT hw (hts t (by simp)) (hval 0 t v rfl rfl) h1
    obtain ⟨xs, h5, h6, h6b⟩ := args_rdb hT hw hG hE (φ := φ) (fun t ht => hts t (by simp [ht])) (fun j t v hj hv => hval (j + 1) t v hj hv) h2
    refine ⟨elD P t xs0 :: xs, ⟨⟨n, xs0, h3, rfl⟩, h5⟩, ?_, by simp only [bulkDs, bulkWs]; omega⟩
    simp only [List.map_cons, RdNs]
    refine ⟨v, vs, rfl, rfl, ?_, h6⟩
    simp only [oldD1, RdA]
    rw [hG]
    exact RdD_weak' (fun b hb _ => by rw [hE]; exact hb) h4
  | [], _ :: _, _, _, _, _, h => by simp [DataW.TrodAll] at h
  | [], [], _ :: _, _, _, _, h => by simp [DataW.TrodAll] at h
  | _ :: _, [], _, _, _, _, h => by simp [DataW.TrodAll] at h
  | _ :: _, _ :: _, [], _, _, _, h => by simp [DataW.TrodAll] at h
end
theorem law_callsb {H : Type} {enc : TypeId × Value → H} {E : Env} {k : Nat} {fn : Func} {s : ChangeSpec} {Ts : List TypeId} {tb : TypeId} {apart fresh handsOn : Bool} (hT : okTs E.P Ts = true) (hp : ∀ t ∈ fn.params.toList, t ∈ Ts) (hvars : s.vars = [])
    (hr : fn.resultTypes = #[tb]) (htb : E.P.underlying tb = some .bool) (hsp : ∀ ds : List (DataW H), ds.length = fn.params.size → s.fn H ds = { results := [.lit (.bool true)], args := ds })
    (hlaw : ∀ xs : List D, ArgsFit E.P fn.params.toList xs → bulkDs xs ≤ 1048576 → Pure E k (xs.map oldD1) (.d .top (.bool true)))
    {W : World} {base : Nat} {args : Array Value} {ds gs : List (DataW H)} {before : List MemPlace} (hval : ∀ (j : Nat) t v, fn.params[j]? = some t → args[j]? = some v → Value.okWide E.P W .any base t v)
    (hW : DataW.Whole enc E.P fn.params.toList s.vars apart W args.toList ds gs before) (hbulk : bulkWs ds ≤ 1048576) (hpos : 0 < W.heap.size) (hgl : ∀ p ∈ E.gl, ∃ T f, W.heap[p.1]? = some (.cells p.2.toArray T f)) :
    Calls E.P (E.φ k) args W fun e W' => ∃ v, e = .returned v ∧ s.post enc E.P fn apart fresh handsOn false W args v W' := by
  have hW' := hW
  obtain ⟨p, q, hA, hV, rfl, hfz, hnd⟩ := hW
  rw [hvars] at hV
  have hgs : gs = [] ∧ q = [] := by
    cases gs with
    | nil => exact ⟨rfl, hV⟩
    | cons g r => exact absurd hV (by intro h; cases h)
  obtain ⟨rfl, rfl⟩ := hgs
  obtain ⟨S, hS⟩ : ∃ S : St, S = { θ := [], β := fun _ => none, ln := fun _ => (0, 0), G := sizeAt W, E := W.heap.size, D := W.heap.size, L := fun _ => False, n0 := W.heap.size, X := fun _ => False, xv := [] } := ⟨_, rfl⟩
  obtain ⟨xs, hfit, hrd, hbk⟩ := args_rdb hT hpos (S := S) (by rw [hS]) (by rw [hS]) (φ := E.φ) hp (fun j t v hj hv => hval j t v (by rw [← Array.getElem?_toList]; exact hj) (by rw [← Array.getElem?_toList]; exact hv)) hA
  obtain ⟨hb, hc⟩ := hlaw xs hfit (by omega)
  have hB : Begins E S W [] (xs.map oldD1) args.toList := by
    refine ⟨?_, by rw [hS]; exact fun _ => rfl, by rw [hS], by rw [hS], by rw [hS], hrd⟩
    rw [hS]
    refine ⟨rfl, List.nodup_nil, fun id b s hb _ => (by simp at hb), fun b hb => (by simp at hb), fun b hb => (by simp at hb), fun t b hb => (by cases hb), fun t b hb => (by cases hb), fun t t' b hb => (by cases hb), fun b hb => ?_, Nat.le_refl _, Nat.le_refl _, trivial, fun b hb => hb.elim⟩
    simp only [sizeAt, Array.getElem?_eq_none hb]
  have hJ : (alone E).J () S W := by
    refine ⟨fun b => by rw [hS]; exact id, fun p hp => ?_⟩
    obtain ⟨T, f, hh⟩ := hgl p hp
    have hc : cellsAt W p.1 0 p.2 := fun i v hi => by simp [World.cell?, hh, hi]
    refine ⟨hc, ?_, _, T, f, hh, by simp⟩
    rw [hS]
    exact cells_size hc
  refine (hc S W args.toList hB hJ).mono ?_
  rintro e W' ⟨v, r, σ', _, S', rfl, rfl, _, hL⟩
  have hv : v = .bool true := hL.res.2
  subst hv
  have hs : ∀ b, b < W.heap.size → W'.heap[b]? = W.heap[b]? := fun b hb => by
    refine (hL.ev.frame b hb ?_ ?_ ?_ ?_).1
    · rw [hS]; simp
    · rw [hS]; simp
    · rw [hS]; exact id
    · rw [hS]; exact .inl hb
  have hlen : ds.length = fn.params.size := by
    have : ∀ {ts : List TypeId} {vs : List Value} {ds : List (DataW H)} {ps : List MemPlace}, DataW.TrodAll enc E.P W 0 (fun _ => true) true ts vs ds ps → ds.length = ts.length := by
      intro ts
      induction ts with
      | nil =>
        intro vs ds ps h
        obtain ⟨rfl, rfl, rfl⟩ := ChangeShapes.trodAll_nil h
        rfl
      | cons t ts ih =>
        intro vs ds ps h
        obtain ⟨v, vs1, d, ds1, a, b, rfl, rfl, rfl, h1, h2⟩ := ChangeShapes.trodAll_cons h
        simp [ih h2]
    simpa using this hA
  have e1 : s.fn H (ds ++ []) = { results := [.lit (.bool true)], args := ds } := by rw [List.append_nil]; exact hsp ds hlen
  refine ⟨_, rfl, ds, [], _, [], p, [], hW', ?_, ?_, ?_, kept_of hL.ev.os hs _, fun h => by cases h⟩
  · rw [e1, hr]
    exact ⟨[], [], RowKit.shut_bool htb true, rfl, rfl⟩
  · rw [e1]
    exact args_same hT hs (fun b hb => by simpa using hb) hp hA
  · rw [e1, hvars]
    rfl
end Go.Ly
end
section
namespace Go.Ly.Tr
set_option maxRecDepth 20000
open Go.Proofs
theorem c30 : E.P.cellsOf 30 = 3 := by kernel_rfl
theorem c25 : E.P.cellsOf 25 = 4 := by kernel_rfl
theorem u4 : E.P.underlying 4 = some .bool := Tryz.underlying4
theorem u5 : E.P.underlying 5 = some (.int .u8) := Tryz.underlying5
theorem u9 : E.P.underlying 9 = some .string := Tryz.underlying9
theorem u22 : E.P.underlying 22 = some (.slice 30) := Tryz.underlying22
theorem u23 : E.P.underlying 23 = some (.slice 25) := Tryz.underlying23
theorem el30 (ds : List D) : elD E.P 30 ds = .agg ds := by unfold elD; rw [show E.P.underlying 30 = _ from Tryz.underlying30]
theorem el25 (ds : List D) : elD E.P 25 ds = .agg ds := by unfold elD; rw [show E.P.underlying 25 = _ from Tryz.underlying25]
theorem el9 (ds : List D) : elD E.P 9 ds = ds.headD .np := by unfold elD; rw [u9]
theorem fits_bool {n : Nat} {ds : List D} (h : Fits E.P n 4 ds) : ∃ b, ds = [.bool b] := by
  cases n with
  | zero => exact h.elim
  | succ n => unfold Fits at h; rw [u4] at h; exact h
theorem fits_str {n : Nat} {ds : List D} (h : Fits E.P n 9 ds) : ∃ s, ds = [.str s] := by
  cases n with
  | zero => exact h.elim
  | succ n => unfold Fits at h; rw [u9] at h; obtain ⟨s, h, _⟩ := h; exact ⟨s, h⟩
theorem fits_op {n : Nat} {ds : List D} (h : Fits E.P n 5 ds) : ∃ o : UInt8, ds = [.int .u8 (opI o)] := by
  cases n with
  | zero => exact h.elim
  | succ n =>
    unfold Fits at h
    rw [u5] at h
    obtain ⟨m, rfl, hw⟩ := h
    have hm : 0 ≤ m ∧ m ≤ 255 := by simpa [Lit.wf, IntKind.min, IntKind.max, IntKind.signed, IntKind.bits] using hw
    refine ⟨UInt8.ofNat m.toNat, ?_⟩
    have : opI (UInt8.ofNat m.toNat) = m := by
      unfold opI
      rw [UInt8.toNat_ofNat']
      omega
    rw [this]
theorem fits_tms {e : List (List D)} (h : ∀ x ∈ e, ∃ t : Tm, t.d = .agg x ∧ t.wt ≤ bulkDs x) : ∃ us : List Tm, e.map (elD E.P 30) = Tm.ds us ∧ Tm.wts us ≤ bulkDs (e.map (elD E.P 30)) := by
  induction e with
  | nil => exact ⟨[], rfl, Nat.le_refl _⟩
  | cons x e ih =>
    obtain ⟨us, h1, h2⟩ := ih fun y hy => h y (by simp [hy])
    obtain ⟨t, h3, h4⟩ := h x (by simp)
    refine ⟨t :: us, by rw [List.map_cons, h1, el30, ← h3, Tm.ds], ?_⟩
    rw [List.map_cons, Tm.wts, bulkDs, el30, bulkD]
    omega
theorem fits_tm : ∀ (n : Nat) (ds : List D), (Fits E.P n 30 ds → ∃ t : Tm, t.d = .agg ds ∧ t.wt ≤ bulkDs ds) ∧ (Fits E.P n 22 ds → ∃ us : List Tm, ds = [.row 3 (Tm.ds us)] ∧ Tm.wts us + 1 ≤ bulkDs ds)
  | 0, _ => ⟨fun h => h.elim, fun h => h.elim⟩
  | n + 1, ds => by
    constructor
    · intro h
      unfold Fits at h
      rw [show E.P.underlying 30 = _ from Tryz.underlying30] at h
      obtain ⟨xs, rfl, hl, hx⟩ := h
      match xs, hl with
      | [a, b, c], _ =>
        obtain ⟨v, rfl⟩ := fits_bool (hx 0 _ a rfl rfl)
        obtain ⟨s, rfl⟩ := fits_str (hx 1 _ b rfl rfl)
        obtain ⟨us, rfl, hw⟩ := (fits_tm n c).2 (hx 2 _ c rfl rfl)
        refine ⟨.mk v s us, rfl, ?_⟩
        simp only [List.flatten_cons, List.flatten_nil, List.append_nil, bulkDs_app]
        rw [Tm.wt]
        have h1 : bulkDs [D.bool v] = 1 := rfl
        have h2 : bulkDs [D.str s] = s.length + 1 := rfl
        omega
    · intro h
      unfold Fits at h
      rw [u22] at h
      obtain ⟨es, rfl, _, hx⟩ := h
      obtain ⟨us, h1, h2⟩ := fits_tms fun x hm => (fits_tm n x).1 (hx x hm)
      refine ⟨us, by rw [h1, c30], ?_⟩
      simp only [bulkDs, bulkD]
      omega
theorem fits_frms {e : List (List D)} (h : ∀ x ∈ e, ∃ t : Frm, t.d = .agg x ∧ t.wt ≤ bulkDs x) : ∃ us : List Frm, e.map (elD E.P 25) = Frm.ds us ∧ Frm.wts us ≤ bulkDs (e.map (elD E.P 25)) := by
  induction e with
  | nil => exact ⟨[], rfl, Nat.le_refl _⟩
  | cons x e ih =>
    obtain ⟨us, h1, h2⟩ := ih fun y hy => h y (by simp [hy])
    obtain ⟨t, h3, h4⟩ := h x (by simp)
    refine ⟨t :: us, by rw [List.map_cons, h1, el25, ← h3, Frm.ds], ?_⟩
    rw [List.map_cons, Frm.wts, bulkDs, el25, bulkD]
    omega
theorem fits_frm : ∀ (n : Nat) (ds : List D), (Fits E.P n 25 ds → ∃ t : Frm, t.d = .agg ds ∧ t.wt ≤ bulkDs ds) ∧ (Fits E.P n 23 ds → ∃ us : List Frm, ds = [.row 4 (Frm.ds us)] ∧ Frm.wts us + 1 ≤ bulkDs ds)
  | 0, _ => ⟨fun h => h.elim, fun h => h.elim⟩
  | n + 1, ds => by
    constructor
    · intro h
      unfold Fits at h
      rw [show E.P.underlying 25 = _ from Tryz.underlying25] at h
      obtain ⟨xs, rfl, hl, hx⟩ := h
      match xs, hl with
      | [a, b, c, d], _ =>
        obtain ⟨o, rfl⟩ := fits_op (hx 0 _ a rfl rfl)
        obtain ⟨s, rfl⟩ := fits_str (hx 1 _ b rfl rfl)
        obtain ⟨us, rfl, hw⟩ := (fits_tm n c).2 (hx 2 _ c rfl rfl)
        obtain ⟨fs, rfl, hw2⟩ := (fits_frm n d).2 (hx 3 _ d rfl rfl)
        refine ⟨.mk o s us fs, rfl, ?_⟩
        simp only [List.flatten_cons, List.flatten_nil, List.append_nil, bulkDs_app]
        rw [Frm.wt]
        have h1 : bulkDs [D.int .u8 (opI o)] = 1 := rfl
        have h2 : bulkDs [D.str s] = s.length + 1 := rfl
        omega
    · intro h
      unfold Fits at h
      rw [u23] at h
      obtain ⟨es, rfl, _, hx⟩ := h
      obtain ⟨us, h1, h2⟩ := fits_frms fun x hm => (fits_frm n x).1 (hx x hm)
      refine ⟨us, by rw [h1, c25], ?_⟩
      simp only [bulkDs, bulkD]
      omega
theorem args_frm {ts : List TypeId} {xs : List D} (h : ArgsFit E.P (25 :: ts) xs) : ∃ (f : Frm) (r : List D), xs = f.d :: r ∧ f.wt ≤ bulkD f.d ∧ ArgsFit E.P ts r := by
  match xs, h with
  | x :: r, ⟨⟨n, ds, h1, h2⟩, h3⟩ =>
    obtain ⟨f, h4, h5⟩ := (fits_frm n ds).1 h1
    rw [el25] at h2
    exact ⟨f, r, by rw [h2, h4], by rw [h4]; exact h5, h3⟩
theorem args_tm {ts : List TypeId} {xs : List D} (h : ArgsFit E.P (30 :: ts) xs) : ∃ (f : Tm) (r : List D), xs = f.d :: r ∧ f.wt ≤ bulkD f.d ∧ ArgsFit E.P ts r := by
  match xs, h with
  | x :: r, ⟨⟨n, ds, h1, h2⟩, h3⟩ =>
    obtain ⟨f, h4, h5⟩ := (fits_tm n ds).1 h1
    rw [el30] at h2
    exact ⟨f, r, by rw [h2, h4], by rw [h4]; exact h5, h3⟩
theorem args_str {ts : List TypeId} {xs : List D} (h : ArgsFit E.P (9 :: ts) xs) : ∃ (s : Nm) (r : List D), xs = .str s :: r ∧ s.length ≤ bulkD (.str s) ∧ ArgsFit E.P ts r := by
  match xs, h with
  | x :: r, ⟨⟨n, ds, h1, h2⟩, h3⟩ =>
    obtain ⟨s, rfl⟩ := fits_str h1
    rw [el9] at h2
    exact ⟨s, r, by rw [h2]; rfl, Nat.le_succ _, h3⟩
theorem args_nil {xs : List D} (h : ArgsFit E.P [] xs) : xs = [] := by
  match xs, h with
  | [], _ => rfl
end Go.Ly.Tr
end
section
namespace Go.Ly.Tr
set_option maxRecDepth 10000
theorem v_ok (s : Nm) : Pure E 21 [.d .old (.str s)] (.d .top (Tm.mk true s []).d) := by
  simp only [Tm.d, Tm.ds]
  refine pure_by has21 ?_
  generalize hp : std = p
  cbv
theorem c_ok (s : Nm) (us : List Tm) : Pure E 32 [.d .old (.str s), .d .old (.row 3 (Tm.ds us))] (.d .old (Tm.mk false s us).d) := by
  simp only [Tm.d, Tm.ds]
  refine pure_by has32 ?_
  generalize hp : std = p
  (generalize cq0 : Tm.ds = cy0; cbv <;> subst cq0)
theorem p_ok (s : Nm) (us : List Tm) : Pure E 43 [.d .old (.str s), .d .old (.row 3 (Tm.ds us))] (.d .old (Frm.mk 1 s us []).d) := by
  simp only [Frm.d, Frm.ds, show opI 1 = 1 from rfl]
  refine pure_by has43 ?_
  generalize hp : std = p
  (generalize cq0 : Tm.ds = cy0; cbv <;> subst cq0)
theorem of_ok (o : UInt8) (s : Nm) (fs : List Frm) : Pure E 31 [.d .old (.int .u8 (opI o)), .d .old (.str s), .d .old (.row 4 (Frm.ds fs))] (.d .old (Frm.mk o s [] fs).d) := by
  simp only [Frm.d, Tm.ds]
  refine pure_by has31 ?_
  generalize hp : std = p
  (generalize cq0 : Frm.ds = cy0, cq1 : opI = cy1; cbv <;> subst cq0 cq1)
def sameN (a b : List Nm) : Bool := decide (a.length = b.length) && a == b
theorem sameN_eq {a b : List Nm} : sameN a b = true ↔ a = b := by
  simp only [sameN, Bool.and_eq_true, decide_eq_true_eq, beq_iff_eq]
  exact ⟨fun h => h.2, fun h => ⟨by rw [h], h⟩⟩
theorem SameNames_ok (a b : List Nm) (ha : a.length ≤ 1000000) : Pure E 28 [.d .old (.row 1 (Nms a)), .d .old (.row 1 (Nms b))] (.d .top (.bool (sameN a b))) := by
  obtain ⟨z, hz⟩ : ∃ z, sameN a b = z := ⟨_, rfl⟩
  rw [hz]
  refine pure_by has28 ?_
  generalize hp : std = p
  (generalize cq0 : Nms = cy0; cbv <;> subst cq0)
  have e1 : p.not (p.eq (p.dlen (Nms a)) (p.dlen (Nms b))) = decide (a.length ≠ b.length) := by
    subst hp
    simp only [std, Nms_len]
    by_cases h : a.length = b.length <;> simp [h]
    omega
  refine cnd_intro ?_ ?_ <;> intro hb <;> replace hb := e1.symm.trans hb
  · (generalize cq0 : Nms = cy0; cbv <;> subst cq0)
    have : sameN a b = false := by
      cases h : sameN a b with
      | false => rfl
      | true => rw [sameN_eq.1 h] at hb; simp at hb
    rw [← hz, this]
  · have hlen : a.length = b.length := by simpa using hb
    (generalize cq0 : Nms = cy0; cbv <;> subst cq0)
    subst hp
    refine loopA_inv (ι := (List Nm × List Nm) × List Nm) (fun j => a = j.1.1 ++ j.1.2 ∧ b = j.1.1 ++ j.2 ∧ j.1.2.length = j.2.length) (fun j => j.1.2.length)
      (fun j => mkF 26 [(0, .d .old (.row 1 (Nms a))), (1, .d .old (.row 1 (Nms b))), (4, .d .top (.bool false)), (5, .d .top (.int .i64 (std.dlen (Nms j.1.1))))])
      (fun j => []) (fun j => ()) (([], a), b) ⟨rfl, rfl, hlen⟩ ?_ rfl (fun _ => rfl) ?_
    · generalize hp : std = p
      (generalize cq0 : Nms = cy0; cbv <;> subst cq0)
      subst hp
      simp [std, Nms]
    · rintro ⟨⟨d, r⟩, r2⟩ ⟨hes, hes2, hll⟩
      simp only at hes hes2 hll ⊢
      cases r with
      | nil =>
        have hr2 : r2 = [] := List.eq_nil_of_length_eq_zero hll.symm
        rw [List.append_nil] at hes
        rw [hr2, List.append_nil] at hes2
        have hab : z = true := by rw [← hz, sameN_eq, hes, hes2]
        subst hes
        generalize hp : std = p
        (generalize cq0 : Nms = cy0; cbv <;> subst cq0)
        simp only [end_ltN hp]
        (generalize cq0 : Nms = cy0; cbv <;> subst cq0)
        rw [hab]
      | cons x r =>
        obtain ⟨y, r2', hr2⟩ : ∃ y r2', r2 = y :: r2' := by
          cases r2 with
          | nil => simp at hll
          | cons y r2 => exact ⟨_, _, rfl⟩
        subst hr2
        generalize hp : std = p
        have es : p.not (p.seq x y) = decide (x ≠ y) := by subst hp; simp only [std]; by_cases h : x = y <;> simp [h]
        (generalize cq0 : Nms = cy0; cbv <;> subst cq0)
        simp only [at_ltN hp hes]
        (generalize cq0 : Nms = cy0; cbv <;> subst cq0)
        refine ⟨_, at_getN hp hes, ?_⟩
        (generalize cq0 : Nms = cy0; cbv <;> subst cq0)
        refine ⟨_, at_getN hp hes2, ?_⟩
        (generalize cq0 : Nms = cy0; cbv <;> subst cq0)
        refine cnd_intro ?_ ?_ <;> intro hb <;> replace hb := es.symm.trans hb
        · (generalize cq0 : Nms = cy0; cbv <;> subst cq0)
          have hf : z = false := by
            cases h : z with
            | false => rfl
            | true =>
              rw [h] at hz
              have := sameN_eq.1 hz
              rw [hes, hes2] at this
              have := List.append_cancel_left this
              simp only [List.cons.injEq] at this
              simp [this.1] at hb
          rw [hf]
        · have hxy : x = y := by simpa using hb
          subst hxy
          (generalize cq0 : Nms = cy0; cbv <;> subst cq0)
          have hdl : d.length + (r.length + 1) = a.length := by rw [hes]; simp
          refine ⟨by subst hp; simp [std, Nms_len]; omega, ((d ++ [x], r), r2'), ⟨by rw [hes]; simp, by rw [hes2]; simp, by simpa using hll⟩, by simp, ?_, rfl⟩
          generalize hd' : d ++ [x] = d'
          (generalize cq0 : Nms = cy0; cbv <;> subst cq0)
          subst hp hd'
          simp [std, Nms_len]
def few1 (o : Sb) : Bool := decide (o.1.length ≤ 100) && decide ((Frm.mk 0 [] [o.2] []).szf 100 ≤ 100)
def fewB (l : List Sb) : Bool := decide (l.length ≤ 6) && l.all few1
theorem few_ok (l : List Sb) (hl : ∀ o ∈ l, o.2.wt ≤ 1900000 ∧ o.1.length ≤ 1900000) : Pure E 16 [.d .old (.row 4 (mapO Sb.d l))] (.d .top (.bool (fewB l))) := by
  refine pure_by has16 ?_
  generalize hp : std = p
  (generalize cq0 : Sb.d = cy0, cq1 : fewB = cy1, cq2 : mapO = cy2; cbv <;> subst cq0 cq1 cq2)
  subst hp
  refine loopA_inv (ι := List Sb × List Sb) (fun j => l = j.1 ++ j.2 ∧ j.1.length ≤ 6 ∧ j.1.all few1 = true) (fun j => j.2.length)
    (fun j => mkF 32 [(0, .d .old (.row 4 (mapO Sb.d l))), (2, .d .top (.bool false)), (3, .d .top (.int .i64 (std.dlen (mapO Sb.d j.1))))])
    (fun j => []) (fun j => ()) ([], l) ⟨rfl, Nat.zero_le _, rfl⟩ ?_ rfl (fun _ => rfl) ?_
  · generalize hp : std = p
    (generalize cq0 : Sb.d = cy0, cq1 : mapO = cy1; cbv <;> subst cq0 cq1)
    subst hp
    simp [std, mapO]
  · rintro ⟨d, r⟩ ⟨hes, hd, hall⟩
    simp only at hes hd hall ⊢
    obtain ⟨z, hz⟩ : ∃ z, fewB l = z := ⟨_, rfl⟩
    rw [hz]
    cases r with
    | nil =>
      rw [List.append_nil] at hes
      subst hes
      have : z = true := by rw [← hz, fewB, hall]; simpa using hd
      rw [this]
      generalize hp : std = p
      (generalize cq0 : Sb.d = cy0, cq1 : few1 = cy1, cq2 : mapO = cy2; cbv <;> subst cq0 cq1 cq2)
      simp only [end_ltO hp]
      (generalize cq0 : Sb.d = cy0, cq1 : few1 = cy1, cq2 : mapO = cy2; cbv <;> subst cq0 cq1 cq2)
    | cons e r =>
      have hdl : d.length + (r.length + 1) = l.length := by rw [hes]; simp
      have hfew : fewB l = (decide (l.length ≤ 6) && (few1 e && r.all few1)) := by rw [fewB, hes, List.all_append, hall, List.all_cons, Bool.true_and]
      have he := hl e (by rw [hes]; simp)
      generalize hp : std = p
      have e1 : p.le 6 (p.dlen (mapO Sb.d d)) = decide (6 ≤ d.length) := by subst hp; simp [std, mapO]; omega
      (generalize cq0 : Sb.d = cy0, cq1 : few1 = cy1, cq2 : mapO = cy2; cbv <;> subst cq0 cq1 cq2)
      simp only [at_ltO hp hes]
      (generalize cq0 : Sb.d = cy0, cq1 : few1 = cy1, cq2 : mapO = cy2; cbv <;> subst cq0 cq1 cq2)
      simp only [e1]
      by_cases h6 : 6 ≤ d.length
      · have hz' : z = false := by rw [← hz, hfew, show decide (l.length ≤ 6) = false by simp; omega]; rfl
        rw [hz', show decide (6 ≤ d.length) = true by simpa using h6]
        (generalize cq0 : Sb.d = cy0, cq1 : few1 = cy1, cq2 : mapO = cy2; cbv <;> subst cq0 cq1 cq2)
      · rw [show decide (6 ≤ d.length) = false by simpa using h6]
        have h1 := Size_ok (.mk 0 [] [e.2] []) (by simp only [Frm.wt, Tm.wts, Frm.wts, List.length_nil]; omega) 100 (by omega)
        have hf1 : few1 e = (decide (e.1.length ≤ 100) && decide ((Frm.mk 0 [] [e.2] []).szf 100 ≤ 100)) := rfl
        obtain ⟨nm, v, n, us⟩ := e
        simp only [Frm.d, Tm.ds, Tm.d, Frm.ds, show opI 0 = 0 from rfl] at h1 hf1
        generalize (Frm.mk 0 [] [Tm.mk v n us] []).szf 100 = s at *
        have e2 : p.lt 100 (p.slen nm) = decide (100 < nm.length) := by subst hp; simp [std]; omega
        have e3 : p.lt 100 (natI s) = decide (100 < s) := by subst hp; simp [std, natI]; omega
        have hget : p.dget (mapO Sb.d l) (p.dlen (mapO Sb.d d)) = some (.agg [.str nm, .bool v, .str n, .row 3 (Tm.ds us)]) := at_getO hp hes
        (generalize cq0 : Sb.d = cy0, cq1 : few1 = cy1, cq2 : mapO = cy2; cbv <;> subst cq0 cq1 cq2)
        refine ⟨_, hget, ?_⟩
        (generalize cq0 : Sb.d = cy0, cq1 : Tm.ds = cy1, cq2 : few1 = cy2, cq3 : mapO = cy3; cbv <;> subst cq0 cq1 cq2 cq3)
        simp only [e2]
        by_cases h100 : 100 < nm.length
        · have hz' : z = false := by rw [← hz, hfew, hf1, show decide (nm.length ≤ 100) = false by simpa using h100]; simp
          rw [hz', show decide (100 < nm.length) = true by simpa using h100]
          (generalize cq0 : Sb.d = cy0, cq1 : Tm.ds = cy1, cq2 : few1 = cy2, cq3 : mapO = cy3; cbv <;> subst cq0 cq1 cq2 cq3)
        · rw [show decide (100 < nm.length) = false by simpa using h100]
          (generalize cq0 : Sb.d = cy0, cq1 : Tm.ds = cy1, cq2 : few1 = cy2, cq3 : mapO = cy3; cbv <;> subst cq0 cq1 cq2 cq3)
          refine ⟨_, hget, ?_⟩
          (generalize cq0 : Sb.d = cy0, cq1 : Tm.ds = cy1, cq2 : few1 = cy2, cq3 : mapO = cy3; cbv <;> subst cq0 cq1 cq2 cq3)
          refine callA.pure h1 rfl ?_
          (generalize cq0 : Sb.d = cy0, cq1 : Tm.ds = cy1, cq2 : few1 = cy2, cq3 : mapO = cy3, cq4 : natI = cy4; cbv <;> subst cq0 cq1 cq2 cq3 cq4)
          simp only [e3]
          by_cases hs : 100 < s
          · have hz' : z = false := by rw [← hz, hfew, hf1, show decide (s ≤ 100) = false by simpa using hs]; simp
            rw [hz', show decide (100 < s) = true by simpa using hs]
            (generalize cq0 : Sb.d = cy0, cq1 : Tm.ds = cy1, cq2 : few1 = cy2, cq3 : mapO = cy3, cq4 : natI = cy4; cbv <;> subst cq0 cq1 cq2 cq3 cq4)
          · rw [show decide (100 < s) = false by simpa using hs]
            (generalize cq0 : Sb.d = cy0, cq1 : Tm.ds = cy1, cq2 : few1 = cy2, cq3 : mapO = cy3, cq4 : natI = cy4; cbv <;> subst cq0 cq1 cq2 cq3 cq4)
            refine ⟨by subst hp; simp [std, mapO]; omega, (d ++ [(nm, .mk v n us)], r), ⟨by rw [hes]; simp, by simp; omega, by rw [List.all_append, hall, List.all_cons, hf1]; simp; omega⟩, by simp, ?_, rfl⟩
            generalize hd' : d ++ [(nm, Tm.mk v n us)] = d'
            (generalize cq0 : Sb.d = cy0, cq1 : Tm.ds = cy1, cq2 : mapO = cy2, cq3 : natI = cy3; cbv <;> subst cq0 cq1 cq2 cq3)
            subst hp hd'
            simp [std, mapO]
end Go.Ly.Tr
end
section
namespace Go.Ly.Tr
set_option maxRecDepth 20000
abbrev vv (s : Nm) : Tm := .mk true s []
abbrev cc (s : Nm) (l : List Tm) : Tm := .mk false s l
abbrev pp (s : Nm) (l : List Tm) : Frm := .mk 1 s l []
abbrev oo (o : UInt8) (s : Nm) (l : List Frm) : Frm := .mk o s [] l
def awF : Frm := oo 4 [] [oo 9 [120] [pp [80] [vv [120], vv [121]]], pp [81] [vv [120]]]
def awA : Frm := oo 4 [] [oo 9 [120,49] [pp [80] [vv [120,49], cc [102] [vv [120]]]], pp [81] [vv [120]]]
def awG : Frm := oo 8 [120] [oo 9 [120,49] [pp [82] [vv [120], vv [120,49], vv [121]]]]
def awB : Frm := oo 8 [120,50] [oo 9 [120,51] [pp [82] [vv [120,50], vv [120,51], cc [103] [vv [120,49], vv [120]]]]]
def awH : Frm := oo 8 [121] [oo 6 [] [pp [80] [vv [121]], oo 9 [122] [pp [82] [vv [121], vv [122], vv [120,49]]]]]
def awN : Frm := oo 8 [120,50] [oo 6 [] [pp [80] [vv [120,50]], oo 9 [120,51] [pp [82] [vv [120,50], vv [120,51], vv [120,49]]]]]
theorem sort1 (a : Nm) : sortN [a] = [a] := by simp [sortN]
theorem awF_set : setN awF.frees = [[120], [121]] := by
  have h : nubs awF.frees = [[121], [120]] := by kernel_rfl
  rw [setN, h]
  simp [sortN, List.mergeSort, List.MergeSort.Internal.splitInTwo, List.merge]
  decide
theorem set1 {l : List Nm} (a : Nm) (h : nubs l = [a]) : setN l = [a] := by rw [setN, h, sort1]
theorem awF_put : putsS awF [([121], cc [102] [vv [120]])] = (awA, 0) := by
  unfold putsS
  rw [awF_set]
  kernel_rfl
theorem awG_put : putsS awG [([121], cc [103] [vv [120, 49], vv [120]])] = (awB, 0) := by
  unfold putsS
  rw [set1 [121] (by kernel_rfl)]
  kernel_rfl
theorem awH_norm : normS awH = (awN, 0) := by
  unfold normS
  rw [set1 [120, 49] (by kernel_rfl)]
  kernel_rfl
theorem aw_alpha1 : alphaB awH awN = true := by
  unfold alphaB
  rw [set1 (l := awH.frees) [120, 49] (by kernel_rfl), set1 (l := awN.frees) [120, 49] (by kernel_rfl)]
  kernel_rfl
theorem aw_alpha2 : alphaB awF awA = false := by
  unfold alphaB
  rw [awF_set, set1 [120] (by kernel_rfl)]
  kernel_rfl
theorem aw_fresh : freshN [[120, 49], [120, 51]] = [120, 50] := by kernel_rfl
def awFs : List D := Frm.ds [oo 9 [120] [pp [80] [vv [120], vv [121]]], pp [81] [vv [120]]]
def awAs : List D := Frm.ds [oo 9 [120,49] [pp [80] [vv [120,49], cc [102] [vv [120]]]], pp [81] [vv [120]]]
def awGs : List D := Frm.ds [oo 9 [120,49] [pp [82] [vv [120], vv [120,49], vv [121]]]]
def awBs : List D := Frm.ds [oo 9 [120,51] [pp [82] [vv [120,50], vv [120,51], cc [103] [vv [120,49], vv [120]]]]]
def awHs : List D := Frm.ds [oo 6 [] [pp [80] [vv [121]], oo 9 [122] [pp [82] [vv [121], vv [122], vv [120,49]]]]]
def awNs : List D := Frm.ds [oo 6 [] [pp [80] [vv [120,50]], oo 9 [120,51] [pp [82] [vv [120,50], vv [120,51], vv [120,49]]]]]
theorem awF_d : awF.d = .agg [.int .u8 4, .str [], .row 3 [], .row 4 awFs] := rfl
theorem awA_d : awA.d = .agg [.int .u8 4, .str [], .row 3 [], .row 4 awAs] := rfl
theorem awG_d : awG.d = .agg [.int .u8 8, .str [120], .row 3 [], .row 4 awGs] := rfl
theorem awB_d : awB.d = .agg [.int .u8 8, .str [120,50], .row 3 [], .row 4 awBs] := rfl
theorem awH_d : awH.d = .agg [.int .u8 8, .str [121], .row 3 [], .row 4 awHs] := rfl
theorem awN_d : awN.d = .agg [.int .u8 8, .str [120,50], .row 3 [], .row 4 awNs] := rfl
theorem v_okx (s : Nm) : Pure E 21 [.d .old (.str s)] (.d .top (.agg [.bool true, .str s, .row 3 []])) := v_ok s
theorem c_okx (s : Nm) (us : List Tm) : Pure E 32 [.d .old (.str s), .d .old (.row 3 (Tm.ds us))] (.d .old (.agg [.bool false, .str s, .row 3 (Tm.ds us)])) := c_ok s us
theorem p_okx (s : Nm) (us : List Tm) : Pure E 43 [.d .old (.str s), .d .old (.row 3 (Tm.ds us))] (.d .old (.agg [.int .u8 1, .str s, .row 3 (Tm.ds us), .row 4 []])) := p_ok s us
theorem of_okx (o : UInt8) (s : Nm) (fs : List Frm) : Pure E 31 [.d .old (.int .u8 (opI o)), .d .old (.str s), .d .old (.row 4 (Frm.ds fs))] (.d .old (.agg [.int .u8 (opI o), .str s, .row 3 [], .row 4 (Frm.ds fs)])) := of_ok o s fs
theorem awake_ok : Pure E 15 [] (.d .top (.bool true)) := by
  have hF := of_ok 4 [] [oo 9 [120] [pp [80] [vv [120], vv [121]]], pp [81] [vv [120]]]
  rw [show Frm.mk 4 [] [] [oo 9 [120] [pp [80] [vv [120], vv [121]]], pp [81] [vv [120]]] = awF from rfl, awF_d] at hF
  have hG := of_ok 8 [120] [oo 9 [120,49] [pp [82] [vv [120], vv [120,49], vv [121]]]]
  rw [show Frm.mk 8 [120] [] [oo 9 [120,49] [pp [82] [vv [120], vv [120,49], vv [121]]]] = awG from rfl, awG_d] at hG
  have hH := of_ok 8 [121] [oo 6 [] [pp [80] [vv [121]], oo 9 [122] [pp [82] [vv [121], vv [122], vv [120,49]]]]]
  rw [show Frm.mk 8 [121] [] [oo 6 [] [pp [80] [vv [121]], oo 9 [122] [pp [82] [vv [121], vv [122], vv [120,49]]]]] = awH from rfl, awH_d] at hH
  have hN := of_ok 8 [120,50] [oo 6 [] [pp [80] [vv [120,50]], oo 9 [120,51] [pp [82] [vv [120,50], vv [120,51], vv [120,49]]]]]
  rw [show Frm.mk 8 [120,50] [] [oo 6 [] [pp [80] [vv [120,50]], oo 9 [120,51] [pp [82] [vv [120,50], vv [120,51], vv [120,49]]]]] = awN from rfl, awN_d] at hN
  have hA := of_ok 4 [] [oo 9 [120,49] [pp [80] [vv [120,49], cc [102] [vv [120]]]], pp [81] [vv [120]]]
  rw [show Frm.mk 4 [] [] [oo 9 [120,49] [pp [80] [vv [120,49], cc [102] [vv [120]]]], pp [81] [vv [120]]] = awA from rfl, awA_d] at hA
  have hB := of_ok 8 [120,50] [oo 9 [120,51] [pp [82] [vv [120,50], vv [120,51], cc [103] [vv [120,49], vv [120]]]]]
  rw [show Frm.mk 8 [120,50] [] [oo 9 [120,51] [pp [82] [vv [120,50], vv [120,51], cc [103] [vv [120,49], vv [120]]]]] = awB from rfl, awB_d] at hB
  have h1 := Put_ok awF [121] (cc [102] [vv [120]]) (by decide) (by decide)
  rw [awF_put, awF_d, show (awA, 0).1 = awA from rfl, awA_d, show natI (awA, 0).2 = 0 from rfl] at h1
  have h2 := Put_ok awG [121] (cc [103] [vv [120, 49], vv [120]]) (by decide) (by decide)
  rw [awG_put, awG_d, show (awB, 0).1 = awB from rfl, awB_d, show natI (awB, 0).2 = 0 from rfl] at h2
  have h3 := Normal_ok awH (by decide)
  rw [awH_norm, awH_d, show (awN, 0).1 = awN from rfl, awN_d, show natI (awN, 0).2 = 0 from rfl] at h3
  have h4 := Free_ok awF (by decide)
  rw [awF_set, awF_d] at h4
  have h5 := SameNames_ok [[120], [121]] [[120], [121]] (by decide)
  rw [show sameN [[120], [121]] [[120], [121]] = true by decide] at h5
  have h6 := same_ok awA (by decide) awA
  rw [show awA.same awA = true by kernel_rfl, awA_d] at h6
  have h7 := same_ok awB (by decide) awB
  rw [show awB.same awB = true by kernel_rfl, awB_d] at h7
  have h8 := same_ok awN (by decide) awN
  rw [show awN.same awN = true by kernel_rfl, awN_d] at h8
  have h9 := fresh_ok [[120, 49], [120, 51]] (by decide)
  rw [aw_fresh] at h9
  have h10 := Alpha_ok awH awN (by decide) (by decide)
  rw [aw_alpha1, awH_d, awN_d] at h10
  have h11 := Alpha_ok awF awA (by decide) (by decide)
  rw [aw_alpha2, awF_d, awA_d] at h11
  have q8 : opI 8 = 8 := rfl
  have q9 : opI 9 = 9 := rfl
  have q6 : opI 6 = 6 := rfl
  have q4 : opI 4 = 4 := rfl
  refine pure_by has15 ?_
  generalize hp : std = p
  cbv
  refine callA.pure (v_okx [120]) rfl ?_
  cbv
  refine callA.pure (v_okx [121]) rfl ?_
  cbv
  refine callA.pure (p_okx [80] [vv [120], vv [121]]) rfl ?_
  (generalize cq0 : Tm.ds = cy0; cbv <;> subst cq0)
  refine callA.pure (of_okx 9 [120] [pp [80] [vv [120], vv [121]]]) rfl ?_
  try simp only [q9]
  (generalize cq0 : Frm.ds = cy0, cq1 : Tm.ds = cy1; cbv <;> subst cq0 cq1)
  refine callA.pure (v_okx [120]) rfl ?_
  (generalize cq0 : Frm.ds = cy0, cq1 : Tm.ds = cy1; cbv <;> subst cq0 cq1)
  refine callA.pure (p_okx [81] [vv [120]]) rfl ?_
  (generalize cq0 : Frm.ds = cy0, cq1 : Tm.ds = cy1; cbv <;> subst cq0 cq1)
  refine callA.pure hF rfl ?_
  (generalize cq0 : Frm.ds = cy0, cq1 : Tm.ds = cy1, cq2 : awFs = cy2; cbv <;> subst cq0 cq1 cq2)
  refine drawA.mk _ ⟨_, _, _, rfl, (v_okx [120]), rfl, rfl⟩ ?_
  (generalize cq0 : Frm.ds = cy0, cq1 : Tm.ds = cy1, cq2 : awFs = cy2; cbv <;> subst cq0 cq1 cq2)
  refine drawA.mk _ ⟨_, _, _, rfl, (c_okx [102] [vv [120]]), rfl, rfl⟩ ?_
  (generalize cq0 : Frm.ds = cy0, cq1 : Tm.ds = cy1, cq2 : awFs = cy2; cbv <;> subst cq0 cq1 cq2)
  refine drawA.mk _ ⟨_, _, _, rfl, h1, rfl, rfl⟩ ?_
  (generalize cq0 : Frm.ds = cy0, cq1 : Tm.ds = cy1, cq2 : awAs = cy2, cq3 : awFs = cy3; cbv <;> subst cq0 cq1 cq2 cq3)
  refine callA.pure (v_okx [120]) rfl ?_
  (generalize cq0 : Frm.ds = cy0, cq1 : Tm.ds = cy1, cq2 : awAs = cy2, cq3 : awFs = cy3; cbv <;> subst cq0 cq1 cq2 cq3)
  refine callA.pure (v_okx [120, 49]) rfl ?_
  (generalize cq0 : Frm.ds = cy0, cq1 : Tm.ds = cy1, cq2 : awAs = cy2, cq3 : awFs = cy3; cbv <;> subst cq0 cq1 cq2 cq3)
  refine callA.pure (v_okx [121]) rfl ?_
  (generalize cq0 : Frm.ds = cy0, cq1 : Tm.ds = cy1, cq2 : awAs = cy2, cq3 : awFs = cy3; cbv <;> subst cq0 cq1 cq2 cq3)
  refine callA.pure (p_okx [82] [vv [120], vv [120, 49], vv [121]]) rfl ?_
  (generalize cq0 : Frm.ds = cy0, cq1 : Tm.ds = cy1, cq2 : awAs = cy2, cq3 : awFs = cy3; cbv <;> subst cq0 cq1 cq2 cq3)
  refine callA.pure (of_okx 9 [120, 49] [pp [82] [vv [120], vv [120, 49], vv [121]]]) rfl ?_
  try simp only [q9]
  (generalize cq0 : Frm.ds = cy0, cq1 : Tm.ds = cy1, cq2 : awAs = cy2, cq3 : awFs = cy3; cbv <;> subst cq0 cq1 cq2 cq3)
  refine callA.pure hG rfl ?_
  (generalize cq0 : Frm.ds = cy0, cq1 : Tm.ds = cy1, cq2 : awAs = cy2, cq3 : awFs = cy3, cq4 : awGs = cy4; cbv <;> subst cq0 cq1 cq2 cq3 cq4)
  refine drawA.mk _ ⟨_, _, _, rfl, (v_okx [120, 49]), rfl, rfl⟩ ?_
  (generalize cq0 : Frm.ds = cy0, cq1 : Tm.ds = cy1, cq2 : awAs = cy2, cq3 : awFs = cy3, cq4 : awGs = cy4; cbv <;> subst cq0 cq1 cq2 cq3 cq4)
  refine drawA.mk _ ⟨_, _, _, rfl, (v_okx [120]), rfl, rfl⟩ ?_
  (generalize cq0 : Frm.ds = cy0, cq1 : Tm.ds = cy1, cq2 : awAs = cy2, cq3 : awFs = cy3, cq4 : awGs = cy4; cbv <;> subst cq0 cq1 cq2 cq3 cq4)
  refine drawA.mk _ ⟨_, _, _, rfl, (c_okx [103] [vv [120, 49], vv [120]]), rfl, rfl⟩ ?_
  (generalize cq0 : Frm.ds = cy0, cq1 : Tm.ds = cy1, cq2 : awAs = cy2, cq3 : awFs = cy3, cq4 : awGs = cy4; cbv <;> subst cq0 cq1 cq2 cq3 cq4)
  refine drawA.mk _ ⟨_, _, _, rfl, h2, rfl, rfl⟩ ?_
  (generalize cq0 : Frm.ds = cy0, cq1 : Tm.ds = cy1, cq2 : awAs = cy2, cq3 : awBs = cy3, cq4 : awFs = cy4, cq5 : awGs = cy5; cbv <;> subst cq0 cq1 cq2 cq3 cq4 cq5)
  refine callA.pure (v_okx [121]) rfl ?_
  (generalize cq0 : Frm.ds = cy0, cq1 : Tm.ds = cy1, cq2 : awAs = cy2, cq3 : awBs = cy3, cq4 : awFs = cy4, cq5 : awGs = cy5; cbv <;> subst cq0 cq1 cq2 cq3 cq4 cq5)
  refine callA.pure (p_okx [80] [vv [121]]) rfl ?_
  (generalize cq0 : Frm.ds = cy0, cq1 : Tm.ds = cy1, cq2 : awAs = cy2, cq3 : awBs = cy3, cq4 : awFs = cy4, cq5 : awGs = cy5; cbv <;> subst cq0 cq1 cq2 cq3 cq4 cq5)
  refine callA.pure (v_okx [121]) rfl ?_
  (generalize cq0 : Frm.ds = cy0, cq1 : Tm.ds = cy1, cq2 : awAs = cy2, cq3 : awBs = cy3, cq4 : awFs = cy4, cq5 : awGs = cy5; cbv <;> subst cq0 cq1 cq2 cq3 cq4 cq5)
  refine callA.pure (v_okx [122]) rfl ?_
  (generalize cq0 : Frm.ds = cy0, cq1 : Tm.ds = cy1, cq2 : awAs = cy2, cq3 : awBs = cy3, cq4 : awFs = cy4, cq5 : awGs = cy5; cbv <;> subst cq0 cq1 cq2 cq3 cq4 cq5)
  refine callA.pure (v_okx [120, 49]) rfl ?_
  (generalize cq0 : Frm.ds = cy0, cq1 : Tm.ds = cy1, cq2 : awAs = cy2, cq3 : awBs = cy3, cq4 : awFs = cy4, cq5 : awGs = cy5; cbv <;> subst cq0 cq1 cq2 cq3 cq4 cq5)
  refine callA.pure (p_okx [82] [vv [121], vv [122], vv [120, 49]]) rfl ?_
  (generalize cq0 : Frm.ds = cy0, cq1 : Tm.ds = cy1, cq2 : awAs = cy2, cq3 : awBs = cy3, cq4 : awFs = cy4, cq5 : awGs = cy5; cbv <;> subst cq0 cq1 cq2 cq3 cq4 cq5)
  refine callA.pure (of_okx 9 [122] [pp [82] [vv [121], vv [122], vv [120, 49]]]) rfl ?_
  try simp only [q9]
  (generalize cq0 : Frm.ds = cy0, cq1 : Tm.ds = cy1, cq2 : awAs = cy2, cq3 : awBs = cy3, cq4 : awFs = cy4, cq5 : awGs = cy5; cbv <;> subst cq0 cq1 cq2 cq3 cq4 cq5)
  refine callA.pure (of_okx 6 [] [pp [80] [vv [121]], oo 9 [122] [pp [82] [vv [121], vv [122], vv [120, 49]]]]) rfl ?_
  try simp only [q6]
  (generalize cq0 : Frm.ds = cy0, cq1 : Tm.ds = cy1, cq2 : awAs = cy2, cq3 : awBs = cy3, cq4 : awFs = cy4, cq5 : awGs = cy5; cbv <;> subst cq0 cq1 cq2 cq3 cq4 cq5)
  refine callA.pure hH rfl ?_
  (generalize cq0 : Frm.ds = cy0, cq1 : Tm.ds = cy1, cq2 : awAs = cy2, cq3 : awBs = cy3, cq4 : awFs = cy4, cq5 : awGs = cy5, cq6 : awHs = cy6; cbv <;> subst cq0 cq1 cq2 cq3 cq4 cq5 cq6)
  refine callA.pure h3 rfl ?_
  (generalize cq0 : Frm.ds = cy0, cq1 : Tm.ds = cy1, cq2 : awAs = cy2, cq3 : awBs = cy3, cq4 : awFs = cy4, cq5 : awGs = cy5, cq6 : awHs = cy6, cq7 : awNs = cy7; cbv <;> subst cq0 cq1 cq2 cq3 cq4 cq5 cq6 cq7)
  refine callA.pure (v_okx [120, 50]) rfl ?_
  (generalize cq0 : Frm.ds = cy0, cq1 : Tm.ds = cy1, cq2 : awAs = cy2, cq3 : awBs = cy3, cq4 : awFs = cy4, cq5 : awGs = cy5, cq6 : awHs = cy6, cq7 : awNs = cy7; cbv <;> subst cq0 cq1 cq2 cq3 cq4 cq5 cq6 cq7)
  refine callA.pure (p_okx [80] [vv [120, 50]]) rfl ?_
  (generalize cq0 : Frm.ds = cy0, cq1 : Tm.ds = cy1, cq2 : awAs = cy2, cq3 : awBs = cy3, cq4 : awFs = cy4, cq5 : awGs = cy5, cq6 : awHs = cy6, cq7 : awNs = cy7; cbv <;> subst cq0 cq1 cq2 cq3 cq4 cq5 cq6 cq7)
  refine callA.pure (v_okx [120, 50]) rfl ?_
  (generalize cq0 : Frm.ds = cy0, cq1 : Tm.ds = cy1, cq2 : awAs = cy2, cq3 : awBs = cy3, cq4 : awFs = cy4, cq5 : awGs = cy5, cq6 : awHs = cy6, cq7 : awNs = cy7; cbv <;> subst cq0 cq1 cq2 cq3 cq4 cq5 cq6 cq7)
  refine callA.pure (v_okx [120, 51]) rfl ?_
  (generalize cq0 : Frm.ds = cy0, cq1 : Tm.ds = cy1, cq2 : awAs = cy2, cq3 : awBs = cy3, cq4 : awFs = cy4, cq5 : awGs = cy5, cq6 : awHs = cy6, cq7 : awNs = cy7; cbv <;> subst cq0 cq1 cq2 cq3 cq4 cq5 cq6 cq7)
  refine callA.pure (v_okx [120, 49]) rfl ?_
  (generalize cq0 : Frm.ds = cy0, cq1 : Tm.ds = cy1, cq2 : awAs = cy2, cq3 : awBs = cy3, cq4 : awFs = cy4, cq5 : awGs = cy5, cq6 : awHs = cy6, cq7 : awNs = cy7; cbv <;> subst cq0 cq1 cq2 cq3 cq4 cq5 cq6 cq7)
  refine callA.pure (p_okx [82] [vv [120, 50], vv [120, 51], vv [120, 49]]) rfl ?_
  (generalize cq0 : Frm.ds = cy0, cq1 : Tm.ds = cy1, cq2 : awAs = cy2, cq3 : awBs = cy3, cq4 : awFs = cy4, cq5 : awGs = cy5, cq6 : awHs = cy6, cq7 : awNs = cy7; cbv <;> subst cq0 cq1 cq2 cq3 cq4 cq5 cq6 cq7)
  refine callA.pure (of_okx 9 [120, 51] [pp [82] [vv [120, 50], vv [120, 51], vv [120, 49]]]) rfl ?_
  try simp only [q9]
  (generalize cq0 : Frm.ds = cy0, cq1 : Tm.ds = cy1, cq2 : awAs = cy2, cq3 : awBs = cy3, cq4 : awFs = cy4, cq5 : awGs = cy5, cq6 : awHs = cy6, cq7 : awNs = cy7; cbv <;> subst cq0 cq1 cq2 cq3 cq4 cq5 cq6 cq7)
  refine callA.pure (of_okx 6 [] [pp [80] [vv [120, 50]], oo 9 [120, 51] [pp [82] [vv [120, 50], vv [120, 51], vv [120, 49]]]]) rfl ?_
  try simp only [q6]
  (generalize cq0 : Frm.ds = cy0, cq1 : Tm.ds = cy1, cq2 : awAs = cy2, cq3 : awBs = cy3, cq4 : awFs = cy4, cq5 : awGs = cy5, cq6 : awHs = cy6, cq7 : awNs = cy7; cbv <;> subst cq0 cq1 cq2 cq3 cq4 cq5 cq6 cq7)
  refine callA.pure hN rfl ?_
  (generalize cq0 : Frm.ds = cy0, cq1 : Tm.ds = cy1, cq2 : awAs = cy2, cq3 : awBs = cy3, cq4 : awFs = cy4, cq5 : awGs = cy5, cq6 : awHs = cy6, cq7 : awNs = cy7; cbv <;> subst cq0 cq1 cq2 cq3 cq4 cq5 cq6 cq7)
  have z1 : p.add 0 0 = 0 := by subst hp; rfl
  have z2 : p.eq 0 0 = true := by subst hp; rfl
  have z3 : p.seq [120, 50] [120, 50] = true := by subst hp; rfl
  have z4 : p.not false = true := not_f hp
  simp only [z1, z2]
  refine ⟨by subst hp; simp [std], by subst hp; simp [std], ?_⟩
  (generalize cq0 : Frm.ds = cy0, cq1 : Tm.ds = cy1, cq2 : awAs = cy2, cq3 : awBs = cy3, cq4 : awFs = cy4, cq5 : awGs = cy5, cq6 : awHs = cy6, cq7 : awNs = cy7; cbv <;> subst cq0 cq1 cq2 cq3 cq4 cq5 cq6 cq7)
  refine drawA.mk _ ⟨_, _, _, rfl, h4, rfl, rfl⟩ ?_
  (generalize cq0 : Frm.ds = cy0, cq1 : Nms = cy1, cq2 : Tm.ds = cy2, cq3 : awAs = cy3, cq4 : awBs = cy4, cq5 : awFs = cy5, cq6 : awGs = cy6, cq7 : awHs = cy7, cq8 : awNs = cy8; cbv <;> subst cq0 cq1 cq2 cq3 cq4 cq5 cq6 cq7 cq8)
  refine drawA.mk _ ⟨_, _, _, rfl, h5, rfl, rfl⟩ ?_
  (generalize cq0 : Frm.ds = cy0, cq1 : Nms = cy1, cq2 : Tm.ds = cy2, cq3 : awAs = cy3, cq4 : awBs = cy4, cq5 : awFs = cy5, cq6 : awGs = cy6, cq7 : awHs = cy7, cq8 : awNs = cy8; cbv <;> subst cq0 cq1 cq2 cq3 cq4 cq5 cq6 cq7 cq8)
  refine drawA.mk _ ⟨_, _, _, rfl, (v_okx [120, 49]), rfl, rfl⟩ ?_
  (generalize cq0 : Frm.ds = cy0, cq1 : Nms = cy1, cq2 : Tm.ds = cy2, cq3 : awAs = cy3, cq4 : awBs = cy4, cq5 : awFs = cy5, cq6 : awGs = cy6, cq7 : awHs = cy7, cq8 : awNs = cy8; cbv <;> subst cq0 cq1 cq2 cq3 cq4 cq5 cq6 cq7 cq8)
  refine drawA.mk _ ⟨_, _, _, rfl, (v_okx [120]), rfl, rfl⟩ ?_
  (generalize cq0 : Frm.ds = cy0, cq1 : Nms = cy1, cq2 : Tm.ds = cy2, cq3 : awAs = cy3, cq4 : awBs = cy4, cq5 : awFs = cy5, cq6 : awGs = cy6, cq7 : awHs = cy7, cq8 : awNs = cy8; cbv <;> subst cq0 cq1 cq2 cq3 cq4 cq5 cq6 cq7 cq8)
  refine drawA.mk _ ⟨_, _, _, rfl, (c_okx [102] [vv [120]]), rfl, rfl⟩ ?_
  (generalize cq0 : Frm.ds = cy0, cq1 : Nms = cy1, cq2 : Tm.ds = cy2, cq3 : awAs = cy3, cq4 : awBs = cy4, cq5 : awFs = cy5, cq6 : awGs = cy6, cq7 : awHs = cy7, cq8 : awNs = cy8; cbv <;> subst cq0 cq1 cq2 cq3 cq4 cq5 cq6 cq7 cq8)
  refine drawA.mk _ ⟨_, _, _, rfl, (p_okx [80] [vv [120, 49], cc [102] [vv [120]]]), rfl, rfl⟩ ?_
  (generalize cq0 : Frm.ds = cy0, cq1 : Nms = cy1, cq2 : Tm.ds = cy2, cq3 : awAs = cy3, cq4 : awBs = cy4, cq5 : awFs = cy5, cq6 : awGs = cy6, cq7 : awHs = cy7, cq8 : awNs = cy8; cbv <;> subst cq0 cq1 cq2 cq3 cq4 cq5 cq6 cq7 cq8)
  refine drawA.mk _ ⟨_, _, _, rfl, (of_okx 9 [120, 49] [pp [80] [vv [120, 49], cc [102] [vv [120]]]]), rfl, rfl⟩ ?_
  try simp only [q9]
  (generalize cq0 : Frm.ds = cy0, cq1 : Nms = cy1, cq2 : Tm.ds = cy2, cq3 : awAs = cy3, cq4 : awBs = cy4, cq5 : awFs = cy5, cq6 : awGs = cy6, cq7 : awHs = cy7, cq8 : awNs = cy8; cbv <;> subst cq0 cq1 cq2 cq3 cq4 cq5 cq6 cq7 cq8)
  refine drawA.mk _ ⟨_, _, _, rfl, (v_okx [120]), rfl, rfl⟩ ?_
  (generalize cq0 : Frm.ds = cy0, cq1 : Nms = cy1, cq2 : Tm.ds = cy2, cq3 : awAs = cy3, cq4 : awBs = cy4, cq5 : awFs = cy5, cq6 : awGs = cy6, cq7 : awHs = cy7, cq8 : awNs = cy8; cbv <;> subst cq0 cq1 cq2 cq3 cq4 cq5 cq6 cq7 cq8)
  refine drawA.mk _ ⟨_, _, _, rfl, (p_okx [81] [vv [120]]), rfl, rfl⟩ ?_
  (generalize cq0 : Frm.ds = cy0, cq1 : Nms = cy1, cq2 : Tm.ds = cy2, cq3 : awAs = cy3, cq4 : awBs = cy4, cq5 : awFs = cy5, cq6 : awGs = cy6, cq7 : awHs = cy7, cq8 : awNs = cy8; cbv <;> subst cq0 cq1 cq2 cq3 cq4 cq5 cq6 cq7 cq8)
  refine drawA.mk _ ⟨_, _, _, rfl, hA, rfl, rfl⟩ ?_
  (generalize cq0 : Frm.ds = cy0, cq1 : Nms = cy1, cq2 : Tm.ds = cy2, cq3 : awAs = cy3, cq4 : awBs = cy4, cq5 : awFs = cy5, cq6 : awGs = cy6, cq7 : awHs = cy7, cq8 : awNs = cy8; cbv <;> subst cq0 cq1 cq2 cq3 cq4 cq5 cq6 cq7 cq8)
  refine drawA.mk _ ⟨_, _, _, rfl, h6, rfl, rfl⟩ ?_
  (generalize cq0 : Frm.ds = cy0, cq1 : Nms = cy1, cq2 : Tm.ds = cy2, cq3 : awAs = cy3, cq4 : awBs = cy4, cq5 : awFs = cy5, cq6 : awGs = cy6, cq7 : awHs = cy7, cq8 : awNs = cy8; cbv <;> subst cq0 cq1 cq2 cq3 cq4 cq5 cq6 cq7 cq8)
  refine drawA.mk _ ⟨_, _, _, rfl, (v_okx [120, 50]), rfl, rfl⟩ ?_
  (generalize cq0 : Frm.ds = cy0, cq1 : Nms = cy1, cq2 : Tm.ds = cy2, cq3 : awAs = cy3, cq4 : awBs = cy4, cq5 : awFs = cy5, cq6 : awGs = cy6, cq7 : awHs = cy7, cq8 : awNs = cy8; cbv <;> subst cq0 cq1 cq2 cq3 cq4 cq5 cq6 cq7 cq8)
  refine drawA.mk _ ⟨_, _, _, rfl, (v_okx [120, 51]), rfl, rfl⟩ ?_
  (generalize cq0 : Frm.ds = cy0, cq1 : Nms = cy1, cq2 : Tm.ds = cy2, cq3 : awAs = cy3, cq4 : awBs = cy4, cq5 : awFs = cy5, cq6 : awGs = cy6, cq7 : awHs = cy7, cq8 : awNs = cy8; cbv <;> subst cq0 cq1 cq2 cq3 cq4 cq5 cq6 cq7 cq8)
  refine drawA.mk _ ⟨_, _, _, rfl, (v_okx [120, 49]), rfl, rfl⟩ ?_
  (generalize cq0 : Frm.ds = cy0, cq1 : Nms = cy1, cq2 : Tm.ds = cy2, cq3 : awAs = cy3, cq4 : awBs = cy4, cq5 : awFs = cy5, cq6 : awGs = cy6, cq7 : awHs = cy7, cq8 : awNs = cy8; cbv <;> subst cq0 cq1 cq2 cq3 cq4 cq5 cq6 cq7 cq8)
  refine drawA.mk _ ⟨_, _, _, rfl, (v_okx [120]), rfl, rfl⟩ ?_
  (generalize cq0 : Frm.ds = cy0, cq1 : Nms = cy1, cq2 : Tm.ds = cy2, cq3 : awAs = cy3, cq4 : awBs = cy4, cq5 : awFs = cy5, cq6 : awGs = cy6, cq7 : awHs = cy7, cq8 : awNs = cy8; cbv <;> subst cq0 cq1 cq2 cq3 cq4 cq5 cq6 cq7 cq8)
  refine drawA.mk _ ⟨_, _, _, rfl, (c_okx [103] [vv [120, 49], vv [120]]), rfl, rfl⟩ ?_
  (generalize cq0 : Frm.ds = cy0, cq1 : Nms = cy1, cq2 : Tm.ds = cy2, cq3 : awAs = cy3, cq4 : awBs = cy4, cq5 : awFs = cy5, cq6 : awGs = cy6, cq7 : awHs = cy7, cq8 : awNs = cy8; cbv <;> subst cq0 cq1 cq2 cq3 cq4 cq5 cq6 cq7 cq8)
  refine drawA.mk _ ⟨_, _, _, rfl, (p_okx [82] [vv [120, 50], vv [120, 51], cc [103] [vv [120, 49], vv [120]]]), rfl, rfl⟩ ?_
  (generalize cq0 : Frm.ds = cy0, cq1 : Nms = cy1, cq2 : Tm.ds = cy2, cq3 : awAs = cy3, cq4 : awBs = cy4, cq5 : awFs = cy5, cq6 : awGs = cy6, cq7 : awHs = cy7, cq8 : awNs = cy8; cbv <;> subst cq0 cq1 cq2 cq3 cq4 cq5 cq6 cq7 cq8)
  refine drawA.mk _ ⟨_, _, _, rfl, (of_okx 9 [120, 51] [pp [82] [vv [120, 50], vv [120, 51], cc [103] [vv [120, 49], vv [120]]]]), rfl, rfl⟩ ?_
  try simp only [q9]
  (generalize cq0 : Frm.ds = cy0, cq1 : Nms = cy1, cq2 : Tm.ds = cy2, cq3 : awAs = cy3, cq4 : awBs = cy4, cq5 : awFs = cy5, cq6 : awGs = cy6, cq7 : awHs = cy7, cq8 : awNs = cy8; cbv <;> subst cq0 cq1 cq2 cq3 cq4 cq5 cq6 cq7 cq8)
  refine drawA.mk _ ⟨_, _, _, rfl, hB, rfl, rfl⟩ ?_
  (generalize cq0 : Frm.ds = cy0, cq1 : Nms = cy1, cq2 : Tm.ds = cy2, cq3 : awAs = cy3, cq4 : awBs = cy4, cq5 : awFs = cy5, cq6 : awGs = cy6, cq7 : awHs = cy7, cq8 : awNs = cy8; cbv <;> subst cq0 cq1 cq2 cq3 cq4 cq5 cq6 cq7 cq8)
  refine drawA.mk _ ⟨_, _, _, rfl, h7, rfl, rfl⟩ ?_
  (generalize cq0 : Frm.ds = cy0, cq1 : Nms = cy1, cq2 : Tm.ds = cy2, cq3 : awAs = cy3, cq4 : awBs = cy4, cq5 : awFs = cy5, cq6 : awGs = cy6, cq7 : awHs = cy7, cq8 : awNs = cy8; cbv <;> subst cq0 cq1 cq2 cq3 cq4 cq5 cq6 cq7 cq8)
  refine drawA.mk _ ⟨_, _, _, rfl, h8, rfl, rfl⟩ ?_
  (generalize cq0 : Frm.ds = cy0, cq1 : Nms = cy1, cq2 : Tm.ds = cy2, cq3 : awAs = cy3, cq4 : awBs = cy4, cq5 : awFs = cy5, cq6 : awGs = cy6, cq7 : awHs = cy7, cq8 : awNs = cy8; cbv <;> subst cq0 cq1 cq2 cq3 cq4 cq5 cq6 cq7 cq8)
  refine drawA.mk _ ⟨_, _, _, rfl, h9, rfl, rfl⟩ ?_
  (generalize cq0 : Frm.ds = cy0, cq1 : Nms = cy1, cq2 : Tm.ds = cy2, cq3 : awAs = cy3, cq4 : awBs = cy4, cq5 : awFs = cy5, cq6 : awGs = cy6, cq7 : awHs = cy7, cq8 : awNs = cy8; cbv <;> subst cq0 cq1 cq2 cq3 cq4 cq5 cq6 cq7 cq8)
  simp only [z3]
  (generalize cq0 : Frm.ds = cy0, cq1 : Nms = cy1, cq2 : Tm.ds = cy2, cq3 : awAs = cy3, cq4 : awBs = cy4, cq5 : awFs = cy5, cq6 : awGs = cy6, cq7 : awHs = cy7, cq8 : awNs = cy8; cbv <;> subst cq0 cq1 cq2 cq3 cq4 cq5 cq6 cq7 cq8)
  refine drawA.mk _ ⟨_, _, _, rfl, h10, rfl, rfl⟩ ?_
  (generalize cq0 : Frm.ds = cy0, cq1 : Nms = cy1, cq2 : Tm.ds = cy2, cq3 : awAs = cy3, cq4 : awBs = cy4, cq5 : awFs = cy5, cq6 : awGs = cy6, cq7 : awHs = cy7, cq8 : awNs = cy8; cbv <;> subst cq0 cq1 cq2 cq3 cq4 cq5 cq6 cq7 cq8)
  refine drawA.mk _ ⟨_, _, _, rfl, h11, rfl, rfl⟩ ?_
  (generalize cq0 : Frm.ds = cy0, cq1 : Nms = cy1, cq2 : Tm.ds = cy2, cq3 : awAs = cy3, cq4 : awBs = cy4, cq5 : awFs = cy5, cq6 : awGs = cy6, cq7 : awHs = cy7, cq8 : awNs = cy8; cbv <;> subst cq0 cq1 cq2 cq3 cq4 cq5 cq6 cq7 cq8)
  simp only [z4]
end Go.Ly.Tr
end
section
namespace Go.Ly.Tr
inductive DT where
  | bnd (i : Nat) (us : List DT)
  | fre (v : Bool) (n : Nm) (us : List DT)
inductive DF where
  | mk (o : UInt8) (n : Nm) (us : List DT) (fs : List DF)
def idxE : List Nm → Nm → Option Nat
  | [], _ => none
  | e :: l, n => if e == n then some 0 else (idxE l n).map (· + 1)
def dvar (e : List Nm) (n : Nm) (us : List DT) : DT :=
  match idxE e n with
  | some i => .bnd i us
  | none => .fre true n us
mutual
def Tm.db (e : List Nm) : Tm → DT
  | .mk v n us => if v then dvar e n (Tm.dbs e us) else .fre false n (Tm.dbs e us)
def Tm.dbs (e : List Nm) : List Tm → List DT
  | [] => []
  | t :: l => t.db e :: Tm.dbs e l
end
mutual
def Frm.db (e : List Nm) : Frm → DF
  | .mk o n us fs => if isQ o then .mk o [] (Tm.dbs e us) (Frm.dbs (n :: e) fs) else .mk o n (Tm.dbs e us) (Frm.dbs e fs)
def Frm.dbs (e : List Nm) : List Frm → List DF
  | [] => []
  | t :: l => t.db e :: Frm.dbs e l
end
theorem Tm.dbs_eq (e : List Nm) : ∀ l : List Tm, Tm.dbs e l = l.map (Tm.db e)
  | [] => rfl
  | t :: l => by rw [Tm.dbs, Tm.dbs_eq e l]; rfl
theorem Frm.dbs_eq (e : List Nm) : ∀ l : List Frm, Frm.dbs e l = l.map (Frm.db e)
  | [] => rfl
  | t :: l => by rw [Frm.dbs, Frm.dbs_eq e l]; rfl
mutual
def DT.lift : DT → DT
  | .bnd i us => .bnd (i + 1) (DT.lifts us)
  | .fre v n us => .fre v n (DT.lifts us)
def DT.lifts : List DT → List DT
  | [] => []
  | t :: l => t.lift :: DT.lifts l
end
mutual
def DT.sub (σ : Nm → Option DT) : DT → DT
  | .bnd i us => .bnd i (DT.subs σ us)
  | .fre v n us => if v then (match σ n with | some d => d | none => .fre v n (DT.subs σ us)) else .fre v n (DT.subs σ us)
def DT.subs (σ : Nm → Option DT) : List DT → List DT
  | [] => []
  | t :: l => t.sub σ :: DT.subs σ l
end
mutual
def DF.sub (σ : Nm → Option DT) : DF → DF
  | .mk o n us fs => .mk o n (DT.subs σ us) (DF.subs σ fs)
def DF.subs (σ : Nm → Option DT) : List DF → List DF
  | [] => []
  | t :: l => t.sub σ :: DF.subs σ l
end
theorem DT.lifts_eq : ∀ l : List DT, DT.lifts l = l.map DT.lift
  | [] => rfl
  | t :: l => by rw [DT.lifts, DT.lifts_eq l]; rfl
theorem DT.subs_eq (σ : Nm → Option DT) : ∀ l : List DT, DT.subs σ l = l.map (DT.sub σ)
  | [] => rfl
  | t :: l => by rw [DT.subs, DT.subs_eq σ l]; rfl
theorem DF.subs_eq (σ : Nm → Option DT) : ∀ l : List DF, DF.subs σ l = l.map (DF.sub σ)
  | [] => rfl
  | t :: l => by rw [DF.subs, DF.subs_eq σ l]; rfl
abbrev Vr (n : Nm) : Tm := .mk true n []
theorem Vr_db (e : List Nm) (n : Nm) : (Vr n).db e = dvar e n [] := by simp [Tm.db, Tm.dbs]
theorem Vr_vars (n : Nm) : (Vr n).vars = [n] := by simp [Tm.vars, Tm.varss]
def sv (l : List Sb) (m : Nm) : Tm := match l.find? (fun o => o.1 == m) with | some o => o.2 | none => Vr m
theorem sub_Vr (l : List Sb) (m : Nm) : (Vr m).sub l = sv l m := by
  rw [Tm.sub, if_pos rfl, sv, Tm.subs]
  cases l.find? (fun o => o.1 == m) <;> rfl
theorem idxE_head (n : Nm) (e : List Nm) : idxE (n :: e) n = some 0 := by simp [idxE]
theorem idxE_tail {n m : Nm} (h : n ≠ m) (e : List Nm) : idxE (n :: e) m = (idxE e m).map (· + 1) := by simp [idxE, h]
theorem dvar_head (n : Nm) (e : List Nm) (us : List DT) : dvar (n :: e) n us = .bnd 0 us := by simp [dvar, idxE_head]
theorem dvar_lift {n m : Nm} (h : n ≠ m) (e : List Nm) : dvar (n :: e) m [] = (dvar e m []).lift := by
  unfold dvar
  rw [idxE_tail h]
  cases idxE e m <;> simp [DT.lift, DT.lifts]
theorem db_lift (x : Nm) (e : List Nm) (t : Tm) : x ∉ t.vars → t.db (x :: e) = (t.db e).lift := by
  induction t using Tm.ind with
  | h v n us ih =>
  intro hx
  have hus : Tm.dbs (x :: e) us = DT.lifts (Tm.dbs e us) := by
    rw [Tm.dbs_eq, Tm.dbs_eq, DT.lifts_eq, List.map_map]
    refine List.map_congr_left fun a ha => ih a ha fun h => hx ?_
    rw [Tm.vars, List.mem_append]
    refine .inr ?_
    clear ih hx
    induction us with
    | nil => cases ha
    | cons b us ihu =>
      rw [Tm.varss, List.mem_append]
      simp only [List.mem_cons] at ha
      rcases ha with rfl | ha
      · exact .inl h
      · exact .inr (ihu ha)
  simp only [Tm.db]
  cases v with
  | false => simp [DT.lift, hus]
  | true =>
    have hn : x ≠ n := fun h => hx (by simp [Tm.vars, h])
    simp only [if_true]
    unfold dvar
    rw [idxE_tail hn, hus]
    cases idxE e n <;> simp [DT.lift]
theorem DT.ind {P : DT → Prop} (h1 : ∀ i us, (∀ a ∈ us, P a) → P (.bnd i us)) (h2 : ∀ v n us, (∀ a ∈ us, P a) → P (.fre v n us)) : ∀ t, P t
  | .bnd i us => h1 i us (all us)
  | .fre v n us => h2 v n us (all us)
where all : ∀ us : List DT, ∀ a ∈ us, P a
  | [] => fun a ha => by cases ha
  | b :: us => fun a ha => by
    rw [List.mem_cons] at ha
    exact ha.elim (fun e => e ▸ DT.ind h1 h2 b) (all us a)
theorem DF.ind {P : DF → Prop} (h : ∀ o n us fs, (∀ a ∈ fs, P a) → P (.mk o n us fs)) : ∀ t, P t
  | .mk o n us fs => h o n us fs (all fs)
where all : ∀ us : List DF, ∀ a ∈ us, P a
  | [] => fun a ha => by cases ha
  | b :: us => fun a ha => by
    rw [List.mem_cons] at ha
    exact ha.elim (fun e => e ▸ DF.ind h b) (all us a)
def Closed (σ : Nm → Option DT) : Prop := ∀ n d, σ n = some d → d.lift = d
theorem sub_lift {σ : Nm → Option DT} (hσ : Closed σ) (t : DT) : (t.lift).sub σ = (t.sub σ).lift := by
  induction t using DT.ind with
  | h1 i us ih =>
    simp only [DT.lift, DT.sub, DT.subs_eq, DT.lifts_eq, List.map_map]
    congr 1
    exact List.map_congr_left ih
  | h2 v n us ih =>
    have : DT.subs σ (DT.lifts us) = DT.lifts (DT.subs σ us) := by
      simp only [DT.subs_eq, DT.lifts_eq, List.map_map]
      exact List.map_congr_left ih
    simp only [DT.lift, DT.sub]
    cases v with
    | false => simp [DT.lift, this]
    | true =>
      simp only [if_true]
      cases h : σ n with
      | none => simp [DT.lift, this]
      | some d => simp [hσ n d h]
theorem vars_mem {us : List Tm} {t : Tm} {m : Nm} (ht : t ∈ us) (hm : m ∈ t.vars) : m ∈ Tm.varss us := by
  induction us with
  | nil => cases ht
  | cons b us ihu =>
    rw [Tm.varss, List.mem_append]
    simp only [List.mem_cons] at ht
    rcases ht with rfl | ht
    · exact .inl hm
    · exact .inr (ihu ht)
theorem frees_mem {fs : List Frm} {t : Frm} {m : Nm} (ht : t ∈ fs) (hm : m ∈ t.frees) : m ∈ Frm.freess fs := by
  induction fs with
  | nil => cases ht
  | cons b us ihu =>
    rw [Frm.freess, List.mem_append]
    simp only [List.mem_cons] at ht
    rcases ht with rfl | ht
    · exact .inl hm
    · exact .inr (ihu ht)
theorem oks_mem {us : List Tm} {t : Tm} (h : Tm.oks us = true) (ht : t ∈ us) : t.ok = true := by
  induction us with
  | nil => cases ht
  | cons b us ihu =>
    rw [Tm.oks, Bool.and_eq_true] at h
    simp only [List.mem_cons] at ht
    rcases ht with rfl | ht
    · exact h.1
    · exact ihu h.2 ht
theorem foks_mem {us : List Frm} {t : Frm} (h : Frm.oks us = true) (ht : t ∈ us) : t.ok = true := by
  induction us with
  | nil => cases ht
  | cons b us ihu =>
    rw [Frm.oks, Bool.and_eq_true] at h
    simp only [List.mem_cons] at ht
    rcases ht with rfl | ht
    · exact h.1
    · exact ihu h.2 ht
theorem ok_var {n : Nm} {us : List Tm} (h : (Tm.mk true n us).ok = true) : us = [] ∧ varB n = true := by
  simp only [Tm.ok, if_true, Bool.and_eq_true, List.isEmpty_iff] at h
  exact h
theorem ok_fun {n : Nm} {us : List Tm} (h : (Tm.mk false n us).ok = true) : (funB n = true ∧ us.length ≤ 4) ∧ Tm.oks us = true := by
  simpa [Tm.ok] using h
theorem ok_quant {o : UInt8} {n : Nm} {us : List Tm} {fs : List Frm} (hq : isQ o = true) (h : (Frm.mk o n us fs).ok = true) : us = [] ∧ varB n = true ∧ ∃ g, fs = [g] ∧ g.ok = true := by
  have ho : rowOp o = some (1, 0, 1) := by
    simp only [isQ, Bool.or_eq_true, beq_iff_eq] at hq
    rcases hq with rfl | rfl <;> rfl
  simp only [Frm.ok, ho, kindB, Bool.and_eq_true, beq_iff_eq, decide_eq_true_eq] at h
  obtain ⟨⟨⟨h1, h2⟩, h3⟩, h4, h5⟩ := h
  have hus : us = [] := List.eq_nil_of_length_eq_zero (by omega)
  obtain ⟨g, rfl⟩ : ∃ g, fs = [g] := by
    match fs, h3 with
    | [g], _ => exact ⟨g, rfl⟩
  exact ⟨hus, by simpa using h1, g, rfl, foks_mem h5 (by simp)⟩
theorem ok_parts {o : UInt8} {n : Nm} {us : List Tm} {fs : List Frm} (h : (Frm.mk o n us fs).ok = true) : Tm.oks us = true ∧ Frm.oks fs = true := by
  rw [Frm.ok] at h
  split at h
  · cases h
  · simp only [Bool.and_eq_true] at h
    exact h.2
theorem tm_sub {l : List Sb} {e e' : List Nm} {σ : Nm → Option DT} (t : Tm) : t.ok = true → (∀ m ∈ t.vars, (sv l m).db e' = (dvar e m []).sub σ) → (t.sub l).db e' = (t.db e).sub σ := by
  induction t using Tm.ind with
  | h v n us ih =>
  intro hok hm
  cases v with
  | true =>
    obtain ⟨rfl, _⟩ := ok_var hok
    rw [sub_Vr, hm n (by simp [Tm.vars]), Vr_db]
  | false =>
    have h := (ok_fun hok).2
    simp only [Tm.sub, Tm.db, DT.sub, Bool.false_eq_true, if_false, Tm.subs_eq, Tm.dbs_eq, DT.subs_eq, List.map_map]
    congr 1
    refine List.map_congr_left fun a ha => ih a ha (oks_mem h ha) fun m hma => hm m ?_
    simp only [Tm.vars, Bool.false_eq_true, if_false, List.nil_append]
    exact vars_mem ha hma
theorem tms_sub {l : List Sb} {e e' : List Nm} {σ : Nm → Option DT} {us : List Tm} (hok : Tm.oks us = true) (hm : ∀ m ∈ Tm.varss us, (sv l m).db e' = (dvar e m []).sub σ) : Tm.dbs e' (Tm.subs l us) = DT.subs σ (Tm.dbs e us) := by
  simp only [Tm.subs_eq, Tm.dbs_eq, DT.subs_eq, List.map_map]
  exact List.map_congr_left fun a ha => tm_sub a (oks_mem hok ha) fun m h => hm m (vars_mem ha h)
theorem sv_nil (m : Nm) : sv [] m = Vr m := rfl
theorem tm_sub_nil (t : Tm) : t.sub [] = t := by
  induction t using Tm.ind with
  | h v n us ih =>
  have : Tm.subs [] us = us := by
    rw [Tm.subs_eq]
    exact (List.map_congr_left ih).trans (by simp)
  rw [Tm.sub, this]
  cases v <;> simp
theorem tms_sub_nil (us : List Tm) : Tm.subs [] us = us := by
  rw [Tm.subs_eq]
  exact (List.map_congr_left fun a _ => tm_sub_nil a).trans (by simp)
theorem unb_mem {o : UInt8} {n m : Nm} {l : List Nm} : m ∈ unb o n l ↔ m ∈ l ∧ ¬ (isQ o = true ∧ m = n) := by
  simp only [unb, List.mem_filter, Bool.not_eq_true', Bool.and_eq_false_iff, beq_eq_false_iff_ne]
  cases isQ o <;> simp
theorem frm_env {σ : Nm → Option DT} (hσ : Closed σ) (f : Frm) : ∀ e e' : List Nm, f.ok = true → (∀ m ∈ f.frees, dvar e' m [] = (dvar e m []).sub σ) → f.db e' = (f.db e).sub σ := by
  induction f using Frm.ind with
  | h o n us fs ih =>
  intro e e' hok hm
  have hp := ok_parts hok
  have hus : Tm.dbs e' us = DT.subs σ (Tm.dbs e us) := by
    have := tms_sub (l := []) (e := e) (e' := e') (σ := σ) hp.1 fun m h => by
      rw [sv_nil, Vr_db]
      exact hm m (by rw [Frm.frees, List.mem_append]; exact .inl h)
    rwa [tms_sub_nil] at this
  rw [Frm.db, Frm.db]
  cases hq : isQ o with
  | false =>
    simp only [Bool.false_eq_true, if_false, DF.sub, hus, Frm.dbs_eq, DF.subs_eq, List.map_map]
    congr 1
    refine List.map_congr_left fun a ha => ih a ha e e' (foks_mem hp.2 ha) fun m h => hm m ?_
    rw [Frm.frees, List.mem_append, unb_mem, hq]
    exact .inr ⟨frees_mem ha h, by simp⟩
  | true =>
    simp only [if_true, DF.sub, hus, Frm.dbs_eq, DF.subs_eq, List.map_map]
    congr 1
    refine List.map_congr_left fun a ha => ih a ha _ _ (foks_mem hp.2 ha) fun m h => ?_
    by_cases hmn : n = m
    · subst hmn
      rw [dvar_head, dvar_head]
      simp [DT.sub, DT.subs]
    · rw [dvar_lift hmn, dvar_lift hmn, sub_lift hσ, hm m ?_]
      rw [Frm.frees, List.mem_append, unb_mem]
      exact .inr ⟨frees_mem ha h, fun h => hmn h.2.symm⟩
theorem find_counts {l : List Sb} {n m : Nm} {I : List Nm} (hm : m ∈ I) (hn : n ≠ m) : (Sb.counts l n I).find? (fun o => o.1 == m) = l.find? fun o => o.1 == m := by
  unfold Sb.counts
  induction l with
  | nil => rfl
  | cons o l ih =>
    rw [List.filter_cons]
    by_cases h : o.1 = m
    · have h1 : (!(o.1 == n) && hasB I o.1) = true := by
        rw [h]
        simp only [Bool.and_eq_true, Bool.not_eq_true', beq_eq_false_iff_ne]
        exact ⟨fun e => hn e.symm, hasB_mem.2 hm⟩
      rw [if_pos h1, List.find?_cons_of_pos (by simpa using h), List.find?_cons_of_pos (by simpa using h)]
    · rw [List.find?_cons_of_neg (a := o) (l := l) (by simpa using h)]
      split
      · rw [List.find?_cons_of_neg (by simpa using h), ih]
      · exact ih
theorem find_counts_own {l : List Sb} {n : Nm} {I : List Nm} : (Sb.counts l n I).find? (fun o => o.1 == n) = none := by
  rw [List.find?_eq_none]
  intro o ho
  simp only [Sb.counts, List.mem_filter, Bool.and_eq_true, Bool.not_eq_true', beq_eq_false_iff_ne] at ho
  simpa using ho.2.1
theorem names_mem {c : List Sb} {o : Sb} {m : Nm} (ho : o ∈ c) (hm : m ∈ o.2.vars) : m ∈ Sb.names c := by
  induction c with
  | nil => cases ho
  | cons a c ih =>
    simp only [Sb.names, List.mem_append]
    simp only [List.mem_cons] at ho
    rcases ho with rfl | ho
    · exact .inl (.inl hm)
    · exact .inr (ih ho)
theorem fresh_mem (l : List Nm) : freshN l ∉ l := hasB_not.1 (fresh_not l)
theorem frm_put {σ : Nm → Option DT} (hσ : Closed σ) (f : Frm) : ∀ (l : List Sb) (e e' : List Nm), f.ok = true → (∀ m ∈ f.frees, (sv l m).db e' = (dvar e m []).sub σ) → (f.put l).db e' = (f.db e).sub σ := by
  induction f using Frm.ind with
  | h o n us fs ih =>
  intro l e e' hok hm
  have hp := ok_parts hok
  cases hq : isQ o with
  | false =>
    have hus := tms_sub (l := l) (e := e) (e' := e') (σ := σ) hp.1 fun m h => hm m (by rw [Frm.frees, List.mem_append]; exact .inl h)
    rw [Frm.put]
    simp only [hq, Bool.false_eq_true, if_false, Frm.db, DF.sub, hus, Frm.dbs_eq, DF.subs_eq, Frm.puts_eq, List.map_map]
    congr 1
    refine List.map_congr_left fun a ha => ih a ha l e e' (foks_mem hp.2 ha) fun m h => hm m ?_
    rw [Frm.frees, List.mem_append, unb_mem, hq]
    exact .inr ⟨frees_mem ha h, by simp⟩
  | true =>
    obtain ⟨rfl, _, g, rfl, hg⟩ := ok_quant hq hok
    have hin : ∀ m ∈ g.frees, n ≠ m → (sv l m).db e' = (dvar e m []).sub σ := fun m h hn => hm m (by
      rw [Frm.frees, List.mem_append, unb_mem]
      exact .inr ⟨frees_mem (by simp) h, fun h => hn h.2.symm⟩)
    rw [Frm.put]
    simp only [hq, if_true, show Frm.insideH [g] = g.frees from rfl]
    obtain ⟨c, hc⟩ : ∃ c, Sb.counts l n g.frees = c := ⟨_, rfl⟩
    have hfind : ∀ m ∈ g.frees, n ≠ m → c.find? (fun o => o.1 == m) = l.find? fun o => o.1 == m := fun m h hn => by rw [← hc]; exact find_counts h hn
    have hown : c.find? (fun o => o.1 == n) = none := by rw [← hc]; exact find_counts_own
    rw [hc]
    have hsv : ∀ m ∈ g.frees, n ≠ m → sv c m = sv l m := fun m h hn => by unfold sv; rw [hfind m h hn]
    have step : ∀ (x : Nm) (c' : List Sb), (∀ m ∈ g.frees, n ≠ m → sv c' m = sv l m) → sv c' n = Vr x → (∀ m ∈ g.frees, n ≠ m → x ∉ (sv l m).vars) →
        (Frm.mk o x [] (Frm.puts [g] c')).db e' = ((Frm.mk o n [] [g]).db e).sub σ := by
      intro x c' h1 h2 h3
      simp only [Frm.db, hq, if_true, DF.sub, Tm.dbs, DT.subs, Frm.dbs, DF.subs, Frm.puts]
      congr 2
      refine ih g (by simp) c' _ _ hg fun m h => ?_
      by_cases hn : n = m
      · subst hn
        rw [h2, Vr_db, dvar_head, dvar_head]
        simp [DT.sub, DT.subs]
      · rw [h1 m h hn, db_lift x e' _ (h3 m h hn), hin m h hn, dvar_lift hn, sub_lift hσ]
    have hvars : ∀ x : Nm, (∀ o ∈ c, x ∉ o.2.vars) → ∀ m ∈ g.frees, n ≠ m → x ≠ m → x ∉ (sv l m).vars := by
      intro x hx m h hn hxm
      rw [← hsv m h hn]
      unfold sv
      split
      · rename_i o ho
        exact hx o (List.mem_of_find?_eq_some ho)
      · rw [Vr_vars]
        simpa using hxm
    split
    · rename_i hemp
      have hc0 : c = [] := List.isEmpty_iff.1 hemp
      refine frm_env hσ _ e e' hok fun m h => ?_
      have hmg : m ∈ g.frees ∧ n ≠ m := by
        rw [Frm.frees, List.mem_append, unb_mem] at h
        rcases h with h | h
        · cases h
        · exact ⟨by simpa [Frm.freess] using h.1, fun e => h.2 ⟨hq, e.symm⟩⟩
      have := hin m hmg.1 hmg.2
      rw [← hsv m hmg.1 hmg.2, hc0, sv_nil, Vr_db] at this
      exact this
    · split
      · rename_i hcl
        obtain ⟨x, hx⟩ : ∃ x, freshN (g.frees ++ Sb.names c) = x := ⟨_, rfl⟩
        have hxn := fresh_mem (g.frees ++ Sb.names c)
        rw [hx] at hxn ⊢
        simp only [List.mem_append, not_or] at hxn
        refine step x _ (fun m h hn => ?_) ?_ (fun m h hn => hvars x (fun o ho hv => hxn.2 (names_mem ho hv)) m h hn fun e => hxn.1 (e ▸ h))
        · rw [← hsv m h hn]
          unfold sv
          rw [List.find?_append]
          cases c.find? (fun o => o.1 == m) with
          | some o => rfl
          | none =>
            have : (n == m) = false := by simpa using hn
            simp [List.find?, this]
        · unfold sv
          rw [List.find?_append, hown]
          simp [List.find?]
      · rename_i hcl
        have hcl' : ∀ o ∈ c, n ∉ o.2.vars := by
          simp only [Sb.clash, Bool.not_eq_true, List.any_eq_false] at hcl
          intro o ho
          exact hasB_not.1 (by simpa using hcl o ho)
        refine step n c hsv ?_ (fun m h hn => hvars n hcl' m h hn hn)
        unfold sv
        rw [hown]
def noσ : Nm → Option DT := fun _ => none
end Go.Ly.Tr
end
section
namespace Go.Ly.Tr
mutual
def DT.size : DT → Nat
  | .bnd _ us => DT.sizes us + 1
  | .fre _ _ us => DT.sizes us + 1
def DT.sizes : List DT → Nat
  | [] => 0
  | t :: l => t.size + DT.sizes l
end
mutual
def DF.size : DF → Nat
  | .mk _ _ us fs => DT.sizes us + DF.sizes fs + 1
def DF.sizes : List DF → Nat
  | [] => 0
  | t :: l => t.size + DF.sizes l
end
mutual
def DT.hi : DT → Nat
  | .bnd _ us => DT.his us + 1
  | .fre _ _ us => DT.his us + 1
def DT.his : List DT → Nat
  | [] => 0
  | t :: l => max t.hi (DT.his l)
end
mutual
def DF.hi : DF → Nat
  | .mk _ _ us fs => max (DT.his us) (DF.his fs) + 1
def DF.his : List DF → Nat
  | [] => 0
  | t :: l => max t.hi (DF.his l)
end
mutual
def DT.fr : DT → List Nm
  | .bnd _ us => DT.frs us
  | .fre v n us => (if v then [n] else []) ++ DT.frs us
def DT.frs : List DT → List Nm
  | [] => []
  | t :: l => t.fr ++ DT.frs l
end
mutual
def DF.fr : DF → List Nm
  | .mk _ _ us fs => DT.frs us ++ DF.frs fs
def DF.frs : List DF → List Nm
  | [] => []
  | t :: l => t.fr ++ DF.frs l
end
theorem dvar_size (e : List Nm) (n : Nm) (us : List DT) : (dvar e n us).size = DT.sizes us + 1 := by
  unfold dvar; cases idxE e n <;> rfl
theorem dvar_hi (e : List Nm) (n : Nm) (us : List DT) : (dvar e n us).hi = DT.his us + 1 := by
  unfold dvar; cases idxE e n <;> rfl
mutual
theorem tm_size (e : List Nm) : ∀ t : Tm, (t.db e).size = t.size ∧ (t.db e).hi = t.hi
  | .mk v n us => by
    have h := tms_size e us
    rw [Tm.db, Tm.size, Tm.hi]
    cases v
    · simp only [Bool.false_eq_true, if_false, DT.size, DT.hi]; omega
    · simp only [if_true, dvar_size, dvar_hi]; omega
theorem tms_size (e : List Nm) : ∀ l : List Tm, DT.sizes (Tm.dbs e l) = Tm.size.sizes l ∧ DT.his (Tm.dbs e l) = Tm.his l
  | [] => ⟨rfl, rfl⟩
  | t :: l => by
    have h1 := tm_size e t
    have h2 := tms_size e l
    rw [Tm.dbs, DT.sizes, DT.his, Tm.size.sizes, Tm.his, h1.1, h1.2, h2.1, h2.2]
    exact ⟨rfl, rfl⟩
end
mutual
theorem frm_size : ∀ (f : Frm) (e : List Nm), (f.db e).size = f.size ∧ (f.db e).hi = f.hi
  | .mk o n us fs, e => by
    have h := tms_size e us
    have h1 := frms_size fs e
    have h2 := frms_size fs (n :: e)
    rw [Frm.db, Frm.size, Frm.hi]
    cases isQ o
    · simp only [Bool.false_eq_true, if_false, DF.size, DF.hi, h.1, h.2, h1.1, h1.2, and_self]
    · simp only [if_true, DF.size, DF.hi, h.1, h.2, h2.1, h2.2, and_self]
theorem frms_size : ∀ (l : List Frm) (e : List Nm), DF.sizes (Frm.dbs e l) = Frm.size.sizes l ∧ DF.his (Frm.dbs e l) = Frm.his l
  | [], _ => ⟨rfl, rfl⟩
  | t :: l, e => by
    have h1 := frm_size t e
    have h2 := frms_size l e
    rw [Frm.dbs, DF.sizes, DF.his, Frm.size.sizes, Frm.his, h1.1, h1.2, h2.1, h2.2]
    exact ⟨rfl, rfl⟩
end
def nob (e : List Nm) (m : Nm) : Bool := (idxE e m).isNone
theorem nob_nil (m : Nm) : nob [] m = true := rfl
theorem nob_cons (n : Nm) (e : List Nm) (m : Nm) : nob (n :: e) m = (!(m == n) && nob e m) := by
  unfold nob
  by_cases h : n = m
  · subst h; simp [idxE_head]
  · have h1 : (m == n) = false := by simpa using fun e => h e.symm
    rw [idxE_tail h, h1]
    cases idxE e m <;> rfl
mutual
theorem tm_fr (e : List Nm) : ∀ t : Tm, (t.db e).fr = t.vars.filter (nob e)
  | .mk v n us => by
    have h := tms_fr e us
    rw [Tm.db, Tm.vars]
    cases v
    · simp only [Bool.false_eq_true, if_false, DT.fr, List.nil_append, h]
    · simp only [if_true, List.filter_append, ← h]
      unfold dvar
      cases hi : idxE e n with
      | none => simp [DT.fr, nob, hi]
      | some i => simp [DT.fr, nob, hi]
theorem tms_fr (e : List Nm) : ∀ l : List Tm, DT.frs (Tm.dbs e l) = (Tm.varss l).filter (nob e)
  | [] => rfl
  | t :: l => by rw [Tm.dbs, DT.frs, Tm.varss, List.filter_append, tm_fr e t, tms_fr e l]
end
mutual
theorem frm_fr : ∀ (f : Frm) (e : List Nm), (f.db e).fr = f.frees.filter (nob e)
  | .mk o n us fs, e => by
    have h := tms_fr e us
    have h1 := frms_fr fs e
    have h2 := frms_fr fs (n :: e)
    rw [Frm.db, Frm.frees, List.filter_append, unb, List.filter_filter]
    cases isQ o
    · simp only [Bool.false_eq_true, if_false, DF.fr, h, h1, Bool.false_and, Bool.not_false, Bool.and_true]
    · simp only [if_true, DF.fr, h, h2, Bool.true_and]
      congr 1
      refine List.filter_congr fun m _ => ?_
      rw [nob_cons, Bool.and_comm]
theorem frms_fr : ∀ (l : List Frm) (e : List Nm), DF.frs (Frm.dbs e l) = (Frm.freess l).filter (nob e)
  | [], _ => rfl
  | t :: l, e => by rw [Frm.dbs, DF.frs, Frm.freess, List.filter_append, frm_fr t e, frms_fr l e]
end
theorem nob_all (l : List Nm) : l.filter (nob []) = l := List.filter_eq_self.2 fun m _ => nob_nil m
theorem frm_fr0 (f : Frm) : (f.db []).fr = f.frees := by rw [frm_fr, nob_all]
theorem tm_fr0 (t : Tm) : (t.db []).fr = t.vars := by rw [tm_fr, nob_all]
def sg (l : List Sb) (n : Nm) : Option DT := (l.find? (fun o => o.1 == n)).map fun o => o.2.db []
theorem lift_nil (t : Tm) : (t.db []).lift = t.db [] := by
  induction t using Tm.ind with
  | h v n us ih =>
    have : DT.lifts (Tm.dbs [] us) = Tm.dbs [] us := by
      rw [DT.lifts_eq, Tm.dbs_eq, List.map_map]
      exact List.map_congr_left ih
    rw [Tm.db]
    cases v <;> simp [DT.lift, dvar, idxE, this]
theorem sg_closed (l : List Sb) : Closed (sg l) := by
  intro n d h
  rw [sg, Option.map_eq_some_iff] at h
  obtain ⟨o, _, rfl⟩ := h
  exact lift_nil _
theorem sv_sg (l : List Sb) (m : Nm) : (sv l m).db [] = (dvar [] m []).sub (sg l) := by
  unfold sv
  simp only [dvar, idxE, DT.sub, if_true, sg]
  cases l.find? (fun o => o.1 == m) with
  | none => simp [Vr_db, dvar, idxE, DT.subs]
  | some o => simp
theorem put_db {f : Frm} (h : f.ok = true) (l : List Sb) : (f.put l).db [] = (f.db []).sub (sg l) := frm_put (sg_closed l) f l [] [] h fun m _ => sv_sg l m
mutual
theorem tm_same_iff : ∀ t u : Tm, t.same u = true ↔ t = u
  | .mk v n us, .mk v' n' us' => by
    have h := tms_same_iff us us'
    simp only [Tm.same, Bool.and_eq_true, beq_iff_eq, Tm.mk.injEq, h]
theorem tms_same_iff : ∀ t u : List Tm, Tm.sames t u = true ↔ t = u
  | [], [] => by simp [Tm.sames]
  | a :: l, b :: m => by
    have h1 := tm_same_iff a b
    have h2 := tms_same_iff l m
    simp only [Tm.sames, Bool.and_eq_true, List.cons.injEq, h1, h2]
  | [], _ :: _ => by simp [Tm.sames]
  | _ :: _, [] => by simp [Tm.sames]
end
theorem set_mem {l : List Nm} {x : Nm} : x ∈ setN l ↔ x ∈ l := by
  rw [setN, sortN, List.mem_mergeSort, ← hasB_mem, ← hasB_mem, nubs_has]
theorem set_has (l : List Nm) (x : Nm) : hasB (setN l) x = hasB l x := by
  rw [Bool.eq_iff_iff, hasB_mem, hasB_mem, set_mem]
theorem set_len (l : List Nm) : (setN l).length ≤ l.length := by
  have := nubs_len l
  simp only [setN, sortN, List.length_mergeSort]
  exact this
theorem fresh_num (l : List Nm) : ∃ n, freshN l = xName n ∧ n ≤ l.length + 1 := by
  have : ∀ k n, ∃ m, freshFrom l k n = xName m ∧ m ≤ n + k := by
    intro k
    induction k with
    | zero => intro n; exact ⟨n, rfl, Nat.le_refl _⟩
    | succ k ih =>
      intro n
      rw [freshFrom]
      split
      · obtain ⟨m, h1, h2⟩ := ih (n + 1)
        exact ⟨m, h1, by omega⟩
      · exact ⟨n, rfl, by omega⟩
  obtain ⟨m, h1, h2⟩ := this l.length 1
  exact ⟨m, h1, by omega⟩
theorem dec_digit (u : Nat) : ∀ c ∈ Lib.decDigits u, 48 ≤ c.toNat ∧ c.toNat ≤ 57 := by
  have one : ∀ r < 10, (UInt8.ofNat (48 + r)).toNat = 48 + r := fun r h => by
    rw [UInt8.toNat_ofNat']
    omega
  induction u using Nat.strongRecOn with
  | ind u ih =>
    intro c hc
    rw [Lib.decDigits] at hc
    split at hc
    · rename_i h
      simp only [List.mem_cons, List.not_mem_nil, or_false] at hc
      subst hc
      rw [one u h]; omega
    · rename_i h
      simp only [List.mem_append, List.mem_cons, List.not_mem_nil, or_false] at hc
      rcases hc with hc | rfl
      · exact ih (u / 10) (by omega) c hc
      · rw [one _ (Nat.mod_lt _ (by omega))]; omega
theorem dec_size (k : Nat) : ∀ u, u < 10 ^ (k + 1) → (Lib.decDigits u).length ≤ k + 1 := by
  induction k with
  | zero =>
    intro u h
    rw [Lib.decDigits, dif_pos (by simpa using h)]
    simp
  | succ k ih =>
    intro u h
    rw [Lib.decDigits]
    split
    · simp
    · have := ih (u / 10) (by rw [Nat.pow_succ] at h; omega)
      simp only [List.length_append, List.length_cons, List.length_nil]
      omega
theorem x_var {n : Nat} (h : n < 10000000000) : varB (xName n) = true := by
  have h1 := dec_size 9 n (by simpa using h)
  have h2 := dec_digit n
  rw [varB, xName, nameB]
  have h3 : hasB words (120 :: Lib.decDigits n) = false := by simp [hasB, words]
  rw [h3]
  simp only [Bool.and_eq_true, decide_eq_true_eq, Bool.not_eq_true', List.any_eq_false, Bool.not_false, Bool.not_eq_false]
  refine ⟨by omega, by decide, trivial, fun c hc => ?_⟩
  have := h2 c hc
  have hg : (std.le 48 (opI c) && std.le (opI c) 57) = true := by simp [std, opI]; omega
  simpa using hg
theorem fresh_var {l : List Nm} (h : l.length ≤ 1000000000) : varB (freshN l) = true := by
  obtain ⟨n, h1, h2⟩ := fresh_num l
  rw [h1]
  exact x_var (by omega)
theorem sub_ok {l : List Sb} (hl : ∀ o ∈ l, o.2.ok = true) (t : Tm) : t.ok = true → (t.sub l).ok = true := by
  induction t using Tm.ind with
  | h v n us ih =>
  intro h
  cases v with
  | true =>
    obtain ⟨rfl, hn⟩ := ok_var h
    rw [sub_Vr]
    unfold sv
    split
    · rename_i o ho
      exact hl o (List.mem_of_find?_eq_some ho)
    · exact h
  | false =>
    have hk := ok_fun h
    have hs : Tm.oks (Tm.subs l us) = true := by
      have hk := hk.2
      clear h
      rename_i hk0
      clear hk0
      induction us with
      | nil => rfl
      | cons a us ihu =>
        simp only [Tm.oks, Bool.and_eq_true, Tm.subs] at hk ⊢
        exact ⟨ih a (by simp) hk.1, ihu (fun b hb => ih b (by simp [hb])) hk.2⟩
    have hlen : (Tm.subs l us).length = us.length := by rw [Tm.subs_eq, List.length_map]
    simp only [Tm.sub, Tm.ok, Bool.false_eq_true, if_false, Bool.and_eq_true, decide_eq_true_eq, hlen]
    exact ⟨hk.1, hs⟩
theorem subs_ok {l : List Sb} (hl : ∀ o ∈ l, o.2.ok = true) : ∀ us : List Tm, Tm.oks us = true → Tm.oks (Tm.subs l us) = true
  | [], _ => rfl
  | a :: us, h => by
    simp only [Tm.oks, Bool.and_eq_true, Tm.subs] at h ⊢
    exact ⟨sub_ok hl a h.1, subs_ok hl us h.2⟩
theorem ok_put {o : UInt8} {n : Nm} {us us' : List Tm} {fs fs' : List Frm} (h : (Frm.mk o n us fs).ok = true) (h1 : us'.length = us.length) (h2 : fs'.length = fs.length) (h3 : Tm.oks us' = true) (h4 : Frm.oks fs' = true) : (Frm.mk o n us' fs').ok = true := by
  rw [Frm.ok] at h ⊢
  split at h
  · cases h
  · rename_i k a s hr
    simp only [Bool.and_eq_true] at h ⊢
    rw [h1, h2]
    exact ⟨h.1, h3, h4⟩
theorem ok_q {o : UInt8} {n x : Nm} {g g' : Frm} (hq : isQ o = true) (h : (Frm.mk o n [] [g]).ok = true) (hx : varB x = true) (hg : g'.ok = true) : (Frm.mk o x [] [g']).ok = true := by
  have ho : rowOp o = some (1, 0, 1) := by
    simp only [isQ, Bool.or_eq_true, beq_iff_eq] at hq
    rcases hq with rfl | rfl <;> rfl
  rw [Frm.ok, ho]
  simp [kindB, hx, Tm.oks, Frm.oks, hg]
theorem put_right (f : Frm) : ∀ l : List Sb, f.ok = true → (∀ o ∈ l, o.2.ok = true) → Sb.sz l + 3 * f.size ≤ 1000000000 → (f.put l).ok = true := by
  induction f using Frm.ind with
  | h o n us fs ih =>
  intro l hok hl hs
  have hp := ok_parts hok
  have hsz : (Frm.mk o n us fs).size = Tm.size.sizes us + Frm.size.sizes fs + 1 := rfl
  rw [hsz] at hs
  rw [Frm.put]
  cases hq : isQ o with
  | false =>
    simp only [Bool.false_eq_true, if_false]
    refine ok_put hok (by rw [Tm.subs_eq, List.length_map]) (by rw [Frm.puts_eq, List.length_map]) (subs_ok hl us hp.1) ?_
    have hp := hp.2
    have : ∀ gs : List Frm, (∀ a ∈ gs, (a.put l).ok = true) → Frm.oks (Frm.puts gs l) = true := by
      intro gs
      induction gs with
      | nil => intro _; rfl
      | cons a gs ihg =>
        intro h
        simp only [Frm.puts, Frm.oks, Bool.and_eq_true]
        exact ⟨h a (by simp), ihg fun b hb => h b (by simp [hb])⟩
    exact this fs fun a ha => ih a ha l (foks_mem hp ha) hl (by have := Frm.size_mem ha; omega)
  | true =>
    obtain ⟨rfl, hn, g, rfl, hg⟩ := ok_quant hq hok
    simp only [if_true, show Frm.insideH [g] = g.frees from rfl]
    have hc : ∀ o ∈ Sb.counts l n g.frees, o.2.ok = true := fun o ho => hl o (List.mem_filter.1 ho).1
    have hcs := Sb.sz_counts l n g.frees
    have hgs : (Frm.mk o n [] [g]).size = g.size + 1 := by simp [Frm.size, Frm.size.sizes, Tm.size.sizes]
    rw [← hsz, hgs] at hs
    generalize Sb.counts l n g.frees = c at *
    split
    · exact hok
    · have hfl := frees_len g
      have hnl := Sb.names_len c
      have hx : varB (freshN (g.frees ++ Sb.names c)) = true := fresh_var (by rw [List.length_append]; omega)
      split
      · simp only [Frm.puts]
        refine ok_q hq hok hx (ih g (by simp) _ hg (fun o ho => ?_) ?_)
        · simp only [List.mem_append, List.mem_singleton] at ho
          rcases ho with ho | rfl
          · exact hc o ho
          · simp [Tm.ok, hx]
        · rw [Sb.sz_app]
          simp only [Sb.sz, Tm.size, Tm.size.sizes]
          omega
      · simp only [Frm.puts]
        exact ok_q hq hok hn (ih g (by simp) _ hg hc (by omega))
theorem right_iff {f : Frm} : f.right = true ↔ f.size ≤ 400 ∧ f.hi ≤ 40 ∧ f.ok = true := by
  simp only [Frm.right, fitsB, Bool.and_eq_true, decide_eq_true_eq, and_assoc]
def nrm (f : Frm) : Frm := f.norm (setN f.frees) []
end Go.Ly.Tr
end
section
namespace Go.Ly.Tr
theorem puts_zero {f : Frm} {l : List Sb} (h : (putsS f l).2 = 0) : f.right = true ∧ argsOK [] l = true ∧ l.any (bigB (setN f.frees)) = false ∧ (f.put l).size ≤ 400 ∧ (f.put l).hi ≤ 40 ∧ putsS f l = (f.put l, 0) := by
  unfold putsS at h ⊢
  cases h1 : f.right with
  | false => rw [h1] at h; simp at h
  | true =>
  cases h2 : argsOK [] l with
  | false => rw [h1, h2] at h; simp at h
  | true =>
  cases h3 : l.any (bigB (setN f.frees)) with
  | true => rw [h1, h2, h3] at h; simp at h
  | false =>
  rw [h1, h2, h3] at h
  simp only [Bool.not_true, Bool.false_eq_true, if_false] at h ⊢
  split at h
  · cases h
  · rename_i h4
    simp only [Bool.or_eq_true, decide_eq_true_eq, not_or] at h4
    refine ⟨trivial, trivial, trivial, by omega, by omega, ?_⟩
    rw [if_neg (by simp only [Bool.or_eq_true, decide_eq_true_eq]; omega)]
theorem args_ok : ∀ {l d : List Sb}, argsOK d l = true → ∀ o ∈ l, varB o.1 = true ∧ o.2.ok = true
  | a :: l, d, h, o, ho => by
    rw [argsOK] at h
    simp only [Bool.and_eq_true] at h
    simp only [List.mem_cons] at ho
    rcases ho with rfl | ho
    · exact h.1.1
    · exact args_ok h.2 o ho
def apartB : Frm → List Nm → Bool
  | .mk o n _ fs, l => if isQ o then !hasB l n && aparts fs (l ++ [n]) else aparts fs l
where aparts : List Frm → List Nm → Bool
  | [], _ => true
  | f :: fs, l => apartB f l && aparts fs l
end Go.Ly.Tr
end
section
namespace Go.Ly.Tr
set_option maxRecDepth 20000
mutual
theorem Tm.size_wt : ∀ t : Tm, t.size ≤ t.wt
  | .mk v n us => by
    have := Tm.sizes_wts us
    rw [Tm.size, Tm.wt]
    omega
theorem Tm.sizes_wts : ∀ l : List Tm, Tm.size.sizes l ≤ Tm.wts l
  | [] => Nat.le_refl _
  | t :: l => by
    have h1 := Tm.size_wt t
    have h2 := Tm.sizes_wts l
    rw [Tm.size.sizes, Tm.wts]
    omega
end
mutual
theorem Frm.size_wt : ∀ t : Frm, t.size ≤ t.wt
  | .mk o n us fs => by
    have h1 := Tm.sizes_wts us
    have h2 := Frm.sizes_wts fs
    rw [Frm.size, Frm.wt]
    omega
theorem Frm.sizes_wts : ∀ l : List Frm, Frm.size.sizes l ≤ Frm.wts l
  | [] => Nat.le_refl _
  | t :: l => by
    have h1 := Frm.size_wt t
    have h2 := Frm.sizes_wts l
    rw [Frm.size.sizes, Frm.wts]
    omega
end
theorem small_wts {l : List Frm} (h : smallB l = true) : Frm.wts l ≤ 500 := by
  have h1 : Frm.szs l 500 0 ≤ 500 := by simpa [smallB] using h
  have h2 := szs_eq l 500 0 h1
  omega
theorem few_wt {l : List Sb} (h : fewB l = true) {o : Sb} (ho : o ∈ l) : o.2.wt ≤ 99 ∧ o.1.length ≤ 100 ∧ l.length ≤ 6 := by
  simp only [fewB, Bool.and_eq_true, decide_eq_true_eq, List.all_eq_true] at h
  have h1 := h.2 o ho
  simp only [few1, Bool.and_eq_true, decide_eq_true_eq] at h1
  have h2 := szf_eq _ 100 h1.2
  have h3 : (Frm.mk 0 [] [o.2] []).wt = 1 + o.2.wt := by simp only [Frm.wt, Tm.wts, Frm.wts, List.length_nil]; omega
  omega
theorem small_one {f : Frm} (h : smallB [f] = true) : f.size ≤ 500 := by
  have := small_wts h
  have := Frm.size_wt f
  simp only [Frm.wts] at *
  omega
theorem few_size {l : List Sb} (h : fewB l = true) {o : Sb} (ho : o ∈ l) : o.2.size ≤ 99 := by
  have := few_wt h ho
  have := Tm.size_wt o.2
  omega
end Go.Ly.Tr
end
section
namespace Go.Proofs.YthihgffbljnbcaaGreatDoor
open Go.Ly Go.Ly.Tr
mutual
theorem bulk_eq {H : Type} : ∀ d : DataW H, Rows.uptoBulk d = bulkW d
  | .lit (.string _) => rfl
  | .lit (.bool _) => rfl
  | .lit (.int _ _) => rfl
  | .lit (.float .f32 _) => rfl
  | .lit (.float .f64 _) => rfl
  | .lit .nil => rfl
  | .nil => rfl
  | .ptr d => by rw [Rows.uptoBulk, bulkW, bulk_eq d]
  | .slice a b => by rw [Rows.uptoBulk, bulkW, bulks_eq a, bulks_eq b]
  | .agg a => by rw [Rows.uptoBulk, bulkW, bulks_eq a]
  | .iface _ d => by rw [Rows.uptoBulk, bulkW, bulk_eq d]
  | .map e => by rw [Rows.uptoBulk, bulkW, bulke_eq e]
  | .held _ => rfl
theorem bulks_eq {H : Type} : ∀ l : List (DataW H), Rows.uptoBulkAll l = bulkWs l
  | [] => rfl
  | d :: r => by rw [Rows.uptoBulkAll, bulkWs, bulk_eq d, bulks_eq r]
theorem bulke_eq {H : Type} : ∀ l : List (Lit × DataW H), Rows.uptoBulkEntries l = bulkWe l
  | [] => rfl
  | x :: r => by rw [Rows.uptoBulkEntries, bulkWe, bulk1_eq x, bulke_eq r]
theorem bulk1_eq {H : Type} : ∀ x : Lit × DataW H, Rows.uptoBulkEntry x = bulkW1 x
  | (.string _, d) => by rw [Rows.uptoBulkEntry, bulkW1, bulk_eq d]
  | (.bool _, d) => by rw [Rows.uptoBulkEntry, bulkW1, bulk_eq d] <;> simp
  | (.int _ _, d) => by rw [Rows.uptoBulkEntry, bulkW1, bulk_eq d] <;> simp
  | (.float .f32 _, d) => by rw [Rows.uptoBulkEntry, bulkW1, bulk_eq d] <;> simp
  | (.float .f64 _, d) => by rw [Rows.uptoBulkEntry, bulkW1, bulk_eq d] <;> simp
  | (.nil, d) => by rw [Rows.uptoBulkEntry, bulkW1, bulk_eq d] <;> simp
end
theorem own : ownKnob Tryz.prog.godebug = none := by kernel_rfl
theorem gTab : Tryz.prog.globalNamed "internal/strconv.uint64pow10" = some 0 := by kernel_rfl
theorem gTabType : (Tryz.prog.globals[0]?).map (·.type) = some 177 := by kernel_rfl
theorem cells177 : Tryz.prog.cellsOf 177 = 20 := by kernel_rfl
theorem cells161 : Tryz.prog.cellsOf 161 = 1 := by kernel_rfl
theorem u177 : Tryz.prog.underlying 177 = some (.array 20 161) := by kernel_rfl
theorem u161 : Tryz.prog.underlying 161 = some (.int .u64) := by kernel_rfl
def laids {H : Type} : List (String × DataW H) := [("math/bits.deBruijn32tab", Rows.laid_math_bits_deBruijn32tab), ("math/bits.deBruijn64tab", Rows.laid_math_bits_deBruijn64tab), ("internal/strconv.uint64pow10", Rows.laid_internal_strconv_uint64pow10)]
theorem table {W : World} (h : laidMetH Tryz.prog laids W) : Lib.TabIs Tryz.prog W "internal/strconv.uint64pow10" .u64 Lib.pow10Tab := by
  have h' : laidMet Tryz.prog laids W := h
  exact Lib.tabIs_of_head (rest := []) gTab gTabType u177 u161 cells161 cells177 (laidMet.tail (laidMet.tail h'))
theorem glob {W : World} (h : laidMetH Tryz.prog laids W) : 0 < W.heap.size ∧ ∀ p ∈ E.gl, ∃ T f, W.heap[p.1]? = some (.cells p.2.toArray T f) := by
  have ht := table h
  unfold Lib.TabIs World.var? at ht
  rw [gTab, Option.bind_some] at ht
  split at ht
  · rename_i cs T f hh
    cases ht
    refine ⟨(Array.getElem?_eq_some_iff.1 hh).1, fun p hp => ?_⟩
    have : p = (0, Lib.pow10Tab.map fun z => Value.int .u64 z) := by simpa [E] using hp
    subst this
    exact ⟨T, f, hh⟩
  · cases ht
def Ts : List TypeId := [25, 30, 34, 33, 23, 22, 44, 9, 5, 4]
theorem okTs_all : okTs E.P Ts = true := by kernel_rfl
def lay (h : Array Obj) (b : Nat) (cs : List Value) : Array Obj :=
  h.modify b fun
    | .cells _ t frozen => .cells cs.toArray t frozen
    | o => o
def tab32 : List Int := [0, 1, 28, 2, 29, 14, 24, 3, 30, 22, 20, 15, 25, 17, 4, 8, 31, 27, 13, 23, 21, 19, 16, 7, 26, 12, 18, 6, 11, 5, 10, 9]
def tab64 : List Int := [0, 1, 56, 2, 57, 49, 28, 3, 61, 58, 42, 50, 38, 29, 17, 4, 62, 47, 59, 36, 45, 43, 51, 22, 53, 39, 33, 30, 24, 18, 12, 5, 63, 55, 48, 27, 60, 41, 37, 16, 46, 35, 44, 21, 52, 32, 23, 11, 54, 26, 40, 15, 34, 20, 31, 10, 25, 14, 19, 9, 13, 8, 7, 6]
noncomputable def laidWorld (os : Os) : World :=
  { World.holding Tryz.prog os ⟨#[], #[], []⟩ with heap := lay (lay (lay (World.holding Tryz.prog os ⟨#[], #[], []⟩).heap 0 (Lib.pow10Tab.map fun z => .int .u64 z)) 1 (tab32.map fun z => .int .u8 z)) 2 (tab64.map fun z => .int .u8 z) }
theorem laid_met (os : Os) (args : Array Value) : laidMet Tryz.prog laids ((laidWorld os).forCall (fun _ _ => 0) ⟨#[], args, []⟩).memory :=
  laidMet_of_run' 8 (by kernel_rfl) (by kernel_rfl)
theorem bulk_of {H : Type} {ds gs : List (DataW H)} (hk : Rows.uptoSmall H (ds ++ gs) = true) : bulkWs ds ≤ 1048576 := by
  have h1 : Rows.uptoBulkAll (ds ++ gs) ≤ 1048576 := by simpa [Rows.uptoSmall] using hk
  rw [bulks_eq] at h1
  have h2 : ∀ a b : List (DataW H), bulkWs (a ++ b) = bulkWs a + bulkWs b := by
    intro a b
    induction a with
    | nil => simp [bulkWs]
    | cons x a ih => simp only [List.cons_append, bulkWs, ih]; omega
  rw [h2] at h1
  omega
end Go.Proofs.YthihgffbljnbcaaGreatDoor
end
