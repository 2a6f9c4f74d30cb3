/- Part 4 of a proof: a layer that walks through Go code by evaluation, and contracts of functions; no condition. -/
import Derived.Test.YthihgffbljnbcaaGreatDoorQ2
import Derived.Shelf.LaysM
import Derived.Shelf.Strconv.Itoa3
import Derived.Shelf.Sort.Plain
import Derived.Shelf.Slices.In.SortNone
import Derived.Test.YthihgffbljnbcaaGreatDoorProg
import Derived.KernelRfl
import Derived.Lib.ItoaNum
set_option linter.all false
section
namespace Go.Ly.Tr
set_option maxRecDepth 4000
mutual
def Frm.hi : Frm → Nat
  | .mk _ _ us fs => max (Tm.his us) (Frm.his fs) + 1
def Frm.his : List Frm → Nat
  | [] => 0
  | t :: ts => max t.hi (Frm.his ts)
end
theorem Frm.his_app : ∀ a b : List Frm, Frm.his (a ++ b) = max (Frm.his a) (Frm.his b)
  | [], b => by simp [Frm.his]
  | t :: a, b => by simp only [List.cons_append, Frm.his, Frm.his_app a b]; omega
theorem Frm.sizes_app : ∀ a b : List Frm, Frm.size.sizes (a ++ b) = Frm.size.sizes a + Frm.size.sizes b
  | [], b => by simp [Frm.size.sizes]
  | t :: a, b => by simp only [List.cons_append, Frm.size.sizes, Frm.sizes_app a b]; omega
theorem Frm.hi_le (f : Frm) : f.hi ≤ f.size := by
  induction f using Frm.ind with
  | h o n us fs ih =>
    simp only [Frm.hi, Frm.size]
    have h1 := (Go.Ly.Tr.hi_le _).2 us (Nat.le_refl _)
    have : ∀ l : List Frm, (∀ a ∈ l, a.hi ≤ a.size) → Frm.his l ≤ Frm.size.sizes l := by
      intro l
      induction l with
      | nil => intro _; exact Nat.le_refl _
      | cons a l ihl =>
        intro h
        have g1 := h a (by simp)
        have g2 := ihl fun b hb => h b (by simp [hb])
        simp only [Frm.his, Frm.size.sizes]
        omega
    have := this fs ih
    omega
theorem Frm.his_le : ∀ l : List Frm, Frm.his l ≤ Frm.size.sizes l
  | [] => Nat.le_refl _
  | a :: l => by
    have := Frm.hi_le a
    have := Frm.his_le l
    simp only [Frm.his, Frm.size.sizes]
    omega
def mxI (a b : Nat) : Int := (max a b : Nat)
theorem depth_ok (f : Frm) : f.size ≤ 1000000 → Pure E 64 [.d .old f.d] (.d .top (.int .i64 f.hi)) := by
  induction f using Frm.ind with
  | h o n us fs ih =>
  intro hs
  simp only [Frm.d]
  have hs' : Tm.size.sizes us + Frm.size.sizes fs + 1 ≤ 1000000 := hs
  have hlen := Frm.len_size fs
  have h1 := (Go.Ly.Tr.hi_le _).2 us (Nat.le_refl _)
  have h2 := Frm.his_le fs
  refine pure_by has64 ?_
  generalize hp : std = p
  (generalize cq0 : Frm.ds = cy0, cq1 : Frm.hi = cy1, cq2 : Tm.ds = cy2, cq3 : opI = cy3; cbv <;> subst cq0 cq1 cq2 cq3)
  refine callA.pure (high_ok us (by omega)) rfl ?_
  (generalize cq0 : Frm.ds = cy0, cq1 : Frm.hi = cy1, cq2 : Tm.ds = cy2, cq3 : Tm.his = cy3, cq4 : opI = cy4; cbv <;> subst cq0 cq1 cq2 cq3 cq4)
  subst hp
  refine loopA_list fs (fun d r => mkF 23 [(1, .ptr 0 0), (3, .d .top (.int .i64 (mxI (Tm.his us) (Frm.his d)))), (10, .d .old (.row 4 (Frm.ds fs))), (11, .d .top (.int .i64 (std.dlen (Frm.ds fs)))), (12, .d .top (.int .i64 (std.dlen (Frm.ds d))))])
    (fun d r => [.bx [.d .old (.int .u8 (opI o)), .d .old (.str n), .d .old (.row 3 (Tm.ds us)), .d .old (.row 4 (Frm.ds fs))]]) (fun _ _ => ()) ?_ rfl (fun _ _ => rfl) ?_ ?_
  · generalize hp : std = p
    (generalize cq0 : Frm.ds = cy0, cq1 : Frm.his = cy1, cq2 : Tm.ds = cy2, cq3 : Tm.his = cy3, cq4 : mxI = cy4, cq5 : opI = cy5; cbv <;> subst cq0 cq1 cq2 cq3 cq4 cq5)
    subst hp
    simp [std, mxI, Frm.his, Frm.ds]
  · generalize hp : std = p
    (generalize cq0 : Frm.ds = cy0, cq1 : Frm.hi = cy1, cq2 : Frm.his = cy2, cq3 : Tm.ds = cy3, cq4 : Tm.his = cy4, cq5 : mxI = cy5, cq6 : opI = cy6; cbv <;> subst cq0 cq1 cq2 cq3 cq4 cq5 cq6)
    simp only [end_ltF hp]
    (generalize cq0 : Frm.ds = cy0, cq1 : Frm.hi = cy1, cq2 : Frm.his = cy2, cq3 : Tm.ds = cy3, cq4 : Tm.his = cy4, cq5 : mxI = cy5, cq6 : opI = cy6; cbv <;> subst cq0 cq1 cq2 cq3 cq4 cq5 cq6)
    subst hp
    simp [std, mxI, Frm.hi]
    omega
  · intro d e r d' hes hd'
    have hm : e ∈ fs := by rw [hes]; simp
    have hsz := Frm.size_mem hm
    have hok := ih e hm (by omega)
    obtain ⟨o', n', us', fs'⟩ := e
    simp only [Frm.d] at hok
    generalize hp : std = p
    (generalize cq0 : Frm.ds = cy0, cq1 : Frm.hi = cy1, cq2 : Frm.his = cy2, cq3 : Tm.ds = cy3, cq4 : Tm.his = cy4, cq5 : mxI = cy5, cq6 : opI = cy6; cbv <;> subst cq0 cq1 cq2 cq3 cq4 cq5 cq6)
    simp only [at_ltF hp hes]
    (generalize cq0 : Frm.ds = cy0, cq1 : Frm.hi = cy1, cq2 : Frm.his = cy2, cq3 : Tm.ds = cy3, cq4 : Tm.his = cy4, cq5 : mxI = cy5, cq6 : opI = cy6; cbv <;> subst cq0 cq1 cq2 cq3 cq4 cq5 cq6)
    refine ⟨_, at_getF hp hes, ?_⟩
    (generalize cq0 : Frm.ds = cy0, cq1 : Frm.hi = cy1, cq2 : Frm.his = cy2, cq3 : Tm.ds = cy3, cq4 : Tm.his = cy4, cq5 : mxI = cy5, cq6 : opI = cy6; cbv <;> subst cq0 cq1 cq2 cq3 cq4 cq5 cq6)
    refine callA.pure hok rfl ?_
    (generalize cq0 : Frm.ds = cy0, cq1 : Frm.hi = cy1, cq2 : Frm.his = cy2, cq3 : Tm.ds = cy3, cq4 : Tm.his = cy4, cq5 : mxI = cy5, cq6 : opI = cy6; cbv <;> subst cq0 cq1 cq2 cq3 cq4 cq5 cq6)
    subst hp hd'
    have hdl : d.length + (r.length + 1) = fs.length := by rw [hes]; simp
    simp [std, mxI, Frm.his_app, Frm.his, Frm.ds_len]
    omega
end Go.Ly.Tr
end
section
namespace Go.Ly.Tr
set_option maxRecDepth 4000
def yb {E : Env} (O : Outer E) (i : Nat) : List (List AV) → O.Ω → (Bool → O.Ω → Prop) → Prop
  | [], ω, K => K true ω
  | x :: xs, ω, K => O.call i x ω fun r ω' => (r = .d .top (.bool true) ∧ yb O i xs ω' K) ∨ (r = .d .top (.bool false) ∧ K false ω')
theorem yb_app {E : Env} {O : Outer E} {i : Nat} : ∀ (a b : List (List AV)) (ω : O.Ω) (K : Bool → O.Ω → Prop), yb O i (a ++ b) ω K → yb O i a ω fun q ω' => (q = true ∧ yb O i b ω' K) ∨ (q = false ∧ K false ω')
  | [], b, ω, K, h => .inl ⟨rfl, h⟩
  | x :: a, b, ω, K, h => O.mono h fun r ω' hr => by
    rcases hr with ⟨h1, h2⟩ | ⟨h1, h2⟩
    · exact .inl ⟨h1, yb_app a b ω' K h2⟩
    · exact .inr ⟨h1, .inr ⟨rfl, h2⟩⟩
theorem yb_ys {E : Env} {O : Outer E} {i : Nat} : ∀ (a : List (List AV)) (ω : O.Ω) (K : O.Ω → Prop), ys O i a ω K → yb O i a ω fun _ ω' => K ω'
  | [], ω, K, h => h
  | x :: a, ω, K, h => O.mono h fun r ω' hr => by
    rcases hr with ⟨h1, h2⟩ | ⟨h1, h2⟩
    · exact .inl ⟨h1, yb_ys a ω' K h2⟩
    · exact .inr ⟨h1, h2⟩
mutual
def Frm.parts : Frm → List Frm
  | .mk o n us fs => .mk o n us fs :: Frm.partss fs
def Frm.partss : List Frm → List Frm
  | [] => []
  | f :: fs => f.parts ++ Frm.partss fs
end
def Frm.items (l : List Frm) : List (List AV) := l.map fun f => [.d .old f.d]
theorem Frm.items_app (a b : List Frm) : Frm.items (a ++ b) = Frm.items a ++ Frm.items b := by simp [Frm.items]
theorem every_ok {O : Outer E} {i : Nat} (f : Frm) : f.size ≤ 1000000 → ∀ (ω : O.Ω) (K : Bool → O.Ω → Prop), yb O i (Frm.items f.parts) ω K → Fun E O 115 [.d .old f.d, .ext i] [] ω fun r _ ω' => ∃ b, r = .d .top (.bool b) ∧ K b ω' := by
  induction f using Frm.ind with
  | h o n us fs ih =>
  intro hs ω K hy
  rw [Frm.parts, Frm.items, List.map_cons, yb] at hy
  have hs' : Tm.size.sizes us + Frm.size.sizes fs + 1 ≤ 1000000 := hs
  have hlen := Frm.len_size fs
  refine fun_by has115 ?_
  simp only [Frm.d] at hy ⊢
  generalize hp : std = p
  (generalize cq0 : Frm.ds = cy0, cq1 : Tm.ds = cy1, cq2 : opI = cy2; cbv <;> subst cq0 cq1 cq2)
  refine callA.ext rfl (O.mono hy fun r ω' hr => ?_)
  rcases hr with ⟨rfl, hr⟩ | ⟨rfl, hr⟩
  rotate_left
  · (generalize cq0 : Frm.ds = cy0, cq1 : Tm.ds = cy1, cq2 : opI = cy2; cbv <;> subst cq0 cq1 cq2)
    simp only [not_f hp]
    (generalize cq0 : Frm.ds = cy0, cq1 : Tm.ds = cy1, cq2 : opI = cy2; cbv <;> subst cq0 cq1 cq2)
    exact ⟨false, rfl, hr⟩
  have hr' : yb O i (Frm.items (Frm.partss fs)) ω' K := hr
  clear hr hy
  (generalize cq0 : Frm.ds = cy0, cq1 : Tm.ds = cy1, cq2 : opI = cy2; cbv <;> subst cq0 cq1 cq2)
  simp only [not_t hp]
  (generalize cq0 : Frm.ds = cy0, cq1 : Tm.ds = cy1, cq2 : opI = cy2; cbv <;> subst cq0 cq1 cq2)
  subst hp
  refine loopA_inv (ι := List Frm × List Frm × O.Ω) (fun j => fs = j.1 ++ j.2.1 ∧ yb O i (Frm.items (Frm.partss j.2.1)) j.2.2 K) (fun j => j.2.1.length)
    (fun j => mkF 23 [(1, .ext i), (2, .ptr 0 0), (12, .d .old (.row 4 (Frm.ds fs))), (13, .d .top (.int .i64 (std.dlen (Frm.ds fs)))), (14, .d .top (.int .i64 (std.dlen (Frm.ds j.1))))])
    (fun j => [.bx [.d .old (.int .u8 (opI o)), .d .old (.str n), .d .old (.row 3 (Tm.ds us)), .d .old (.row 4 (Frm.ds fs))]]) (fun j => j.2.2) ([], fs, ω') ⟨rfl, hr'⟩ ?_ rfl (fun _ => rfl) ?_
  · generalize hp : std = p
    (generalize cq0 : Frm.ds = cy0, cq1 : Tm.ds = cy1, cq2 : opI = cy2; cbv <;> subst cq0 cq1 cq2)
    subst hp
    simp [std, Frm.ds]
  · rintro ⟨d, r, ω1⟩ ⟨hes, hyr⟩
    simp only at hes hyr ⊢
    cases r with
    | nil =>
      rw [List.append_nil] at hes
      subst hes
      generalize hp : std = p
      (generalize cq0 : Frm.ds = cy0, cq1 : Frm.items = cy1, cq2 : Frm.partss = cy2, cq3 : Tm.ds = cy3, cq4 : opI = cy4; cbv <;> subst cq0 cq1 cq2 cq3 cq4)
      simp only [end_ltF hp]
      (generalize cq0 : Frm.ds = cy0, cq1 : Frm.items = cy1, cq2 : Frm.partss = cy2, cq3 : Tm.ds = cy3, cq4 : opI = cy4; cbv <;> subst cq0 cq1 cq2 cq3 cq4)
      exact ⟨true, rfl, hyr⟩
    | cons e r =>
      have hm : e ∈ fs := by rw [hes]; simp
      have hsz := Frm.size_mem hm
      rw [Frm.partss, Frm.items_app] at hyr
      have hok := ih e hm (by omega) ω1 _ (yb_app _ _ _ _ hyr)
      obtain ⟨o', n', us', fs'⟩ := e
      simp only [Frm.d] at hok
      generalize hp : std = p
      (generalize cq0 : Frm.ds = cy0, cq1 : Frm.items = cy1, cq2 : Frm.partss = cy2, cq3 : Tm.ds = cy3, cq4 : opI = cy4; cbv <;> subst cq0 cq1 cq2 cq3 cq4)
      simp only [at_ltF hp hes]
      (generalize cq0 : Frm.ds = cy0, cq1 : Frm.items = cy1, cq2 : Frm.partss = cy2, cq3 : Tm.ds = cy3, cq4 : opI = cy4; cbv <;> subst cq0 cq1 cq2 cq3 cq4)
      refine ⟨_, at_getF hp hes, ?_⟩
      (generalize cq0 : Frm.ds = cy0, cq1 : Frm.items = cy1, cq2 : Frm.partss = cy2, cq3 : Tm.ds = cy3, cq4 : opI = cy4; cbv <;> subst cq0 cq1 cq2 cq3 cq4)
      refine callA.outer [] rfl rfl (Fun.mono hok fun q _ ω2 hq => ?_)
      obtain ⟨b, rfl, hb⟩ := hq
      rcases hb with ⟨rfl, hb⟩ | ⟨rfl, hb⟩
      · (generalize cq0 : Frm.ds = cy0, cq1 : Frm.items = cy1, cq2 : Frm.partss = cy2, cq3 : Tm.ds = cy3, cq4 : opI = cy4; cbv <;> subst cq0 cq1 cq2 cq3 cq4)
        simp only [not_t hp]
        (generalize cq0 : Frm.ds = cy0, cq1 : Frm.items = cy1, cq2 : Frm.partss = cy2, cq3 : Tm.ds = cy3, cq4 : opI = cy4; cbv <;> subst cq0 cq1 cq2 cq3 cq4)
        have hdl : d.length + (r.length + 1) = fs.length := by rw [hes]; simp
        refine ⟨by subst hp; simp [std, Frm.ds_len]; omega, (d ++ [.mk o' n' us' fs'], r, ω2), ⟨by rw [hes]; simp, hb⟩, by simp, ?_, rfl⟩
        generalize hd' : d ++ [Frm.mk o' n' us' fs'] = d'
        (generalize cq0 : Frm.ds = cy0, cq1 : Tm.ds = cy1, cq2 : opI = cy2; cbv <;> subst cq0 cq1 cq2)
        subst hp hd'
        simp [std, Frm.ds_len]
      · (generalize cq0 : Frm.ds = cy0, cq1 : Frm.items = cy1, cq2 : Frm.partss = cy2, cq3 : Tm.ds = cy3, cq4 : opI = cy4; cbv <;> subst cq0 cq1 cq2 cq3 cq4)
        simp only [not_f hp]
        (generalize cq0 : Frm.ds = cy0, cq1 : Frm.items = cy1, cq2 : Frm.partss = cy2, cq3 : Tm.ds = cy3, cq4 : opI = cy4; cbv <;> subst cq0 cq1 cq2 cq3 cq4)
        exact ⟨false, rfl, hb⟩
end Go.Ly.Tr
end
section
namespace Go.Ly.Tr
set_option maxRecDepth 4000
theorem all_iter (o : UInt8) (n : Nm) (us : List Tm) (fs : List Frm) (hs : (Frm.mk o n us fs).size ≤ 1000000) :
    IterOK E 114 [] [.cb [.d .old (.int .u8 (opI o)), .d .old (.str n), .d .old (.row 3 (Tm.ds us)), .d .old (.row 4 (Frm.ds fs))] 0] (Frm.items (Frm.mk o n us fs).parts) := by
  intro O i ω K hy
  have hok := every_ok (.mk o n us fs) hs ω _ (yb_ys _ _ _ hy)
  simp only [Frm.d] at hok
  refine fun_by has114 ?_
  generalize hp : std = p
  (generalize cq0 : Frm.ds = cy0, cq1 : Tm.ds = cy1, cq2 : opI = cy2; cbv <;> subst cq0 cq1 cq2)
  refine callA.outer [] rfl rfl (Fun.mono hok fun q _ ω2 hq => ?_)
  obtain ⟨b, rfl, hb⟩ := hq
  (generalize cq0 : Frm.ds = cy0, cq1 : Tm.ds = cy1, cq2 : opI = cy2; cbv <;> subst cq0 cq1 cq2)
  exact hb
theorem all_ok (o : UInt8) (n : Nm) (us : List Tm) (fs : List Frm) :
    Pure E 70 [.d .old (.agg [.int .u8 (opI o), .str n, .row 3 (Tm.ds us), .row 4 (Frm.ds fs)])]
      (.fn 114 [] [.cb [.d .old (.int .u8 (opI o)), .d .old (.str n), .d .old (.row 3 (Tm.ds us)), .d .old (.row 4 (Frm.ds fs))] 0]) := by
  refine pure_by has70 ?_
  generalize hp : std = p
  (generalize cq0 : Frm.ds = cy0, cq1 : Tm.ds = cy1, cq2 : opI = cy2; cbv <;> subst cq0 cq1 cq2)
mutual
def Tm.parts : Tm → List Tm
  | .mk v n us => .mk v n us :: Tm.partss us
def Tm.partss : List Tm → List Tm
  | [] => []
  | t :: ts => t.parts ++ Tm.partss ts
end
def Tm.items (l : List Tm) : List (List AV) := l.map fun t => [.d .old t.d]
theorem Tm.items_app (a b : List Tm) : Tm.items (a ++ b) = Tm.items a ++ Tm.items b := by simp [Tm.items]
theorem terms_ok (l : List Tm) : Pure E 71 [.d .old (.row 3 (Tm.ds l))] (.fn 116 [] [.cb [.d .old (.row 3 (Tm.ds l))] 0]) := by
  refine pure_by has71 ?_
  generalize hp : std = p
  (generalize cq0 : Tm.ds = cy0; cbv <;> subst cq0)
theorem roundA_by {E : Env} {O : Outer E} {a1 b1 : AC} {ps : List Nat} {A : Fm} {xs : List AV} {σ : Sto} {ω : O.Ω} {K : Option Ex → Sto → O.Ω → Prop}
    (h : hC std (callA E O) (drawA E O) (loopA E O) (rfA E O) a1 (fun x A1 σ1 ω1 => match x with
      | .norm => hC std (callA E O) (drawA E O) (loopA E O) (rfA E O) b1 (fun x _ σ2 ω2 => ∃ σ3, leS (lenS σ3) σ2 σ3 ∧ lenS σ3 = lenS σ ∧ (match x with | .norm => K none σ3 ω2 | .exit id => K (some (.exit id)) σ3 ω2 | .ret => K (some .ret) σ3 ω2)) A1 σ1 ω1
      | _ => False) (setPs A ps xs) σ ω) : roundA E O a1 b1 ps A xs σ ω K := by
  refine AWP.mono (hC_sound drawRule _ _ _ _ _ h) fun x A1 σ1 ω1 hx => ?_
  cases x with
  | norm => exact hC_sound drawRule _ _ _ _ _ hx
  | exit id => exact hx
  | ret => exact hx
theorem range_yb {E : Env} {O : Outer E} {i : Nat} {a1 b1 : AC} {ps : List Nat} {A : Fm} {σ : Sto} {Kb : Bool → O.Ω → Prop} {K : Option Ex → Sto → O.Ω → Prop} {α : Type} {g : α → D} {rest : List (List AV)}
    (round : ∀ (x : α) (ω : O.Ω) (K' : Option Ex → Sto → O.Ω → Prop), (O.call i [.d .old (g x)] ω fun q ω' => (q = .d .top (.bool true) ∧ K' none σ ω') ∨ (q = .d .top (.bool false) ∧ K' (some .ret) σ ω')) → roundA E O a1 b1 ps A [.d .unk (g x)] σ ω K')
    (fin : ∀ ω, yb O i rest ω Kb → K none σ ω) (stop : ∀ ω, Kb false ω → K (some .ret) σ ω) : ∀ (xs : List α) (ω : O.Ω), yb O i (xs.map (fun t => [AV.d .old (g t)]) ++ rest) ω Kb → rangeItems E O a1 b1 ps A ((xs.map fun t => [AV.d .old (g t)]).map unkL) σ ω K
  | [], ω, h => fin ω h
  | x :: xs, ω, h => by
    simp only [List.map_cons, List.cons_append, yb] at h
    refine round x ω _ (O.mono h fun q ω' hq => ?_)
    rcases hq with ⟨h1, h2⟩ | ⟨h1, h2⟩
    · exact .inl ⟨h1, range_yb round fin stop xs ω' h2⟩
    · exact .inr ⟨h1, stop ω' h2⟩
theorem terms_iter (l : List Tm) (hs : Tm.size.sizes l ≤ 1000000) : IterOK E 116 [] [.cb [.d .old (.row 3 (Tm.ds l))] 0] (Tm.items (Tm.partss l)) := by
  obtain ⟨n, hn⟩ : ∃ n, Tm.size.sizes l < n := ⟨_, Nat.lt_succ_self _⟩
  induction n generalizing l with
  | zero => omega
  | succ n ih =>
  intro O i ω K hy
  have hyb := yb_ys _ _ _ hy
  have hlen := Tm.len_size l
  refine fun_by has116 ?_
  generalize hp : std = p
  (generalize cq0 : Tm.ds = cy0; cbv <;> subst cq0)
  subst hp
  refine loopA_inv (ι := List Tm × List Tm × O.Ω) (fun j => l = j.1 ++ j.2.1 ∧ yb O i (Tm.items (Tm.partss j.2.1)) j.2.2 fun _ ω' => K ω') (fun j => j.2.1.length)
    (fun j => mkF 25 [(1, .cb [.d .old (.row 3 (Tm.ds l))] 0), (2, .ptr 0 0), (6, .d .old (.row 3 (Tm.ds l))), (7, .d .top (.int .i64 (std.dlen (Tm.ds l)))), (8, .d .top (.int .i64 (std.dlen (Tm.ds j.1))))])
    (fun j => [.bx [.ext i]]) (fun j => j.2.2) ([], l, ω) ⟨rfl, hyb⟩ ?_ rfl (fun _ => rfl) ?_
  · generalize hp : std = p
    (generalize cq0 : Tm.ds = cy0; cbv <;> subst cq0)
    subst hp
    simp [std, Tm.ds]
  · rintro ⟨d, r, ω1⟩ ⟨hes, hyr⟩
    simp only at hes hyr ⊢
    cases r with
    | nil =>
      rw [List.append_nil] at hes
      subst hes
      generalize hp : std = p
      (generalize cq0 : Tm.ds = cy0, cq1 : Tm.items = cy1, cq2 : Tm.partss = cy2; cbv <;> subst cq0 cq1 cq2)
      simp only [end_ltT hp]
      (generalize cq0 : Tm.ds = cy0, cq1 : Tm.items = cy1, cq2 : Tm.partss = cy2; cbv <;> subst cq0 cq1 cq2)
      exact hyr
    | cons e r =>
      have hm : e ∈ l := by rw [hes]; simp
      have hsz := Tm.size_mem hm
      obtain ⟨v, nm, us⟩ := e
      simp only [Tm.size] at hsz
      rw [Tm.partss, Tm.parts, Tm.items, List.cons_append, List.map_cons, yb] at hyr
      simp only [Tm.d] at hyr
      generalize hp : std = p
      (generalize cq0 : Tm.ds = cy0, cq1 : Tm.items = cy1, cq2 : Tm.partss = cy2; cbv <;> subst cq0 cq1 cq2)
      simp only [at_ltT hp hes]
      (generalize cq0 : Tm.ds = cy0, cq1 : Tm.items = cy1, cq2 : Tm.partss = cy2; cbv <;> subst cq0 cq1 cq2)
      refine ⟨_, at_getT hp hes, ?_⟩
      (generalize cq0 : Tm.ds = cy0, cq1 : Tm.items = cy1, cq2 : Tm.partss = cy2; cbv <;> subst cq0 cq1 cq2)
      refine callA.ext rfl (O.mono hyr fun q ω2 hq => ?_)
      rcases hq with ⟨rfl, hq⟩ | ⟨rfl, hq⟩
      rotate_left
      · (generalize cq0 : Tm.ds = cy0, cq1 : Tm.items = cy1, cq2 : Tm.partss = cy2; cbv <;> subst cq0 cq1 cq2)
        simp only [not_f hp]
        (generalize cq0 : Tm.ds = cy0, cq1 : Tm.items = cy1, cq2 : Tm.partss = cy2; cbv <;> subst cq0 cq1 cq2)
        exact hq
      · (generalize cq0 : Tm.ds = cy0, cq1 : Tm.items = cy1, cq2 : Tm.partss = cy2; cbv <;> subst cq0 cq1 cq2)
        simp only [not_t hp]
        (generalize cq0 : Tm.ds = cy0, cq1 : Tm.items = cy1, cq2 : Tm.partss = cy2; cbv <;> subst cq0 cq1 cq2)
        refine callA.pure (terms_ok us) rfl ?_
        (generalize cq0 : Tm.ds = cy0, cq1 : Tm.items = cy1, cq2 : Tm.partss = cy2; cbv <;> subst cq0 cq1 cq2)
        have hq' : yb O i ((Tm.partss us).map (fun t => [AV.d .old t.d]) ++ Tm.items (Tm.partss r)) ω2 fun _ ω' => K ω' := by
          rw [List.map_append] at hq
          exact hq
        subst hp
        refine rf_sound (items := Tm.items (Tm.partss us)) rfl rfl rfl (ih us (by omega) (by omega)) ?_ ?_
        · intro x hx
          rw [Tm.items, List.mem_map] at hx
          obtain ⟨t, _, rfl⟩ := hx
          exact ⟨rfl, rfl⟩
        · rw [Tm.items]
          refine range_yb (i := i) (Kb := fun _ ω' => K ω') (rest := Tm.items (Tm.partss r)) ?_ ?_ ?_ _ _ hq'
          · rintro ⟨v', n', us'⟩ ω3 K' hc
            simp only [Tm.d] at hc ⊢
            refine roundA_by ?_
            generalize hp : std = p
            (generalize cq0 : Tm.ds = cy0; cbv <;> subst cq0)
            refine callA.ext rfl (O.mono hc fun q ω4 hq4 => ?_)
            rcases hq4 with ⟨rfl, h4⟩ | ⟨rfl, h4⟩
            · (generalize cq0 : Tm.ds = cy0; cbv <;> subst cq0)
              simp only [not_t hp]
              (generalize cq0 : Tm.ds = cy0; cbv <;> subst cq0)
              exact ⟨_, by (generalize cq0 : Tm.ds = cy0; cbv <;> subst cq0), rfl, h4⟩
            · (generalize cq0 : Tm.ds = cy0; cbv <;> subst cq0)
              simp only [not_f hp]
              (generalize cq0 : Tm.ds = cy0; cbv <;> subst cq0)
              exact ⟨_, by (generalize cq0 : Tm.ds = cy0; cbv <;> subst cq0), rfl, h4⟩
          · intro ω3 h3
            have hdl : d.length + (r.length + 1) = l.length := by rw [hes]; simp
            generalize hp : std = p
            (generalize cq0 : Tm.ds = cy0, cq1 : Tm.items = cy1, cq2 : Tm.partss = cy2; cbv <;> subst cq0 cq1 cq2)
            refine ⟨by subst hp; simp [std, Tm.ds_len]; omega, (d ++ [.mk v nm us], r, ω3), ⟨by rw [hes]; simp, h3⟩, by simp, ?_, rfl⟩
            generalize hd' : d ++ [Tm.mk v nm us] = d'
            (generalize cq0 : Tm.ds = cy0; cbv <;> subst cq0)
            subst hp hd'
            simp [std, Tm.ds_len]
          · intro ω3 h3
            (generalize cq0 : Tm.ds = cy0, cq1 : Tm.items = cy1, cq2 : Tm.partss = cy2; cbv <;> subst cq0 cq1 cq2)
            exact h3
end Go.Ly.Tr
end
section
namespace Go.Ly.Tr
set_option maxRecDepth 4000
def natI (n : Nat) : Int := n
theorem nat_next {p : Prims} (hp : std = p) (n : Nat) : p.add (natI n) 1 = natI (n + 1) := by subst hp; simp [std, natI]
theorem nat_ok {p : Prims} (hp : std = p) {n : Nat} (h : n ≤ 4000000) : p.ok (natI n) := by
  subst hp
  simp only [std, natI]
  omega
theorem range_fold {E : Env} {O : Outer E} {a1 b1 : AC} {ps : List Nat} {A : Fm} {K : Option Ex → Sto → O.Ω → Prop} {α : Type} {g : α → D} {es : List α} (σf : List α → Sto) (ω : O.Ω)
    (round : ∀ (d : List α) (e : α) (r : List α) (K' : Option Ex → Sto → O.Ω → Prop), es = d ++ e :: r → K' none (σf (d ++ [e])) ω → roundA E O a1 b1 ps A [.d .unk (g e)] (σf d) ω K')
    (fin : K none (σf es) ω) : rangeItems E O a1 b1 ps A ((es.map fun t => [AV.d .old (g t)]).map unkL) (σf []) ω K := by
  have : ∀ (r d : List α), es = d ++ r → rangeItems E O a1 b1 ps A ((r.map fun t => [AV.d .old (g t)]).map unkL) (σf d) ω K := by
    intro r
    induction r with
    | nil =>
      intro d h
      rw [List.append_nil] at h
      subst h
      exact fin
    | cons e r ih =>
      intro d h
      exact round d e r _ h (ih (d ++ [e]) (by rw [h]; simp))
  exact this es [] rfl
def cntF : List Frm → Nat
  | [] => 0
  | .mk _ _ us _ :: l => (Tm.partss us).length + 1 + cntF l
theorem cntF_app : ∀ a b : List Frm, cntF (a ++ b) = cntF a + cntF b
  | [], b => by simp [cntF]
  | .mk _ _ _ _ :: a, b => by simp only [List.cons_append, cntF, cntF_app a b]; omega
theorem partss_len : ∀ l : List Tm, (Tm.partss l).length = Tm.size.sizes l := by
  have main : ∀ t : Tm, t.parts.length = t.size := by
    intro t
    induction t using Tm.ind with
    | h v n us ih =>
      simp only [Tm.parts, List.length_cons, Tm.size]
      have : ∀ l : List Tm, (∀ a ∈ l, a.parts.length = a.size) → (Tm.partss l).length = Tm.size.sizes l := by
        intro l
        induction l with
        | nil => intro _; rfl
        | cons a l ihl =>
          intro h
          simp only [Tm.partss, List.length_append, Tm.size.sizes, h a (by simp), ihl fun b hb => h b (by simp [hb])]
      rw [this us ih]
  intro l
  induction l with
  | nil => rfl
  | cons a l ih => simp only [Tm.partss, List.length_append, Tm.size.sizes, main a, ih]
theorem cnt_parts : ∀ f : Frm, cntF f.parts = f.size := by
  intro f
  induction f using Frm.ind with
  | h o n us fs ih =>
    have : ∀ l : List Frm, (∀ a ∈ l, cntF a.parts = a.size) → cntF (Frm.partss l) = Frm.size.sizes l := by
      intro l
      induction l with
      | nil => intro _; rfl
      | cons a l ihl =>
        intro h
        simp only [Frm.partss, cntF_app, Frm.size.sizes, h a (by simp), ihl fun b hb => h b (by simp [hb])]
    simp only [Frm.parts, cntF, this fs ih, partss_len, Frm.size]
    omega
theorem nodes_ok (f : Frm) (hs : f.size ≤ 1000000) : Pure E 30 [.d .old f.d] (.d .top (.int .i64 (natI f.size))) := by
  have hcnt := cnt_parts f
  obtain ⟨o, n, us, fs⟩ := f
  obtain ⟨N, hN⟩ : ∃ N, (Frm.mk o n us fs).size = N := ⟨_, rfl⟩
  rw [hN] at hcnt ⊢
  simp only [Frm.d]
  refine pure_by has30 ?_
  generalize hp : std = p
  (generalize cq0 : Frm.ds = cy0, cq1 : Tm.ds = cy1, cq2 : natI = cy2, cq3 : opI = cy3; cbv <;> subst cq0 cq1 cq2 cq3)
  refine callA.pure (all_ok o n us fs) rfl ?_
  (generalize cq0 : Frm.ds = cy0, cq1 : Tm.ds = cy1, cq2 : natI = cy2, cq3 : opI = cy3; cbv <;> subst cq0 cq1 cq2 cq3)
  subst hp
  refine rf_sound (items := Frm.items (Frm.mk o n us fs).parts) rfl rfl rfl (all_iter o n us fs hs) ?_ ?_
  · intro x hx
    rw [Frm.items, List.mem_map] at hx
    obtain ⟨t, _, rfl⟩ := hx
    exact ⟨rfl, rfl⟩
  · rw [Frm.items]
    refine range_fold (O := alone E) (fun d => [.bx [.d .old (.int .u8 (opI o)), .d .old (.str n), .d .old (.row 3 (Tm.ds us)), .d .old (.row 4 (Frm.ds fs))], .bx [.d .top (.int .i64 (natI (cntF d)))]]) () ?_ ?_
    · rintro d ⟨o', n', us', fs'⟩ r K' hes hK
      have hle : cntF d + ((Tm.partss us').length + 1) ≤ N := by rw [← hcnt, hes, cntF_app]; simp only [cntF]; omega
      have hpl := partss_len us'
      rw [cntF_app] at hK
      simp only [cntF, Nat.add_zero] at hK
      simp only [Frm.d]
      refine roundA_by ?_
      generalize hp : std = p
      (generalize cq0 : Frm.ds = cy0, cq1 : Tm.ds = cy1, cq2 : cntF = cy2, cq3 : natI = cy3, cq4 : opI = cy4; cbv <;> subst cq0 cq1 cq2 cq3 cq4)
      simp only [nat_next hp]
      refine ⟨nat_ok hp (by omega), callA.pure (terms_ok us') rfl ?_⟩
      (generalize cq0 : Frm.ds = cy0, cq1 : Tm.ds = cy1, cq2 : cntF = cy2, cq3 : natI = cy3, cq4 : opI = cy4; cbv <;> subst cq0 cq1 cq2 cq3 cq4)
      subst hp
      refine rf_sound (items := Tm.items (Tm.partss us')) rfl rfl rfl (terms_iter us' (by omega)) ?_ ?_
      · intro x hx
        rw [Tm.items, List.mem_map] at hx
        obtain ⟨t, _, rfl⟩ := hx
        exact ⟨rfl, rfl⟩
      · rw [Tm.items]
        refine range_fold (O := alone E) (fun d' => [.bx [.d .old (.int .u8 (opI o)), .d .old (.str n), .d .old (.row 3 (Tm.ds us)), .d .old (.row 4 (Frm.ds fs))], .bx [.d .top (.int .i64 (natI (cntF d + 1 + d'.length)))],
          .bx [.d .unk (.int .u8 (opI o')), .d .unk (.str n'), .d .unk (.row 3 (Tm.ds us')), .d .unk (.row 4 (Frm.ds fs'))]]) () ?_ ?_
        · intro d2 t2 r2 K2 hes2 hK2
          have hl2 : d2.length + 1 ≤ (Tm.partss us').length := by rw [hes2]; simp
          rw [List.length_append] at hK2
          refine roundA_by ?_
          generalize hm : cntF d + 1 + d2.length = m
          have hm2 : cntF d + 1 + (d2.length + [t2].length) = m + 1 := by simp; omega
          rw [hm2] at hK2
          generalize hp : std = p
          (generalize cq0 : Frm.ds = cy0, cq1 : Tm.d = cy1, cq2 : Tm.ds = cy2, cq3 : cntF = cy3, cq4 : natI = cy4, cq5 : opI = cy5; cbv <;> subst cq0 cq1 cq2 cq3 cq4 cq5)
          simp only [nat_next hp]
          refine ⟨nat_ok hp (by omega), _, ?_, ?_, hK2⟩
          · (generalize cq0 : Frm.ds = cy0, cq1 : Tm.ds = cy1, cq2 : natI = cy2, cq3 : opI = cy3; cbv <;> subst cq0 cq1 cq2 cq3)
          · rfl
        · have hm : cntF d + 1 + (Tm.partss us').length = cntF d + ((Tm.partss us').length + 1) := by omega
          rw [hm]
          generalize cntF d + ((Tm.partss us').length + 1) = m at *
          (generalize cq0 : Frm.ds = cy0, cq1 : Tm.ds = cy1, cq2 : cntF = cy2, cq3 : natI = cy3, cq4 : opI = cy4; cbv <;> subst cq0 cq1 cq2 cq3 cq4)
          refine ⟨_, ?_, ?_, hK⟩
          · (generalize cq0 : Frm.ds = cy0, cq1 : Tm.ds = cy1, cq2 : natI = cy2, cq3 : opI = cy3; cbv <;> subst cq0 cq1 cq2 cq3)
          · rfl
    · generalize hp : std = p
      (generalize cq0 : Frm.ds = cy0, cq1 : Frm.parts = cy1, cq2 : Tm.ds = cy2, cq3 : cntF = cy3, cq4 : natI = cy4, cq5 : opI = cy5; cbv <;> subst cq0 cq1 cq2 cq3 cq4 cq5)
      rw [hcnt]
end Go.Ly.Tr
end
section
namespace Go.Ly.Tr
set_option maxRecDepth 4000
def Nms (l : List Nm) : List D := l.map D.str
def hasB (l : List Nm) (s : Nm) : Bool := l.any (· == s)
theorem hasB_app (a b : List Nm) (s : Nm) : hasB (a ++ b) s = (hasB a s || hasB b s) := by simp [hasB]
section
variable {p : Prims} {l d d' r : List Nm} {e : Nm}
theorem at_ltN (hp : std = p) (h : l = d ++ e :: r) : p.lt (p.dlen (Nms d)) (p.dlen (Nms l)) = true := at_ltM hp h
theorem end_ltN (hp : std = p) (l : List Nm) : p.lt (p.dlen (Nms l)) (p.dlen (Nms l)) = false := end_ltM hp l
theorem at_getN (hp : std = p) (h : l = d ++ e :: r) : p.dget (Nms l) (p.dlen (Nms d)) = some (.str e) := at_getM hp h
theorem Nms_len (l : List Nm) : (Nms l).length = l.length := by simp [Nms]
end
theorem has_ok (l : List Nm) (s : Nm) (hl : l.length ≤ 9223372036854775807) : Pure E 24 [.d .old (.row 1 (Nms l)), .d .old (.str s)] (.d .top (.bool (hasB l s))) := by
  refine pure_by has24 ?_
  generalize hp : std = p
  (generalize cq0 : Nms = cy0, cq1 : hasB = cy1; cbv <;> subst cq0 cq1)
  subst hp
  refine loopA_inv (ι := List Nm × List Nm) (fun j => l = j.1 ++ j.2 ∧ hasB j.1 s = false) (fun j => j.2.length)
    (fun j => mkF 18 [(0, .d .old (.row 1 (Nms l))), (1, .d .old (.str s)), (4, .d .top (.bool false)), (5, .d .top (.int .i64 (std.dlen (Nms j.1))))])
    (fun j => []) (fun j => ()) ([], l) ⟨rfl, rfl⟩ ?_ rfl (fun _ => rfl) ?_
  · generalize hp : std = p
    (generalize cq0 : Nms = cy0; cbv <;> subst cq0)
    subst hp
    simp [std, Nms]
  · rintro ⟨d, r⟩ ⟨hes, hd⟩
    simp only at hes hd ⊢
    cases r with
    | nil =>
      rw [List.append_nil] at hes
      subst hes
      generalize hp : std = p
      (generalize cq0 : Nms = cy0, cq1 : hasB = cy1; cbv <;> subst cq0 cq1)
      simp only [end_ltN hp]
      (generalize cq0 : Nms = cy0, cq1 : hasB = cy1; cbv <;> subst cq0 cq1)
      rw [hd]
    | cons e r =>
      have hh : hasB l s = ((e == s) || hasB r s) := by rw [hes, hasB_app, hd]; simp [hasB]
      generalize hp : std = p
      (generalize cq0 : Nms = cy0, cq1 : hasB = cy1; cbv <;> subst cq0 cq1)
      simp only [at_ltN hp hes]
      (generalize cq0 : Nms = cy0, cq1 : hasB = cy1; cbv <;> subst cq0 cq1)
      refine ⟨_, at_getN hp hes, ?_⟩
      (generalize cq0 : Nms = cy0, cq1 : hasB = cy1; cbv <;> subst cq0 cq1)
      have hseq : p.seq e s = (e == s) := by subst hp; rfl
      refine cnd_intro ?_ ?_ <;> intro hb <;> replace hb := hseq.symm.trans hb <;> (generalize cq0 : Nms = cy0, cq1 : hasB = cy1; cbv <;> subst cq0 cq1)
      · rw [hh, hb, Bool.true_or]
      · have hdl : d.length + (r.length + 1) = l.length := by rw [hes]; simp
        refine ⟨by subst hp; simp [std, Nms_len]; omega, (d ++ [e], r), ⟨by rw [hes]; simp, by rw [hasB_app, hd]; simp [hasB, hb]⟩, by simp, ?_, rfl⟩
        generalize hd' : d ++ [e] = d'
        (generalize cq0 : Nms = cy0; cbv <;> subst cq0)
        subst hp hd'
        simp [std, Nms_len]
def fitsB (f : Frm) : Bool := decide (f.size ≤ 400) && decide (f.hi ≤ 40)
theorem fits_ok (f : Frm) (hs : f.size ≤ 1000000) : Pure E 53 [.d .old f.d] (.d .top (.bool (fitsB f))) := by
  have h1 := nodes_ok f hs
  have h2 := depth_ok f hs
  obtain ⟨q, hq⟩ : ∃ q, fitsB f = q := ⟨_, rfl⟩
  rw [hq]
  unfold fitsB at hq
  obtain ⟨o, n, us, fs⟩ := f
  generalize (Frm.mk o n us fs).size = N at *
  generalize (Frm.mk o n us fs).hi = M at *
  simp only [Frm.d] at h1 h2 ⊢
  have h2' : Pure E 64 [.d .old (.agg [.int .u8 (opI o), .str n, .row 3 (Tm.ds us), .row 4 (Frm.ds fs)])] (.d .top (.int .i64 (natI M))) := h2
  refine pure_by has53 ?_
  generalize hp : std = p
  (generalize cq0 : Frm.ds = cy0, cq1 : Tm.ds = cy1, cq2 : opI = cy2; cbv <;> subst cq0 cq1 cq2)
  refine callA.pure h1 rfl ?_
  (generalize cq0 : Frm.ds = cy0, cq1 : Tm.ds = cy1, cq2 : natI = cy2, cq3 : opI = cy3; cbv <;> subst cq0 cq1 cq2 cq3)
  have e1 : p.le (natI N) 400 = decide (N ≤ 400) := by subst hp; simp [std, natI]; omega
  have e2 : p.le (natI M) 40 = decide (M ≤ 40) := by subst hp; simp [std, natI]; omega
  refine cnd_intro ?_ ?_ <;> intro hb <;> replace hb := e1.symm.trans hb
  · simp only [e1, hb]
    (generalize cq0 : Frm.ds = cy0, cq1 : Tm.ds = cy1, cq2 : natI = cy2, cq3 : opI = cy3; cbv <;> subst cq0 cq1 cq2 cq3)
    refine callA.pure h2' rfl ?_
    (generalize cq0 : Frm.ds = cy0, cq1 : Tm.ds = cy1, cq2 : natI = cy2, cq3 : opI = cy3; cbv <;> subst cq0 cq1 cq2 cq3)
    rw [← hq, hb, ← e2]
    rfl
  · simp only [e1, hb]
    (generalize cq0 : Frm.ds = cy0, cq1 : Tm.ds = cy1, cq2 : natI = cy2, cq3 : opI = cy3; cbv <;> subst cq0 cq1 cq2 cq3)
    rw [← hq, hb]
    rfl
end Go.Ly.Tr
end
section
namespace Go.Ly.Tr
set_option maxRecDepth 4000
def idxI : List Nm → Nm → Nat → Int
  | [], _, _ => -1
  | e :: l, s, k => if e == s then k else idxI l s (k + 1)
theorem idx_app : ∀ (d r : List Nm) (s : Nm) (k : Nat), hasB d s = false → idxI (d ++ r) s k = idxI r s (k + d.length)
  | [], r, s, k, _ => by simp
  | e :: d, r, s, k, h => by
    simp only [hasB, List.any_cons, Bool.or_eq_false_iff] at h
    simp only [List.cons_append, idxI, h.1, Bool.false_eq_true, if_false]
    rw [idx_app d r s (k + 1) h.2]
    simp only [List.length_cons]
    congr 1
    omega
theorem idx_has : ∀ (l : List Nm) (s : Nm) (k : Nat), decide (0 ≤ idxI l s k) = hasB l s
  | [], s, k => by simp [idxI, hasB]
  | e :: l, s, k => by
    have := idx_has l s (k + 1)
    rw [show hasB (e :: l) s = ((e == s) || hasB l s) by simp [hasB], idxI, ← this]
    by_cases h : (e == s) = true
    · rw [if_pos h, h]
      simp
    · rw [if_neg h]
      simp [h]
theorem index_ok (l : List Nm) (s : Nm) (hl : l.length ≤ 9223372036854775807) : Pure E 101 [.d .old (.row 1 (Nms l)), .d .old (.str s)] (.d .top (.int .i64 (idxI l s 0))) := by
  refine pure_by has101 ?_
  generalize hp : std = p
  (generalize cq0 : Nms = cy0, cq1 : idxI = cy1; cbv <;> subst cq0 cq1)
  subst hp
  refine loopA_inv (ι := List Nm × List Nm) (fun j => l = j.1 ++ j.2 ∧ hasB j.1 s = false) (fun j => j.2.length)
    (fun j => mkF 19 [(0, .d .old (.row 1 (Nms l))), (1, .d .old (.str s)), (6, .d .old (.row 1 (Nms l))), (7, .d .top (.int .i64 (std.dlen (Nms l)))), (8, .d .top (.int .i64 (std.dlen (Nms j.1))))])
    (fun j => []) (fun j => ()) ([], l) ⟨rfl, rfl⟩ ?_ rfl (fun _ => rfl) ?_
  · generalize hp : std = p
    (generalize cq0 : Nms = cy0; cbv <;> subst cq0)
    subst hp
    simp [std, Nms]
  · rintro ⟨d, r⟩ ⟨hes, hd⟩
    simp only at hes hd ⊢
    cases r with
    | nil =>
      rw [List.append_nil] at hes
      subst hes
      have hi : idxI l s 0 = -1 := by
        have := idx_app l [] s 0 hd
        rw [List.append_nil] at this
        rw [this]
        rfl
      rw [hi]
      generalize hp : std = p
      (generalize cq0 : Nms = cy0, cq1 : hasB = cy1; cbv <;> subst cq0 cq1)
      simp only [end_ltN hp]
      (generalize cq0 : Nms = cy0, cq1 : hasB = cy1; cbv <;> subst cq0 cq1)
    | cons e r =>
      have hi : idxI l s 0 = if e == s then (d.length : Int) else idxI r s (d.length + 1) := by rw [hes, idx_app _ _ _ _ hd]; simp [idxI]
      obtain ⟨q, hq⟩ : ∃ q, idxI l s 0 = q := ⟨_, rfl⟩
      rw [hq] at hi ⊢
      generalize hp : std = p
      (generalize cq0 : Nms = cy0, cq1 : hasB = cy1; cbv <;> subst cq0 cq1)
      simp only [at_ltN hp hes]
      (generalize cq0 : Nms = cy0, cq1 : hasB = cy1; cbv <;> subst cq0 cq1)
      refine ⟨_, at_getN hp hes, ?_⟩
      (generalize cq0 : Nms = cy0, cq1 : hasB = cy1; cbv <;> subst cq0 cq1)
      have hseq : p.seq s e = (e == s) := by subst hp; simp only [std]; rw [Bool.eq_iff_iff, beq_iff_eq, beq_iff_eq]; exact ⟨Eq.symm, Eq.symm⟩
      refine cnd_intro ?_ ?_ <;> intro hb <;> replace hb := hseq.symm.trans hb <;> (generalize cq0 : Nms = cy0, cq1 : hasB = cy1; cbv <;> subst cq0 cq1)
      · subst hp
        rw [hi, hb]
        simp [std, Nms_len]
      · have hdl : d.length + (r.length + 1) = l.length := by rw [hes]; simp
        refine ⟨by subst hp; simp [std, Nms_len]; omega, (d ++ [e], r), ⟨by rw [hes]; simp, by rw [hasB_app, hd]; simp [hasB, hb]⟩, by simp, ?_, rfl⟩
        generalize hd' : d ++ [e] = d'
        (generalize cq0 : Nms = cy0; cbv <;> subst cq0)
        subst hp hd'
        simp [std, Nms_len]
theorem contains_ok (l : List Nm) (s : Nm) (hl : l.length ≤ 9223372036854775807) : Pure E 62 [.d .old (.row 1 (Nms l)), .d .old (.str s)] (.d .top (.bool (hasB l s))) := by
  have h1 := index_ok l s hl
  have h2 := idx_has l s 0
  generalize idxI l s 0 = q at *
  generalize hasB l s = b at *
  refine pure_by has62 ?_
  generalize hp : std = p
  (generalize cq0 : Nms = cy0; cbv <;> subst cq0)
  refine callA.pure h1 rfl ?_
  (generalize cq0 : Nms = cy0; cbv <;> subst cq0)
  subst hp
  rw [← h2]
  rfl
end Go.Ly.Tr
end
section
namespace Go.Ly.Tr
set_option maxRecDepth 4000
theorem digit_ok (ep : Ep) (b : Int) : Pure E 57 [.d ep (.int .u8 b)] (.d .top (.bool (std.le 48 b && std.le b 57))) := by
  refine pure_by has57 ?_
  generalize hp : std = p
  cbv
  refine cnd_intro ?_ ?_ <;> intro hb <;> simp only [hb] <;> cbv
theorem small_ok (ep : Ep) (b : Int) : Pure E 164 [.d ep (.int .u8 b)] (.d .top (.bool (std.le 97 b && std.le b 122))) := by
  refine pure_by has164 ?_
  generalize hp : std = p
  cbv
  refine cnd_intro ?_ ?_ <;> intro hb <;> simp only [hb] <;> cbv
theorem capital_ok (ep : Ep) (b : Int) : Pure E 163 [.d ep (.int .u8 b)] (.d .top (.bool (std.le 65 b && std.le b 90))) := by
  refine pure_by has163 ?_
  generalize hp : std = p
  cbv
  refine cnd_intro ?_ ?_ <;> intro hb <;> simp only [hb] <;> cbv
theorem quantifier_ok (ep : Ep) (op : Int) (n : List UInt8) (l m : List D) : Pure E 102 [.d ep (.agg [.int .u8 op, .str n, .row 3 l, .row 4 m])] (.d .top (.bool (std.eq op 8 || std.eq op 9))) := by
  refine pure_by has102 ?_
  generalize hp : std = p
  cbv
  refine cnd_intro ?_ ?_ <;> intro hb <;> simp only [hb] <;> cbv
theorem none_ok (ep : Ep) (s : List UInt8) : Pure E 133 [.d ep (.str s)] (.d .top (.bool (std.seq s []))) := by
  refine pure_by has133 ?_
  generalize hp : std = p
  cbv
end Go.Ly.Tr
end
section
namespace Go.Ly.Tr
set_option maxRecDepth 4000
def Kind8 (k : Nat) (g : Int → Bool) : Prop := ∀ c : Int, Pure E k [.d .old (.int .u8 c)] (.d .top (.bool (g c)))
theorem digit_kind : Kind8 57 fun c => std.le 48 c && std.le c 57 := fun c => digit_ok .old c
theorem name1_ok {k : Nat} {g : Int → Bool} (hg : Kind8 k g) (c : Int) : Pure E 95 [.d .old (.int .u8 c), .fb [.fn k [] []] 0] (.d .top (.bool (!g c))) := by
  have h := hg c
  generalize g c = b at *
  refine pure_by has95 ?_
  generalize hp : std = p
  cbv
  refine callA.pure h rfl ?_
  cbv
  subst hp
  rfl
def Bys (s : List UInt8) : List D := s.map fun c => D.int .u8 (c.toNat : Int)
section
variable {p : Prims} {l d d' r : List UInt8} {e : UInt8}
theorem at_ltB (hp : std = p) (h : l = d ++ e :: r) : p.lt (p.dlen (Bys d)) (p.dlen (Bys l)) = true := at_ltM hp h
theorem end_ltB (hp : std = p) (l : List UInt8) : p.lt (p.dlen (Bys l)) (p.dlen (Bys l)) = false := end_ltM hp l
theorem at_getB (hp : std = p) (h : l = d ++ e :: r) : p.dget (Bys l) (p.dlen (Bys d)) = some (.int .u8 (opI e)) := at_getM hp h
theorem Bys_len (l : List UInt8) : (Bys l).length = l.length := by simp [Bys]
end
def idxB (q : Int → Bool) : List UInt8 → Nat → Int
  | [], _ => -1
  | e :: l, k => if q (opI e) then k else idxB q l (k + 1)
theorem idxB_app (q : Int → Bool) : ∀ (d r : List UInt8) (k : Nat), (d.any fun c => q (opI c)) = false → idxB q (d ++ r) k = idxB q r (k + d.length)
  | [], r, k, _ => by simp
  | e :: d, r, k, h => by
    simp only [List.any_cons, Bool.or_eq_false_iff] at h
    simp only [List.cons_append, idxB, h.1, Bool.false_eq_true, if_false]
    rw [idxB_app q d r (k + 1) h.2]
    simp only [List.length_cons]
    congr 1
    omega
theorem idxB_has (q : Int → Bool) : ∀ (l : List UInt8) (k : Nat), decide (0 ≤ idxB q l k) = l.any fun c => q (opI c)
  | [], k => by simp [idxB]
  | e :: l, k => by
    have := idxB_has q l (k + 1)
    rw [List.any_cons, idxB, ← this]
    by_cases h : q (opI e) = true
    · rw [if_pos h, h]
      simp
    · rw [if_neg h]
      simp [h]
theorem indexFuncB_ok {k : Nat} {g : Int → Bool} (hg : Kind8 k g) (l : List UInt8) (hl : l.length ≤ 9223372036854775807) :
    Pure E 139 [.d .old (.row 1 (Bys l)), .fn 95 [] [.fb [.fn k [] []] 0]] (.d .top (.int .i64 (idxB (fun c => !g c) l 0))) := by
  refine pure_by has139 ?_
  generalize hp : std = p
  (generalize cq0 : Bys = cy0, cq1 : idxB = cy1; cbv <;> subst cq0 cq1)
  subst hp
  refine loopA_inv (ι := List UInt8 × List UInt8) (fun j => l = j.1 ++ j.2 ∧ (j.1.any fun c => !g (opI c)) = false) (fun j => j.2.length)
    (fun j => mkF 19 [(0, .d .old (.row 1 (Bys l))), (1, .fn 95 [] [.fb [.fn k [] []] 0]), (6, .d .old (.row 1 (Bys l))), (7, .d .top (.int .i64 (std.dlen (Bys l)))), (8, .d .top (.int .i64 (std.dlen (Bys j.1))))])
    (fun j => []) (fun j => ()) ([], l) ⟨rfl, rfl⟩ ?_ rfl (fun _ => rfl) ?_
  · generalize hp : std = p
    (generalize cq0 : Bys = cy0; cbv <;> subst cq0)
    subst hp
    simp [std, Bys]
  · rintro ⟨d, r⟩ ⟨hes, hd⟩
    simp only at hes hd ⊢
    cases r with
    | nil =>
      rw [List.append_nil] at hes
      subst hes
      have hi : idxB (fun c => !g c) l 0 = -1 := by
        have := idxB_app (fun c => !g c) l [] 0 hd
        rw [List.append_nil] at this
        rw [this]
        rfl
      rw [hi]
      generalize hp : std = p
      (generalize cq0 : Bys = cy0, cq1 : opI = cy1; cbv <;> subst cq0 cq1)
      simp only [end_ltB hp]
      (generalize cq0 : Bys = cy0, cq1 : opI = cy1; cbv <;> subst cq0 cq1)
    | cons e r =>
      have hi : idxB (fun c => !g c) l 0 = if !g (opI e) then (d.length : Int) else idxB (fun c => !g c) r (d.length + 1) := by rw [hes, idxB_app _ _ _ _ hd]; simp [idxB]
      obtain ⟨q, hq⟩ : ∃ q, idxB (fun c => !g c) l 0 = q := ⟨_, rfl⟩
      have hok := name1_ok hg (opI e)
      obtain ⟨b, hb0⟩ : ∃ b, (!g (opI e)) = b := ⟨_, rfl⟩
      rw [hq, hb0] at hi
      rw [hb0] at hok
      rw [hq]
      generalize hp : std = p
      (generalize cq0 : Bys = cy0, cq1 : opI = cy1; cbv <;> subst cq0 cq1)
      simp only [at_ltB hp hes]
      (generalize cq0 : Bys = cy0, cq1 : opI = cy1; cbv <;> subst cq0 cq1)
      refine ⟨_, at_getB hp hes, ?_⟩
      (generalize cq0 : Bys = cy0, cq1 : opI = cy1; cbv <;> subst cq0 cq1)
      refine callA.pure hok rfl ?_
      (generalize cq0 : Bys = cy0, cq1 : opI = cy1; cbv <;> subst cq0 cq1)
      refine cnd_intro ?_ ?_ <;> intro hb <;> subst hb <;> (generalize cq0 : Bys = cy0, cq1 : opI = cy1; cbv <;> subst cq0 cq1)
      · subst hp
        rw [hi]
        simp [std, Bys_len]
      · have hdl : d.length + (r.length + 1) = l.length := by rw [hes]; simp
        refine ⟨by subst hp; simp [std, Bys_len]; omega, (d ++ [e], r), ⟨by rw [hes]; simp, by rw [List.any_append, hd]; simp [hb0]⟩, by simp, ?_, rfl⟩
        generalize hd' : d ++ [e] = d'
        (generalize cq0 : Bys = cy0, cq1 : opI = cy1; cbv <;> subst cq0 cq1)
        subst hp hd'
        simp [std, Bys_len]
theorem containsFuncB_ok {k : Nat} {g : Int → Bool} (hg : Kind8 k g) (l : List UInt8) (hl : l.length ≤ 9223372036854775807) :
    Pure E 94 [.d .old (.row 1 (Bys l)), .fn 95 [] [.fb [.fn k [] []] 0]] (.d .top (.bool (l.any fun c => !g (opI c)))) := by
  have h1 := indexFuncB_ok hg l hl
  have h2 := idxB_has (fun c => !g c) l 0
  generalize idxB (fun c => !g c) l 0 = q at *
  generalize (l.any fun c => !g (opI c)) = b at *
  refine pure_by has94 ?_
  generalize hp : std = p
  (generalize cq0 : Bys = cy0; cbv <;> subst cq0)
  refine callA.pure h1 rfl ?_
  (generalize cq0 : Bys = cy0; cbv <;> subst cq0)
  subst hp
  rw [← h2]
  rfl
end Go.Ly.Tr
end
section
namespace Go.Ly.Tr
set_option maxRecDepth 4000
def words : List Nm := [[97, 108, 108], [115, 111, 109, 101], [102, 97, 108, 115, 101], [110, 101, 120, 116], [97, 108, 119, 97, 121, 115], [117, 110, 116, 105, 108]]
def nameB (f g : Int → Bool) : Nm → Bool
  | [] => false
  | c :: s => decide (s.length < 16) && (f (opI c) && (!hasB words (c :: s) && !(s.any fun c => !g (opI c))))
theorem name_ok {j k : Nat} {f g : Int → Bool} (hf : Kind8 j f) (hg : Kind8 k g) (s : Nm) : Pure E 55 [.d .old (.str s), .fn j [] [], .fn k [] []] (.d .top (.bool (nameB f g s))) := by
  have hw : Pure E 62 [.d .old (.row 1 [.str [97, 108, 108], .str [115, 111, 109, 101], .str [102, 97, 108, 115, 101], .str [110, 101, 120, 116], .str [97, 108, 119, 97, 121, 115], .str [117, 110, 116, 105, 108]]), .d .old (.str s)] (.d .top (.bool (hasB words s))) := contains_ok words s (by decide)
  obtain ⟨w, hw0⟩ : ∃ w, hasB words s = w := ⟨_, rfl⟩
  rw [hw0] at hw
  refine pure_by has55 ?_
  generalize hp : std = p
  (generalize cq0 : nameB = cy0; cbv <;> subst cq0)
  have e1 : p.lt (p.slen s) 1 = decide (s.length < 1) := by subst hp; simp only [std]; congr 1; exact propext (by omega)
  have e2 : p.lt 16 (p.slen s) = decide (16 < s.length) := by subst hp; simp [std]; omega
  refine cnd_intro ?_ ?_ <;> intro h1 <;> simp only [h1] <;> replace h1 := e1.symm.trans h1
  · (generalize cq0 : nameB = cy0; cbv <;> subst cq0)
    have : s = [] := List.eq_nil_of_length_eq_zero (by simpa using h1)
    subst this
    rfl
  cases s with
  | nil => simp at h1
  | cons c t =>
  obtain ⟨L, hL⟩ : ∃ L, c :: t = L := ⟨_, rfl⟩
  rw [hL] at e1 e2 hw hw0 ⊢
  have hnm : nameB f g L = (decide (t.length < 16) && (f (opI c) && (!w && !(t.any fun c => !g (opI c))))) := by rw [← hL, nameB, hL, hw0]
  have hll : L.length = t.length + 1 := by rw [← hL]; simp
  obtain ⟨q, hq⟩ : ∃ q, nameB f g L = q := ⟨_, rfl⟩
  rw [hq] at hnm ⊢
  cbv
  refine cnd_intro ?_ ?_ <;> intro h2 <;> simp only [h2] <;> replace h2 := e2.symm.trans h2
  · cbv
    have : ¬ t.length < 16 := by have := of_decide_eq_true h2; omega
    rw [hnm]
    simp [this]
  have ht : t.length < 16 := by have := of_decide_eq_false h2; omega
  cbv
  have hget : p.sget L 0 = opI c := by subst hp; rw [← hL]; simp [std, opI]
  refine ⟨by subst hp; simp [std]; omega, ?_⟩
  cbv
  have hf' : Pure E j [.d .old (.int .u8 (p.sget L 0))] (.d .top (.bool (f (opI c)))) := by rw [hget]; exact hf _
  have htl : p.bytes (p.scut L 1 (p.slen L)) = Bys t := by subst hp; rw [← hL]; simp [std, Bys]
  have hc : Pure E 94 [.d .old (.row 1 (p.bytes (p.scut L 1 (p.slen L)))), .fn 95 [] [.fb [.fn k [] []] 0]] (.d .top (.bool (t.any fun c => !g (opI c)))) := by rw [htl]; exact containsFuncB_ok hg t (by omega)
  have h16 : decide (t.length < 16) = true := by simpa using ht
  rw [h16] at hnm
  generalize f (opI c) = b1 at *
  generalize (t.any fun c => !g (opI c)) = b2 at *
  refine callA.pure hf' rfl ?_
  cbv
  cases b1 with
  | false =>
    simp only [not_f hp]
    cbv
    rw [hnm]
    rfl
  | true =>
    simp only [not_t hp]
    cbv
    refine callA.pure hw rfl ?_
    cbv
    cases w with
    | true =>
      cbv
      rw [hnm]
      rfl
    | false =>
      cbv
      refine ⟨by subst hp; simp [std]; omega, ?_⟩
      cbv
      refine callA.pure hc rfl ?_
      cbv
      rw [hnm]
      subst hp
      rfl
end Go.Ly.Tr
end
section
namespace Go.Ly.Tr
set_option maxRecDepth 4000
theorem var_kind : Kind8 56 fun c => std.le 117 c && std.le c 122 := fun b => by
  refine pure_by has56 ?_
  generalize hp : std = p
  cbv
  refine cnd_intro ?_ ?_ <;> intro hb <;> simp only [hb] <;> cbv
theorem fun_kind : Kind8 140 fun c => std.le 97 c && std.le c 116 := fun b => by
  refine pure_by has140 ?_
  generalize hp : std = p
  cbv
  refine cnd_intro ?_ ?_ <;> intro hb <;> simp only [hb] <;> cbv
theorem capital_kind : Kind8 163 fun c => std.le 65 c && std.le c 90 := fun c => capital_ok .old c
def letterB (c : Int) : Bool := (std.le 97 c && std.le c 122) || ((std.le 65 c && std.le c 90) || (std.le 48 c && std.le c 57))
theorem letter_kind : Kind8 141 letterB := fun b => by
  have h1 := small_ok .old b
  have h2 := capital_ok .old b
  have h3 := digit_ok .old b
  unfold letterB
  generalize (std.le 97 b && std.le b 122) = q1 at *
  generalize (std.le 65 b && std.le b 90) = q2 at *
  generalize (std.le 48 b && std.le b 57) = q3 at *
  refine pure_by has141 ?_
  generalize hp : std = p
  cbv
  refine callA.pure h1 rfl ?_
  cbv
  cases q1 with
  | true => cbv
  | false =>
    cbv
    refine callA.pure h2 rfl ?_
    cbv
    cases q2 with
    | true => cbv
    | false =>
      cbv
      refine callA.pure h3 rfl ?_
      cbv
def varB (s : Nm) : Bool := nameB (fun c => std.le 117 c && std.le c 122) (fun c => std.le 48 c && std.le c 57) s
def funB (s : Nm) : Bool := nameB (fun c => std.le 97 c && std.le c 116) letterB s
def predB (s : Nm) : Bool := nameB (fun c => std.le 65 c && std.le c 90) letterB s
theorem variable_ok (s : Nm) : Pure E 18 [.d .old (.str s)] (.d .top (.bool (varB s))) := by
  have h : Pure E 55 _ (.d .top (.bool (varB s))) := name_ok var_kind digit_kind s
  refine pure_by has18 ?_
  generalize hp : std = p
  (generalize cq0 : varB = cy0; cbv <;> subst cq0)
  refine callA.pure h rfl ?_
  (generalize cq0 : varB = cy0; cbv <;> subst cq0)
theorem function_ok (s : Nm) : Pure E 96 [.d .old (.str s)] (.d .top (.bool (funB s))) := by
  have h : Pure E 55 _ (.d .top (.bool (funB s))) := name_ok fun_kind letter_kind s
  refine pure_by has96 ?_
  generalize hp : std = p
  (generalize cq0 : funB = cy0; cbv <;> subst cq0)
  refine callA.pure h rfl ?_
  (generalize cq0 : funB = cy0; cbv <;> subst cq0)
theorem predicate_ok (s : Nm) : Pure E 134 [.d .old (.str s)] (.d .top (.bool (predB s))) := by
  have h : Pure E 55 _ (.d .top (.bool (predB s))) := name_ok capital_kind letter_kind s
  refine pure_by has134 ?_
  generalize hp : std = p
  (generalize cq0 : predB = cy0; cbv <;> subst cq0)
  refine callA.pure h rfl ?_
  (generalize cq0 : predB = cy0; cbv <;> subst cq0)
end Go.Ly.Tr
end
section
namespace Go.Ly.Tr
set_option maxRecDepth 4000
mutual
def Tm.same : Tm → Tm → Bool
  | .mk v n us, .mk v' n' us' => v == v' && (n == n' && Tm.sames us us')
def Tm.sames : List Tm → List Tm → Bool
  | [], [] => true
  | a :: l, b :: l' => a.same b && Tm.sames l l'
  | _, _ => false
end
theorem Tm.sames_app : ∀ (a a' b b' : List Tm), a.length = a'.length → Tm.sames (a ++ b) (a' ++ b') = (Tm.sames a a' && Tm.sames b b')
  | [], [], b, b', _ => by simp [Tm.sames]
  | x :: a, x' :: a', b, b', h => by
    simp only [List.cons_append, Tm.sames, Tm.sames_app a a' b b' (by simpa using h), Bool.and_assoc]
  | [], _ :: _, _, _, h => by simp at h
  | _ :: _, [], _, _, h => by simp at h
theorem Tm.sames_len : ∀ (a b : List Tm), Tm.sames a b = true → a.length = b.length
  | [], [], _ => rfl
  | x :: a, y :: b, h => by
    simp only [Tm.sames, Bool.and_eq_true] at h
    simp [Tm.sames_len a b h.2]
  | [], _ :: _, h => by simp [Tm.sames] at h
  | _ :: _, [], h => by simp [Tm.sames] at h
theorem sameTerms_ok (a b : List Tm) (hs : Tm.size.sizes a ≤ 1000000) : Pure E 36 [.d .old (.row 3 (Tm.ds a)), .d .old (.row 3 (Tm.ds b))] (.d .top (.bool (Tm.sames a b))) := by
  obtain ⟨n, hn⟩ : ∃ n, Tm.size.sizes a < n := ⟨_, Nat.lt_succ_self _⟩
  induction n generalizing a b with
  | zero => omega
  | succ n ih =>
  have hla := Tm.len_size a
  refine pure_by has36 ?_
  generalize hp : std = p
  (generalize cq0 : Tm.ds = cy0, cq1 : Tm.sames = cy1; cbv <;> subst cq0 cq1)
  have e1 : p.not (p.eq (p.dlen (Tm.ds a)) (p.dlen (Tm.ds b))) = decide (a.length ≠ b.length) := by
    subst hp
    simp only [std, Tm.ds_len]
    by_cases h : a.length = b.length <;> simp [h]
    omega
  refine cnd_intro ?_ ?_ <;> intro hb <;> replace hb := e1.symm.trans hb
  · (generalize cq0 : Tm.ds = cy0, cq1 : Tm.sames = cy1; cbv <;> subst cq0 cq1)
    have : Tm.sames a b = false := by
      cases h : Tm.sames a b with
      | false => rfl
      | true => have := Tm.sames_len a b h; simp [this] at hb
    rw [this]
  · have hlen : a.length = b.length := by simpa using hb
    (generalize cq0 : Tm.ds = cy0, cq1 : Tm.sames = cy1; cbv <;> subst cq0 cq1)
    subst hp
    refine loopA_inv (ι := (List Tm × List Tm) × (List Tm × List Tm)) (fun j => a = j.1.1 ++ j.1.2 ∧ b = j.2.1 ++ j.2.2 ∧ j.1.1.length = j.2.1.length ∧ Tm.sames j.1.1 j.2.1 = true) (fun j => j.1.2.length)
      (fun j => mkF 55 [(0, .d .old (.row 3 (Tm.ds a))), (1, .d .old (.row 3 (Tm.ds b))), (4, .d .top (.bool false)), (5, .d .top (.int .i64 (std.dlen (Tm.ds j.1.1))))])
      (fun j => []) (fun j => ()) (([], a), ([], b)) ⟨rfl, rfl, rfl, rfl⟩ ?_ rfl (fun _ => rfl) ?_
    · generalize hp : std = p
      (generalize cq0 : Tm.ds = cy0; cbv <;> subst cq0)
      subst hp
      simp [std, Tm.ds]
    · rintro ⟨⟨d, r⟩, ⟨d2, r2⟩⟩ ⟨ha, hb2, hdd, hsm⟩
      simp only at ha hb2 hdd hsm ⊢
      cases r with
      | nil =>
        have hr2 : r2 = [] := by
          have := hlen
          rw [ha, hb2] at this
          simp only [List.length_append, List.append_nil, List.length_nil] at this
          exact List.eq_nil_of_length_eq_zero (by omega)
        rw [List.append_nil] at ha
        rw [hr2, List.append_nil] at hb2
        subst ha hb2
        generalize hp : std = p
        (generalize cq0 : Tm.ds = cy0, cq1 : Tm.sames = cy1; cbv <;> subst cq0 cq1)
        simp only [end_ltT hp]
        (generalize cq0 : Tm.ds = cy0, cq1 : Tm.sames = cy1; cbv <;> subst cq0 cq1)
        rw [hsm]
      | cons x r =>
        obtain ⟨y, r2', hr2⟩ : ∃ y r2', r2 = y :: r2' := by
          cases r2 with
          | nil =>
            have := hlen
            rw [ha, hb2] at this
            simp at this
            omega
          | cons y r2' => exact ⟨y, r2', rfl⟩
        subst hr2
        have hdl : d.length + (r.length + 1) = a.length := by rw [ha]; simp
        have hsz : Tm.size.sizes a = Tm.size.sizes d + (x.size + Tm.size.sizes r) := by rw [ha, Tm.sizes_app]; simp [Tm.size.sizes]
        have hwhole : Tm.sames a b = (x.same y && Tm.sames r r2') := by rw [ha, hb2, Tm.sames_app _ _ _ _ hdd, hsm]; simp [Tm.sames]
        obtain ⟨v, nm, us⟩ := x
        obtain ⟨v', nm', us'⟩ := y
        simp only [Tm.size] at hsz
        simp only [Tm.same] at hwhole
        generalize hp : std = p
        have g2 : p.dget (Tm.ds b) (p.dlen (Tm.ds d)) = some (.agg [.bool v', .str nm', .row 3 (Tm.ds us')]) := by
          have := at_getT hp hb2
          have e : p.dlen (Tm.ds d) = p.dlen (Tm.ds d2) := by subst hp; simp [std, Tm.ds_len, hdd]
          rw [e]
          exact this
        (generalize cq0 : Tm.ds = cy0, cq1 : Tm.sames = cy1; cbv <;> subst cq0 cq1)
        simp only [at_ltT hp ha]
        (generalize cq0 : Tm.ds = cy0, cq1 : Tm.sames = cy1; cbv <;> subst cq0 cq1)
        refine ⟨_, at_getT hp ha, ?_⟩
        (generalize cq0 : Tm.ds = cy0, cq1 : Tm.sames = cy1; cbv <;> subst cq0 cq1)
        refine ⟨_, g2, ?_⟩
        (generalize cq0 : Tm.ds = cy0, cq1 : Tm.sames = cy1; cbv <;> subst cq0 cq1)
        have b1 : p.not (p.beq v v') = !(v == v') := by subst hp; rfl
        have b2 : p.not (p.seq nm nm') = !(nm == nm') := by subst hp; rfl
        have b3 : p.not (Tm.sames us us') = !(Tm.sames us us') := by subst hp; rfl
        refine cnd_intro ?_ ?_ <;> intro h1 <;> simp only [h1] <;> replace h1 := b1.symm.trans h1
        · (generalize cq0 : Tm.ds = cy0, cq1 : Tm.sames = cy1; cbv <;> subst cq0 cq1)
          have : (v == v') = false := by simpa using h1
          rw [hwhole, this]
          rfl
        have hv : (v == v') = true := by simpa using h1
        (generalize cq0 : Tm.ds = cy0, cq1 : Tm.sames = cy1; cbv <;> subst cq0 cq1)
        refine ⟨_, at_getT hp ha, ?_⟩
        (generalize cq0 : Tm.ds = cy0, cq1 : Tm.sames = cy1; cbv <;> subst cq0 cq1)
        refine ⟨_, g2, ?_⟩
        (generalize cq0 : Tm.ds = cy0, cq1 : Tm.sames = cy1; cbv <;> subst cq0 cq1)
        refine cnd_intro ?_ ?_ <;> intro h2 <;> simp only [h2] <;> replace h2 := b2.symm.trans h2
        · (generalize cq0 : Tm.ds = cy0, cq1 : Tm.sames = cy1; cbv <;> subst cq0 cq1)
          have : (nm == nm') = false := by simpa using h2
          rw [hwhole, this]
          simp
        have hnm : (nm == nm') = true := by simpa using h2
        (generalize cq0 : Tm.ds = cy0, cq1 : Tm.sames = cy1; cbv <;> subst cq0 cq1)
        refine ⟨_, at_getT hp ha, ?_⟩
        (generalize cq0 : Tm.ds = cy0, cq1 : Tm.sames = cy1; cbv <;> subst cq0 cq1)
        refine ⟨_, g2, ?_⟩
        (generalize cq0 : Tm.ds = cy0, cq1 : Tm.sames = cy1; cbv <;> subst cq0 cq1)
        refine drawA.mk _ ⟨_, _, _, rfl, ih us us' (by omega) (by omega), rfl, rfl⟩ ?_
        (generalize cq0 : Tm.ds = cy0, cq1 : Tm.sames = cy1; cbv <;> subst cq0 cq1)
        refine cnd_intro ?_ ?_ <;> intro h3 <;> replace h3 := b3.symm.trans h3
        · (generalize cq0 : Tm.ds = cy0, cq1 : Tm.sames = cy1; cbv <;> subst cq0 cq1)
          have : Tm.sames us us' = false := by simpa using h3
          rw [hwhole, this]
          simp
        have hus : Tm.sames us us' = true := by simpa using h3
        (generalize cq0 : Tm.ds = cy0, cq1 : Tm.sames = cy1; cbv <;> subst cq0 cq1)
        refine ⟨by subst hp; simp [std, Tm.ds_len]; omega, ((d ++ [.mk v nm us], r), (d2 ++ [.mk v' nm' us'], r2')), ⟨by rw [ha]; simp, by rw [hb2]; simp, by simp [hdd], ?_⟩, by simp, ?_, rfl⟩
        · rw [Tm.sames_app _ _ _ _ hdd, hsm]
          simp [Tm.sames, Tm.same, hv, hnm, hus]
        · generalize hd' : d ++ [Tm.mk v nm us] = d'
          (generalize cq0 : Tm.ds = cy0, cq1 : Tm.sames = cy1; cbv <;> subst cq0 cq1)
          subst hp hd'
          simp [std, Tm.ds_len]
end Go.Ly.Tr
end
section
namespace Go.Ly.Tr
set_option maxRecDepth 4000
mutual
def Frm.same : Frm → Frm → Bool
  | .mk o n us fs, .mk o' n' us' fs' => o == o' && (n == n' && (Tm.sames us us' && Frm.sames fs fs'))
def Frm.sames : List Frm → List Frm → Bool
  | [], [] => true
  | a :: l, b :: l' => a.same b && Frm.sames l l'
  | _, _ => false
end
theorem Frm.sames_app : ∀ (a a' b b' : List Frm), a.length = a'.length → Frm.sames (a ++ b) (a' ++ b') = (Frm.sames a a' && Frm.sames b b')
  | [], [], b, b', _ => by simp [Frm.sames]
  | x :: a, x' :: a', b, b', h => by
    simp only [List.cons_append, Frm.sames, Frm.sames_app a a' b b' (by simpa using h), Bool.and_assoc]
  | [], _ :: _, _, _, h => by simp at h
  | _ :: _, [], _, _, h => by simp at h
theorem Frm.sames_len : ∀ (a b : List Frm), Frm.sames a b = true → a.length = b.length
  | [], [], _ => rfl
  | x :: a, y :: b, h => by
    simp only [Frm.sames, Bool.and_eq_true] at h
    simp [Frm.sames_len a b h.2]
  | [], _ :: _, h => by simp [Frm.sames] at h
  | _ :: _, [], h => by simp [Frm.sames] at h
theorem sameForms_of (a b : List Frm) (hla : a.length ≤ 1000000) (ih : ∀ x ∈ a, ∀ y : Frm, Pure E 23 [.d .old x.d, .d .old y.d] (.d .top (.bool (x.same y)))) :
    Pure E 65 [.d .old (.row 4 (Frm.ds a)), .d .old (.row 4 (Frm.ds b))] (.d .top (.bool (Frm.sames a b))) := by
  refine pure_by has65 ?_
  generalize hp : std = p
  (generalize cq0 : Frm.ds = cy0, cq1 : Frm.sames = cy1; cbv <;> subst cq0 cq1)
  have e1 : p.not (p.eq (p.dlen (Frm.ds a)) (p.dlen (Frm.ds b))) = decide (a.length ≠ b.length) := by
    subst hp
    simp only [std, Frm.ds_len]
    by_cases h : a.length = b.length <;> simp [h]
    omega
  refine cnd_intro ?_ ?_ <;> intro hb <;> replace hb := e1.symm.trans hb
  · (generalize cq0 : Frm.ds = cy0, cq1 : Frm.sames = cy1; cbv <;> subst cq0 cq1)
    have : Frm.sames a b = false := by
      cases h : Frm.sames a b with
      | false => rfl
      | true => have := Frm.sames_len a b h; simp [this] at hb
    rw [this]
  · have hlen : a.length = b.length := by simpa using hb
    (generalize cq0 : Frm.ds = cy0, cq1 : Frm.sames = cy1; cbv <;> subst cq0 cq1)
    subst hp
    refine loopA_inv (ι := (List Frm × List Frm) × (List Frm × List Frm)) (fun j => a = j.1.1 ++ j.1.2 ∧ b = j.2.1 ++ j.2.2 ∧ j.1.1.length = j.2.1.length ∧ Frm.sames j.1.1 j.2.1 = true) (fun j => j.1.2.length)
      (fun j => mkF 27 [(0, .d .old (.row 4 (Frm.ds a))), (1, .d .old (.row 4 (Frm.ds b))), (4, .d .top (.bool false)), (5, .d .top (.int .i64 (std.dlen (Frm.ds j.1.1))))])
      (fun j => []) (fun j => ()) (([], a), ([], b)) ⟨rfl, rfl, rfl, rfl⟩ ?_ rfl (fun _ => rfl) ?_
    · generalize hp : std = p
      (generalize cq0 : Frm.ds = cy0; cbv <;> subst cq0)
      subst hp
      simp [std, Frm.ds]
    · rintro ⟨⟨d, r⟩, ⟨d2, r2⟩⟩ ⟨ha, hb2, hdd, hsm⟩
      simp only at ha hb2 hdd hsm ⊢
      cases r with
      | nil =>
        have hr2 : r2 = [] := by
          have := hlen
          rw [ha, hb2] at this
          simp only [List.length_append, List.append_nil, List.length_nil] at this
          exact List.eq_nil_of_length_eq_zero (by omega)
        rw [List.append_nil] at ha
        rw [hr2, List.append_nil] at hb2
        subst ha hb2
        generalize hp : std = p
        (generalize cq0 : Frm.ds = cy0, cq1 : Frm.sames = cy1; cbv <;> subst cq0 cq1)
        simp only [end_ltF hp]
        (generalize cq0 : Frm.ds = cy0, cq1 : Frm.sames = cy1; cbv <;> subst cq0 cq1)
        rw [hsm]
      | cons x r =>
        obtain ⟨y, r2', hr2⟩ : ∃ y r2', r2 = y :: r2' := by
          cases r2 with
          | nil =>
            have := hlen
            rw [ha, hb2] at this
            simp at this
            omega
          | cons y r2' => exact ⟨y, r2', rfl⟩
        subst hr2
        have hdl : d.length + (r.length + 1) = a.length := by rw [ha]; simp
        have hwhole : Frm.sames a b = (x.same y && Frm.sames r r2') := by rw [ha, hb2, Frm.sames_app _ _ _ _ hdd, hsm]; simp [Frm.sames]
        have hok := ih x (by rw [ha]; simp) y
        obtain ⟨q, hq⟩ : ∃ q, x.same y = q := ⟨_, rfl⟩
        rw [hq] at hwhole hok
        obtain ⟨o, nm, us, fs⟩ := x
        obtain ⟨o', nm', us', fs'⟩ := y
        simp only [Frm.d] at hok
        generalize hp : std = p
        have g2 : p.dget (Frm.ds b) (p.dlen (Frm.ds d)) = some (.agg [.int .u8 (opI o'), .str nm', .row 3 (Tm.ds us'), .row 4 (Frm.ds fs')]) := by
          have := at_getF hp hb2
          have e : p.dlen (Frm.ds d) = p.dlen (Frm.ds d2) := by subst hp; simp [std, Frm.ds_len, hdd]
          rw [e]
          exact this
        have b3 : p.not q = !q := by subst hp; rfl
        (generalize cq0 : Frm.ds = cy0, cq1 : Frm.sames = cy1; cbv <;> subst cq0 cq1)
        simp only [at_ltF hp ha]
        (generalize cq0 : Frm.ds = cy0, cq1 : Frm.sames = cy1; cbv <;> subst cq0 cq1)
        refine ⟨_, at_getF hp ha, ?_⟩
        (generalize cq0 : Frm.ds = cy0, cq1 : Frm.sames = cy1, cq2 : Tm.ds = cy2, cq3 : opI = cy3; cbv <;> subst cq0 cq1 cq2 cq3)
        refine ⟨_, g2, ?_⟩
        (generalize cq0 : Frm.ds = cy0, cq1 : Frm.sames = cy1, cq2 : Tm.ds = cy2, cq3 : opI = cy3; cbv <;> subst cq0 cq1 cq2 cq3)
        refine drawA.mk _ ⟨_, _, _, rfl, hok, rfl, rfl⟩ ?_
        (generalize cq0 : Frm.ds = cy0, cq1 : Frm.sames = cy1, cq2 : Tm.ds = cy2, cq3 : opI = cy3; cbv <;> subst cq0 cq1 cq2 cq3)
        refine cnd_intro ?_ ?_ <;> intro h3 <;> replace h3 := b3.symm.trans h3
        · (generalize cq0 : Frm.ds = cy0, cq1 : Frm.sames = cy1, cq2 : Tm.ds = cy2, cq3 : opI = cy3; cbv <;> subst cq0 cq1 cq2 cq3)
          have : q = false := by simpa using h3
          rw [hwhole, this]
          simp
        have hqt : q = true := by simpa using h3
        (generalize cq0 : Frm.ds = cy0, cq1 : Frm.sames = cy1, cq2 : Tm.ds = cy2, cq3 : opI = cy3; cbv <;> subst cq0 cq1 cq2 cq3)
        refine ⟨by subst hp; simp [std, Frm.ds_len]; omega, ((d ++ [.mk o nm us fs], r), (d2 ++ [.mk o' nm' us' fs'], r2')), ⟨by rw [ha]; simp, by rw [hb2]; simp, by simp [hdd], ?_⟩, by simp, ?_, rfl⟩
        · rw [Frm.sames_app _ _ _ _ hdd, hsm]
          simp [Frm.sames, hq, hqt]
        · generalize hd' : d ++ [Frm.mk o nm us fs] = d'
          (generalize cq0 : Frm.ds = cy0, cq1 : Tm.ds = cy1, cq2 : opI = cy2; cbv <;> subst cq0 cq1 cq2)
          subst hp hd'
          simp [std, Frm.ds_len]
theorem same_ok (f : Frm) : f.size ≤ 1000000 → ∀ g : Frm, Pure E 23 [.d .old f.d, .d .old g.d] (.d .top (.bool (f.same g))) := by
  induction f using Frm.ind with
  | h o n us fs ih =>
  intro hs g
  have hs' : Tm.size.sizes us + Frm.size.sizes fs + 1 ≤ 1000000 := hs
  have hl := Frm.len_size fs
  obtain ⟨o', n', us', fs'⟩ := g
  have h1 := sameTerms_ok us us' (by omega)
  have h2 := sameForms_of fs fs' (by omega) fun x hx y => ih x hx (by have := Frm.size_mem hx; omega) y
  simp only [Frm.d, Frm.same]
  generalize Tm.sames us us' = q1 at *
  generalize Frm.sames fs fs' = q2 at *
  refine pure_by has23 ?_
  generalize hp : std = p
  have b1 : p.eq (opI o) (opI o') = (o == o') := by
    subst hp
    simp only [std, opI]
    rw [Bool.eq_iff_iff, beq_iff_eq, beq_iff_eq]
    exact ⟨fun e => UInt8.toNat_inj.1 (by omega), fun e => by rw [e]⟩
  have b2 : p.seq n n' = (n == n') := by subst hp; rfl
  generalize (o == o') = q3 at *
  generalize (n == n') = q4 at *
  (generalize cq0 : Frm.ds = cy0, cq1 : Tm.ds = cy1, cq2 : opI = cy2; cbv <;> subst cq0 cq1 cq2)
  refine cnd_intro ?_ ?_ <;> intro h3 <;> simp only [h3] <;> replace h3 := b1.symm.trans h3 <;> subst h3
  · (generalize cq0 : Frm.ds = cy0, cq1 : Tm.ds = cy1, cq2 : opI = cy2; cbv <;> subst cq0 cq1 cq2)
    refine cnd_intro ?_ ?_ <;> intro h4 <;> simp only [h4] <;> replace h4 := b2.symm.trans h4 <;> subst h4
    · (generalize cq0 : Frm.ds = cy0, cq1 : Tm.ds = cy1, cq2 : opI = cy2; cbv <;> subst cq0 cq1 cq2)
      refine callA.pure h1 rfl ?_
      (generalize cq0 : Frm.ds = cy0, cq1 : Tm.ds = cy1, cq2 : opI = cy2; cbv <;> subst cq0 cq1 cq2)
      refine cnd_intro ?_ ?_ <;> intro h5 <;> subst h5
      · (generalize cq0 : Frm.ds = cy0, cq1 : Tm.ds = cy1, cq2 : opI = cy2; cbv <;> subst cq0 cq1 cq2)
        refine callA.pure h2 rfl ?_
        (generalize cq0 : Frm.ds = cy0, cq1 : Tm.ds = cy1, cq2 : opI = cy2; cbv <;> subst cq0 cq1 cq2)
      · (generalize cq0 : Frm.ds = cy0, cq1 : Tm.ds = cy1, cq2 : opI = cy2; cbv <;> subst cq0 cq1 cq2)
    · (generalize cq0 : Frm.ds = cy0, cq1 : Tm.ds = cy1, cq2 : opI = cy2; cbv <;> subst cq0 cq1 cq2)
  · (generalize cq0 : Frm.ds = cy0, cq1 : Tm.ds = cy1, cq2 : opI = cy2; cbv <;> subst cq0 cq1 cq2)
end Go.Ly.Tr
end
section
namespace Go.Ly.Tr
set_option maxRecDepth 4000
def mapO {α : Type} (g : α → D) (l : List α) : List D := l.map g
section
variable {α : Type} {g : α → D} {p : Prims} {l d r : List α} {e : α}
theorem at_ltO (hp : std = p) (h : l = d ++ e :: r) : p.lt (p.dlen (mapO g d)) (p.dlen (mapO g l)) = true := at_ltM hp h
theorem end_ltO (hp : std = p) (l : List α) : p.lt (p.dlen (mapO g l)) (p.dlen (mapO g l)) = false := end_ltM hp l
theorem at_getO (hp : std = p) (h : l = d ++ e :: r) : p.dget (mapO g l) (p.dlen (mapO g d)) = some (g e) := at_getM hp h
theorem mapO_len (l : List α) : (mapO g l).length = l.length := by simp [mapO]
end
def idxQ {α : Type} (q : α → Bool) : List α → Nat → Int
  | [], _ => -1
  | e :: r, k => if q e then (k : Int) else idxQ q r (k + 1)
theorem idxQ_app {α : Type} (q : α → Bool) : ∀ (d r : List α) (k : Nat), d.any q = false → idxQ q (d ++ r) k = idxQ q r (k + d.length)
  | [], r, k, _ => by simp
  | e :: d, r, k, h => by
    rw [List.any_cons, Bool.or_eq_false_iff] at h
    rw [List.cons_append, idxQ, if_neg (by simp [h.1]), idxQ_app q d r (k + 1) h.2, List.length_cons]
    congr 1
    omega
theorem idxQ_has {α : Type} (q : α → Bool) : ∀ (l : List α) (k : Nat), decide (0 ≤ idxQ q l k) = l.any q
  | [], _ => rfl
  | e :: r, k => by
    have := idxQ_has q r (k + 1)
    rw [List.any_cons, idxQ, ← this]
    by_cases h : q e = true
    · rw [if_pos h, h]
      simp
    · rw [if_neg h]
      simp [h]
theorem indexT_ok {α : Type} {g : α → D} {q : α → Bool} {k : Nat} {y : D} (l : List α) (hl : l.length ≤ 9223372036854775807) (hel : ∀ x ∈ l, (∃ v1 v2 v3, g x = .agg [.bool v1, .str v2, .row 3 v3]) ∧ Pure E k [.d .old (g x), .fb [.d .old y] 0] (.d .top (.bool (q x)))) :
    Pure E 137 [.d .old (.row 3 (mapO g l)), .fn k [] [.fb [.d .old y] 0]] (.d .top (.int .i64 (idxQ q l 0))) := by
  refine pure_by has137 ?_
  generalize hp : std = p
  (generalize cq0 : mapO = cy0; cbv <;> subst cq0)
  subst hp
  refine loopA_inv (ι := List α × List α) (fun j => l = j.1 ++ j.2 ∧ j.1.any q = false) (fun j => j.2.length)
    (fun j => mkF 19 [(0, .d .old (.row 3 (mapO g l))), (1, .fn k [] [.fb [.d .old y] 0]), (6, .d .old (.row 3 (mapO g l))), (7, .d .top (.int .i64 (std.dlen (mapO g l)))), (8, .d .top (.int .i64 (std.dlen (mapO g j.1))))])
    (fun j => []) (fun j => ()) ([], l) ⟨rfl, rfl⟩ ?_ rfl (fun _ => rfl) ?_
  · generalize hp : std = p
    (generalize cq0 : mapO = cy0; cbv <;> subst cq0)
    subst hp
    simp [std, mapO]
  · rintro ⟨d, r⟩ ⟨hes, hd⟩
    simp only at hes hd ⊢
    cases r with
    | nil =>
      rw [List.append_nil] at hes
      subst hes
      have hi : idxQ q l 0 = -1 := by
        have := idxQ_app q l [] 0 hd
        rw [List.append_nil] at this
        rw [this]
        rfl
      rw [hi]
      generalize hp : std = p
      (generalize cq0 : mapO = cy0; cbv <;> subst cq0)
      simp only [end_ltO hp]
      (generalize cq0 : mapO = cy0; cbv <;> subst cq0)
    | cons e r =>
      have hi : idxQ q l 0 = if q e then (d.length : Int) else idxQ q r (d.length + 1) := by rw [hes, idxQ_app _ _ _ _ hd]; simp [idxQ]
      obtain ⟨z, hz⟩ : ∃ z, idxQ q l 0 = z := ⟨_, rfl⟩
      obtain ⟨⟨v1, v2, v3, he⟩, hok⟩ := hel e (by rw [hes]; simp)
      rw [he] at hok
      obtain ⟨bb, hb0⟩ : ∃ bb, q e = bb := ⟨_, rfl⟩
      rw [hz, hb0] at hi
      rw [hb0] at hok
      rw [hz]
      generalize hp : std = p
      have hget := at_getO (g := g) hp hes
      rw [he] at hget
      (generalize cq0 : mapO = cy0; cbv <;> subst cq0)
      simp only [at_ltO hp hes]
      (generalize cq0 : mapO = cy0; cbv <;> subst cq0)
      refine ⟨_, hget, ?_⟩
      (generalize cq0 : mapO = cy0; cbv <;> subst cq0)
      refine callA.pure hok rfl ?_
      (generalize cq0 : mapO = cy0; cbv <;> subst cq0)
      refine cnd_intro ?_ ?_ <;> intro hb <;> subst hb <;> (generalize cq0 : mapO = cy0; cbv <;> subst cq0)
      · subst hp
        rw [hi]
        simp [std, mapO]
      · have hdl : d.length + (r.length + 1) = l.length := by rw [hes]; simp
        refine ⟨by subst hp; simp [std, mapO]; omega, (d ++ [e], r), ⟨by rw [hes]; simp, by rw [List.any_append, hd]; simp [hb0]⟩, by simp, ?_, rfl⟩
        generalize hd' : d ++ [e] = d'
        (generalize cq0 : mapO = cy0; cbv <;> subst cq0)
        subst hp hd'
        simp [std, mapO]
theorem containsFuncT_ok {α : Type} {g : α → D} {q : α → Bool} {k : Nat} {y : D} (l : List α) (hl : l.length ≤ 9223372036854775807) (hel : ∀ x ∈ l, (∃ v1 v2 v3, g x = .agg [.bool v1, .str v2, .row 3 v3]) ∧ Pure E k [.d .old (g x), .fb [.d .old y] 0] (.d .top (.bool (q x)))) :
    Pure E 90 [.d .old (.row 3 (mapO g l)), .fn k [] [.fb [.d .old y] 0]] (.d .top (.bool (l.any q))) := by
  have h1 := indexT_ok l hl hel
  have h2 := idxQ_has q l 0
  generalize idxQ q l 0 = z at *
  generalize (l.any q) = b at *
  refine pure_by has90 ?_
  generalize hp : std = p
  (generalize cq0 : mapO = cy0; cbv <;> subst cq0)
  refine callA.pure h1 rfl ?_
  (generalize cq0 : mapO = cy0; cbv <;> subst cq0)
  subst hp
  rw [← h2]
  rfl
theorem indexF_ok {α : Type} {g : α → D} {q : α → Bool} {k : Nat} {y : D} (l : List α) (hl : l.length ≤ 9223372036854775807) (hel : ∀ x ∈ l, (∃ v1 v2 v3 v4, g x = .agg [.int .u8 v1, .str v2, .row 3 v3, .row 4 v4]) ∧ Pure E k [.d .old (g x), .fb [.d .old y] 0] (.d .top (.bool (q x)))) :
    Pure E 138 [.d .old (.row 4 (mapO g l)), .fn k [] [.fb [.d .old y] 0]] (.d .top (.int .i64 (idxQ q l 0))) := by
  refine pure_by has138 ?_
  generalize hp : std = p
  (generalize cq0 : mapO = cy0; cbv <;> subst cq0)
  subst hp
  refine loopA_inv (ι := List α × List α) (fun j => l = j.1 ++ j.2 ∧ j.1.any q = false) (fun j => j.2.length)
    (fun j => mkF 19 [(0, .d .old (.row 4 (mapO g l))), (1, .fn k [] [.fb [.d .old y] 0]), (6, .d .old (.row 4 (mapO g l))), (7, .d .top (.int .i64 (std.dlen (mapO g l)))), (8, .d .top (.int .i64 (std.dlen (mapO g j.1))))])
    (fun j => []) (fun j => ()) ([], l) ⟨rfl, rfl⟩ ?_ rfl (fun _ => rfl) ?_
  · generalize hp : std = p
    (generalize cq0 : mapO = cy0; cbv <;> subst cq0)
    subst hp
    simp [std, mapO]
  · rintro ⟨d, r⟩ ⟨hes, hd⟩
    simp only at hes hd ⊢
    cases r with
    | nil =>
      rw [List.append_nil] at hes
      subst hes
      have hi : idxQ q l 0 = -1 := by
        have := idxQ_app q l [] 0 hd
        rw [List.append_nil] at this
        rw [this]
        rfl
      rw [hi]
      generalize hp : std = p
      (generalize cq0 : mapO = cy0; cbv <;> subst cq0)
      simp only [end_ltO hp]
      (generalize cq0 : mapO = cy0; cbv <;> subst cq0)
    | cons e r =>
      have hi : idxQ q l 0 = if q e then (d.length : Int) else idxQ q r (d.length + 1) := by rw [hes, idxQ_app _ _ _ _ hd]; simp [idxQ]
      obtain ⟨z, hz⟩ : ∃ z, idxQ q l 0 = z := ⟨_, rfl⟩
      obtain ⟨⟨v1, v2, v3, v4, he⟩, hok⟩ := hel e (by rw [hes]; simp)
      rw [he] at hok
      obtain ⟨bb, hb0⟩ : ∃ bb, q e = bb := ⟨_, rfl⟩
      rw [hz, hb0] at hi
      rw [hb0] at hok
      rw [hz]
      generalize hp : std = p
      have hget := at_getO (g := g) hp hes
      rw [he] at hget
      (generalize cq0 : mapO = cy0; cbv <;> subst cq0)
      simp only [at_ltO hp hes]
      (generalize cq0 : mapO = cy0; cbv <;> subst cq0)
      refine ⟨_, hget, ?_⟩
      (generalize cq0 : mapO = cy0; cbv <;> subst cq0)
      refine callA.pure hok rfl ?_
      (generalize cq0 : mapO = cy0; cbv <;> subst cq0)
      refine cnd_intro ?_ ?_ <;> intro hb <;> subst hb <;> (generalize cq0 : mapO = cy0; cbv <;> subst cq0)
      · subst hp
        rw [hi]
        simp [std, mapO]
      · have hdl : d.length + (r.length + 1) = l.length := by rw [hes]; simp
        refine ⟨by subst hp; simp [std, mapO]; omega, (d ++ [e], r), ⟨by rw [hes]; simp, by rw [List.any_append, hd]; simp [hb0]⟩, by simp, ?_, rfl⟩
        generalize hd' : d ++ [e] = d'
        (generalize cq0 : mapO = cy0; cbv <;> subst cq0)
        subst hp hd'
        simp [std, mapO]
theorem containsFuncF_ok {α : Type} {g : α → D} {q : α → Bool} {k : Nat} {y : D} (l : List α) (hl : l.length ≤ 9223372036854775807) (hel : ∀ x ∈ l, (∃ v1 v2 v3 v4, g x = .agg [.int .u8 v1, .str v2, .row 3 v3, .row 4 v4]) ∧ Pure E k [.d .old (g x), .fb [.d .old y] 0] (.d .top (.bool (q x)))) :
    Pure E 92 [.d .old (.row 4 (mapO g l)), .fn k [] [.fb [.d .old y] 0]] (.d .top (.bool (l.any q))) := by
  have h1 := indexF_ok l hl hel
  have h2 := idxQ_has q l 0
  generalize idxQ q l 0 = z at *
  generalize (l.any q) = b at *
  refine pure_by has92 ?_
  generalize hp : std = p
  (generalize cq0 : mapO = cy0; cbv <;> subst cq0)
  refine callA.pure h1 rfl ?_
  (generalize cq0 : mapO = cy0; cbv <;> subst cq0)
  subst hp
  rw [← h2]
  rfl
theorem indexL_ok {α : Type} {g : α → D} {q : α → Bool} {k : Nat} {y : D} (l : List α) (hl : l.length ≤ 9223372036854775807) (hel : ∀ x ∈ l, (∃ v1 v2 v3 v4, g x = .agg [.str v1, .bool v2, .str v3, .row 3 v4]) ∧ Pure E k [.d .old (g x), .fb [.d .old y] 0] (.d .top (.bool (q x)))) :
    Pure E 98 [.d .old (.row 4 (mapO g l)), .fn k [] [.fb [.d .old y] 0]] (.d .top (.int .i64 (idxQ q l 0))) := by
  refine pure_by has98 ?_
  generalize hp : std = p
  (generalize cq0 : mapO = cy0; cbv <;> subst cq0)
  subst hp
  refine loopA_inv (ι := List α × List α) (fun j => l = j.1 ++ j.2 ∧ j.1.any q = false) (fun j => j.2.length)
    (fun j => mkF 19 [(0, .d .old (.row 4 (mapO g l))), (1, .fn k [] [.fb [.d .old y] 0]), (6, .d .old (.row 4 (mapO g l))), (7, .d .top (.int .i64 (std.dlen (mapO g l)))), (8, .d .top (.int .i64 (std.dlen (mapO g j.1))))])
    (fun j => []) (fun j => ()) ([], l) ⟨rfl, rfl⟩ ?_ rfl (fun _ => rfl) ?_
  · generalize hp : std = p
    (generalize cq0 : mapO = cy0; cbv <;> subst cq0)
    subst hp
    simp [std, mapO]
  · rintro ⟨d, r⟩ ⟨hes, hd⟩
    simp only at hes hd ⊢
    cases r with
    | nil =>
      rw [List.append_nil] at hes
      subst hes
      have hi : idxQ q l 0 = -1 := by
        have := idxQ_app q l [] 0 hd
        rw [List.append_nil] at this
        rw [this]
        rfl
      rw [hi]
      generalize hp : std = p
      (generalize cq0 : mapO = cy0; cbv <;> subst cq0)
      simp only [end_ltO hp]
      (generalize cq0 : mapO = cy0; cbv <;> subst cq0)
    | cons e r =>
      have hi : idxQ q l 0 = if q e then (d.length : Int) else idxQ q r (d.length + 1) := by rw [hes, idxQ_app _ _ _ _ hd]; simp [idxQ]
      obtain ⟨z, hz⟩ : ∃ z, idxQ q l 0 = z := ⟨_, rfl⟩
      obtain ⟨⟨v1, v2, v3, v4, he⟩, hok⟩ := hel e (by rw [hes]; simp)
      rw [he] at hok
      obtain ⟨bb, hb0⟩ : ∃ bb, q e = bb := ⟨_, rfl⟩
      rw [hz, hb0] at hi
      rw [hb0] at hok
      rw [hz]
      generalize hp : std = p
      have hget := at_getO (g := g) hp hes
      rw [he] at hget
      (generalize cq0 : mapO = cy0; cbv <;> subst cq0)
      simp only [at_ltO hp hes]
      (generalize cq0 : mapO = cy0; cbv <;> subst cq0)
      refine ⟨_, hget, ?_⟩
      (generalize cq0 : mapO = cy0; cbv <;> subst cq0)
      refine callA.pure hok rfl ?_
      (generalize cq0 : mapO = cy0; cbv <;> subst cq0)
      refine cnd_intro ?_ ?_ <;> intro hb <;> subst hb <;> (generalize cq0 : mapO = cy0; cbv <;> subst cq0)
      · subst hp
        rw [hi]
        simp [std, mapO]
      · have hdl : d.length + (r.length + 1) = l.length := by rw [hes]; simp
        refine ⟨by subst hp; simp [std, mapO]; omega, (d ++ [e], r), ⟨by rw [hes]; simp, by rw [List.any_append, hd]; simp [hb0]⟩, by simp, ?_, rfl⟩
        generalize hd' : d ++ [e] = d'
        (generalize cq0 : mapO = cy0; cbv <;> subst cq0)
        subst hp hd'
        simp [std, mapO]
theorem indexO_ok {α : Type} {g : α → D} {q : α → Bool} {k : Nat} {y : D} (l : List α) (hl : l.length ≤ 9223372036854775807) (hel : ∀ x ∈ l, (∃ v1 v2 v3 v4, g x = .agg [.str v1, .bool v2, .str v3, .row 3 v4]) ∧ Pure E k [.d .old (g x), .fb [.d .old y] 0] (.d .top (.bool (q x)))) :
    Pure E 100 [.d .old (.row 4 (mapO g l)), .fn k [] [.fb [.d .old y] 0]] (.d .top (.int .i64 (idxQ q l 0))) := by
  refine pure_by has100 ?_
  generalize hp : std = p
  (generalize cq0 : mapO = cy0; cbv <;> subst cq0)
  subst hp
  refine loopA_inv (ι := List α × List α) (fun j => l = j.1 ++ j.2 ∧ j.1.any q = false) (fun j => j.2.length)
    (fun j => mkF 19 [(0, .d .old (.row 4 (mapO g l))), (1, .fn k [] [.fb [.d .old y] 0]), (6, .d .old (.row 4 (mapO g l))), (7, .d .top (.int .i64 (std.dlen (mapO g l)))), (8, .d .top (.int .i64 (std.dlen (mapO g j.1))))])
    (fun j => []) (fun j => ()) ([], l) ⟨rfl, rfl⟩ ?_ rfl (fun _ => rfl) ?_
  · generalize hp : std = p
    (generalize cq0 : mapO = cy0; cbv <;> subst cq0)
    subst hp
    simp [std, mapO]
  · rintro ⟨d, r⟩ ⟨hes, hd⟩
    simp only at hes hd ⊢
    cases r with
    | nil =>
      rw [List.append_nil] at hes
      subst hes
      have hi : idxQ q l 0 = -1 := by
        have := idxQ_app q l [] 0 hd
        rw [List.append_nil] at this
        rw [this]
        rfl
      rw [hi]
      generalize hp : std = p
      (generalize cq0 : mapO = cy0; cbv <;> subst cq0)
      simp only [end_ltO hp]
      (generalize cq0 : mapO = cy0; cbv <;> subst cq0)
    | cons e r =>
      have hi : idxQ q l 0 = if q e then (d.length : Int) else idxQ q r (d.length + 1) := by rw [hes, idxQ_app _ _ _ _ hd]; simp [idxQ]
      obtain ⟨z, hz⟩ : ∃ z, idxQ q l 0 = z := ⟨_, rfl⟩
      obtain ⟨⟨v1, v2, v3, v4, he⟩, hok⟩ := hel e (by rw [hes]; simp)
      rw [he] at hok
      obtain ⟨bb, hb0⟩ : ∃ bb, q e = bb := ⟨_, rfl⟩
      rw [hz, hb0] at hi
      rw [hb0] at hok
      rw [hz]
      generalize hp : std = p
      have hget := at_getO (g := g) hp hes
      rw [he] at hget
      (generalize cq0 : mapO = cy0; cbv <;> subst cq0)
      simp only [at_ltO hp hes]
      (generalize cq0 : mapO = cy0; cbv <;> subst cq0)
      refine ⟨_, hget, ?_⟩
      (generalize cq0 : mapO = cy0; cbv <;> subst cq0)
      refine callA.pure hok rfl ?_
      (generalize cq0 : mapO = cy0; cbv <;> subst cq0)
      refine cnd_intro ?_ ?_ <;> intro hb <;> subst hb <;> (generalize cq0 : mapO = cy0; cbv <;> subst cq0)
      · subst hp
        rw [hi]
        simp [std, mapO]
      · have hdl : d.length + (r.length + 1) = l.length := by rw [hes]; simp
        refine ⟨by subst hp; simp [std, mapO]; omega, (d ++ [e], r), ⟨by rw [hes]; simp, by rw [List.any_append, hd]; simp [hb0]⟩, by simp, ?_, rfl⟩
        generalize hd' : d ++ [e] = d'
        (generalize cq0 : mapO = cy0; cbv <;> subst cq0)
        subst hp hd'
        simp [std, mapO]
theorem containsFuncO_ok {α : Type} {g : α → D} {q : α → Bool} {k : Nat} {y : D} (l : List α) (hl : l.length ≤ 9223372036854775807) (hel : ∀ x ∈ l, (∃ v1 v2 v3 v4, g x = .agg [.str v1, .bool v2, .str v3, .row 3 v4]) ∧ Pure E k [.d .old (g x), .fb [.d .old y] 0] (.d .top (.bool (q x)))) :
    Pure E 60 [.d .old (.row 4 (mapO g l)), .fn k [] [.fb [.d .old y] 0]] (.d .top (.bool (l.any q))) := by
  have h1 := indexO_ok l hl hel
  have h2 := idxQ_has q l 0
  generalize idxQ q l 0 = z at *
  generalize (l.any q) = b at *
  refine pure_by has60 ?_
  generalize hp : std = p
  (generalize cq0 : mapO = cy0; cbv <;> subst cq0)
  refine callA.pure h1 rfl ?_
  (generalize cq0 : mapO = cy0; cbv <;> subst cq0)
  subst hp
  rw [← h2]
  rfl
end Go.Ly.Tr
end
section
namespace Go.Ly.Tr
set_option maxRecDepth 4000
mutual
def Tm.ok : Tm → Bool
  | .mk v n us => if v then us.isEmpty && varB n else (funB n && decide (us.length ≤ 4)) && Tm.oks us
def Tm.oks : List Tm → Bool
  | [] => true
  | t :: l => t.ok && Tm.oks l
end
theorem oks_any : ∀ l : List Tm, Tm.oks l = !(l.any fun t => !t.ok)
  | [] => rfl
  | t :: l => by rw [Tm.oks, oks_any l, List.any_cons]; cases t.ok <;> simp
theorem term_ok (t : Tm) : t.size ≤ 1000000 → Pure E 58 [.d .old t.d, .d .old (.int .i64 0)] (.d .top (.bool t.ok)) := by
  induction t using Tm.ind with
  | h v n us ih =>
  intro hs
  have hl := Tm.len_size us
  simp only [Tm.size] at hs
  have hc : ∀ x ∈ us, (∃ a b c, x.d = .agg [.bool a, .str b, .row 3 c]) ∧ Pure E 97 [.d .old x.d, .fb [.d .old (.int .i64 0)] 0] (.d .top (.bool (!x.ok))) := by
    intro x hx
    have := Tm.size_mem hx
    have h := ih x hx (by omega)
    obtain ⟨a, b, c⟩ := x
    generalize (Tm.mk a b c).ok = q at *
    simp only [Tm.d] at h ⊢
    refine ⟨⟨_, _, _, rfl⟩, ?_⟩
    refine pure_by has97 ?_
    generalize hp : std = p
    (generalize cq0 : Tm.ds = cy0; cbv <;> subst cq0)
    refine callA.pure h rfl ?_
    (generalize cq0 : Tm.ds = cy0; cbv <;> subst cq0)
    subst hp
    rfl
  have hC := containsFuncT_ok us (by omega) hc
  rw [show mapO Tm.d us = Tm.ds us from (Tm.ds_eq us).symm] at hC
  have hq : (Tm.mk v n us).ok = if v then us.isEmpty && varB n else (funB n && decide (us.length ≤ 4)) && !(us.any fun t => !t.ok) := by rw [Tm.ok, oks_any]
  have hv := variable_ok n
  have hf := function_ok n
  obtain ⟨z, hz⟩ : ∃ z, (Tm.mk v n us).ok = z := ⟨_, rfl⟩
  rw [hz] at hq ⊢
  generalize (us.any fun t => !t.ok) = q at *
  generalize varB n = b1 at *
  generalize funB n = b2 at *
  simp only [Tm.d]
  clear hz ih hc
  refine pure_by has58 ?_
  generalize hp : std = p
  have e0 : p.eq (p.dlen (Tm.ds us)) 0 = us.isEmpty := by subst hp; cases us <;> simp [std, Tm.ds]; omega
  have e1 : p.eq 0 1 = false := by subst hp; rfl
  have e4 : p.le (p.dlen (Tm.ds us)) 4 = decide (us.length ≤ 4) := by subst hp; simp [std, Tm.ds_len]; omega
  generalize us.isEmpty = b3 at *
  generalize decide (us.length ≤ 4) = b4 at *
  (generalize cq0 : Tm.ds = cy0; cbv <;> subst cq0)
  cases v with
  | true =>
    (generalize cq0 : Tm.ds = cy0; cbv <;> subst cq0)
    simp only [e0]
    cases b3 with
    | false => (generalize cq0 : Tm.ds = cy0; cbv <;> subst cq0); rw [hq]; simp
    | true =>
      (generalize cq0 : Tm.ds = cy0; cbv <;> subst cq0)
      refine callA.pure hv rfl ?_
      (generalize cq0 : Tm.ds = cy0; cbv <;> subst cq0)
      cases b1 with
      | true => (generalize cq0 : Tm.ds = cy0; cbv <;> subst cq0); rw [hq]; simp
      | false =>
        (generalize cq0 : Tm.ds = cy0; cbv <;> subst cq0)
        simp only [e1]
        (generalize cq0 : Tm.ds = cy0; cbv <;> subst cq0)
        rw [hq]; simp
  | false =>
    (generalize cq0 : Tm.ds = cy0; cbv <;> subst cq0)
    refine callA.pure hf rfl ?_
    (generalize cq0 : Tm.ds = cy0; cbv <;> subst cq0)
    cases b2 with
    | false => (generalize cq0 : Tm.ds = cy0; cbv <;> subst cq0); rw [hq]; simp
    | true =>
      (generalize cq0 : Tm.ds = cy0; cbv <;> subst cq0)
      simp only [e4]
      cases b4 with
      | false => (generalize cq0 : Tm.ds = cy0; cbv <;> subst cq0); rw [hq]; simp
      | true =>
        (generalize cq0 : Tm.ds = cy0; cbv <;> subst cq0)
        refine callA.pure hC rfl ?_
        (generalize cq0 : Tm.ds = cy0; cbv <;> subst cq0)
        rw [hq]
        subst hp
        simp [std]
theorem Term_ok (t : Tm) (hs : t.size ≤ 1000000) : Pure E 19 [.d .old t.d] (.d .top (.bool t.ok)) := by
  have h := term_ok t hs
  obtain ⟨a, b, c⟩ := t
  generalize (Tm.mk a b c).ok = q at *
  simp only [Tm.d] at h ⊢
  refine pure_by has19 ?_
  generalize hp : std = p
  (generalize cq0 : Tm.ds = cy0; cbv <;> subst cq0)
  refine callA.pure h rfl ?_
  (generalize cq0 : Tm.ds = cy0; cbv <;> subst cq0)
end Go.Ly.Tr
end
section
namespace Go.Ly.Tr
set_option maxRecDepth 4000
def rowsV : AV := .agg (.d .top .nf :: .d .top (.int .i64 0) :: .d .top (.int .i64 0) :: .d .top (.int .i64 0) :: .fn 134 [] [] :: .d .top (.int .i64 4) :: .d .top (.int .i64 0) :: .d .top (.int .i64 0) :: .fn 133 [] [] :: .d .top (.int .i64 0) :: .d .top (.int .i64 0) :: .d .top (.int .i64 0) :: .fn 133 [] [] :: .d .top (.int .i64 0) :: .d .top (.int .i64 1) :: .d .top (.int .i64 0) :: .fn 133 [] [] :: .d .top (.int .i64 0) :: .d .top (.int .i64 2) :: .d .top (.int .i64 0) :: .fn 133 [] [] :: .d .top (.int .i64 0) :: .d .top (.int .i64 2) :: .d .top (.int .i64 0) :: .fn 133 [] [] :: .d .top (.int .i64 0) :: .d .top (.int .i64 2) :: .d .top (.int .i64 0) :: .fn 133 [] [] :: .d .top (.int .i64 0) :: .d .top (.int .i64 2) :: .d .top (.int .i64 0) :: .fn 18 [] [] :: .d .top (.int .i64 0) :: .d .top (.int .i64 1) :: .d .top (.int .i64 0) :: .fn 18 [] [] :: .d .top (.int .i64 0) :: .d .top (.int .i64 1) :: .d .top (.int .i64 0) :: .fn 133 [] [] :: .d .top (.int .i64 0) :: .d .top (.int .i64 1) :: .d .top (.int .i64 0) :: .fn 133 [] [] :: .d .top (.int .i64 0) :: .d .top (.int .i64 1) :: .d .top (.int .i64 0) :: .fn 133 [] [] :: .d .top (.int .i64 0) :: .d .top (.int .i64 1) :: .d .top (.int .i64 0) :: .fn 133 [] [] :: .d .top (.int .i64 0) :: .d .top (.int .i64 1) :: .d .top (.int .i64 0) :: .fn 133 [] [] :: .d .top (.int .i64 0) :: .d .top (.int .i64 2) :: .d .top (.int .i64 0) :: .fn 135 [] [] :: .d .top (.int .i64 0) :: .d .top (.int .i64 0) :: .d .top (.int .i64 1) :: .fn 135 [] [] :: .d .top (.int .i64 2) :: .d .top (.int .i64 0) :: .d .top (.int .i64 1) :: [])
theorem rows_ok : Pure E 88 [] rowsV := by
  unfold rowsV
  refine pure_by has88 ?_
  generalize hp : std = p
  cbv
end Go.Ly.Tr
end
section
namespace Go.Ly.Tr
set_option maxRecDepth 4000
theorem gt_len {p : Prims} (hp : std = p) {a : Int} {n : Nat} (h : a = n) (us : List Tm) : p.lt a (p.dlen (Tm.ds us)) = !decide (us.length ≤ n) := by
  subst hp h
  rw [Bool.eq_iff_iff]
  simp [std, Tm.ds_len]
theorem eq_lenF {p : Prims} (hp : std = p) {a : Int} {n : Nat} (h : a = n) (fs : List Frm) : p.eq (p.dlen (Frm.ds fs)) a = (fs.length == n) := by
  subst hp h
  rw [Bool.eq_iff_iff]
  simp [std, Frm.ds_len]
  omega
theorem shape_op0 (n : Nm) (us : List Tm) (fs : List Frm) : Pure E 54 [.d .old (.agg [.int .u8 0, .str n, .row 3 (Tm.ds us), .row 4 (Frm.ds fs)]), .d .old (.int .i64 0)] (.d .top (.bool false)) := by
  have hr := rows_ok
  unfold rowsV at hr
  refine pure_by has54 ?_
  generalize hp : std = p
  have ew : p.wrap .i64 0 = 0 := by subst hp; rfl
  have eg : p.le 17 0 = false := by subst hp; rfl
  have e00 : p.lt 0 0 = false := by subst hp; rfl
  have e16 : p.eq 0 16 = false := by subst hp; rfl
  (generalize cq0 : Frm.ds = cy0, cq1 : Tm.ds = cy1; cbv <;> subst cq0 cq1)
  refine callA.pure hr rfl ?_
  (generalize cq0 : Frm.ds = cy0, cq1 : Tm.ds = cy1; cbv <;> subst cq0 cq1)
  simp only [ew, eg]
  (generalize cq0 : Frm.ds = cy0, cq1 : Tm.ds = cy1; cbv <;> subst cq0 cq1)
  refine ⟨by subst hp; simp [std], ?_⟩
  cbv
  trivial
theorem shape_op1 (n : Nm) (us : List Tm) (fs : List Frm) (b : Bool) (hn : Pure E 134 [.d .old (.str n)] (.d .top (.bool b)))
    (q1 q2 : Bool) (h1 : Pure E 90 [.d .old (.row 3 (Tm.ds us)), .fn 91 [] [.fb [.d .old (.int .i64 0)] 0]] (.d .top (.bool q1)))
    (h2 : Pure E 92 [.d .old (.row 4 (Frm.ds fs)), .fn 93 [] [.fb [.d .old (.int .i64 0)] 0]] (.d .top (.bool q2))) :
    Pure E 54 [.d .old (.agg [.int .u8 1, .str n, .row 3 (Tm.ds us), .row 4 (Frm.ds fs)]), .d .old (.int .i64 0)] (.d .top (.bool ((b && decide (us.length ≤ 4) && fs.length == 0) && (!q1 && !q2)))) := by
  obtain ⟨z, hz⟩ : ∃ z, z = ((b && decide (us.length ≤ 4) && fs.length == 0) && (!q1 && !q2)) := ⟨_, rfl⟩
  rw [← hz]
  have hr := rows_ok
  unfold rowsV at hr
  refine pure_by has54 ?_
  generalize hp : std = p
  have ew : p.wrap .i64 1 = 1 := by subst hp; rfl
  have eg : p.le 17 1 = false := by subst hp; rfl
  have e00 : p.lt 0 0 = false := by subst hp; rfl
  have e16 : p.eq 1 16 = false := by subst hp; rfl
  have e1 : p.lt 4 (p.dlen (Tm.ds us)) = !decide (us.length ≤ 4) := gt_len hp rfl us
  have e2 : p.eq (p.dlen (Frm.ds fs)) 0 = (fs.length == 0) := eq_lenF hp rfl fs
  generalize decide (us.length ≤ 4) = b1 at *
  generalize (fs.length == 0) = b2 at *
  (generalize cq0 : Frm.ds = cy0, cq1 : Tm.ds = cy1; cbv <;> subst cq0 cq1)
  refine callA.pure hr rfl ?_
  (generalize cq0 : Frm.ds = cy0, cq1 : Tm.ds = cy1; cbv <;> subst cq0 cq1)
  simp only [ew, eg]
  (generalize cq0 : Frm.ds = cy0, cq1 : Tm.ds = cy1; cbv <;> subst cq0 cq1)
  refine ⟨by subst hp; simp [std], ?_⟩
  refine ⟨by subst hp; simp [std], ?_⟩
  simp only [e00]
  (generalize cq0 : Frm.ds = cy0, cq1 : Tm.ds = cy1; cbv <;> subst cq0 cq1)
  refine callA.pure hn rfl ?_
  (generalize cq0 : Frm.ds = cy0, cq1 : Tm.ds = cy1; cbv <;> subst cq0 cq1)
  cases b with
  | false => simp only [not_f hp]; (generalize cq0 : Frm.ds = cy0, cq1 : Tm.ds = cy1; cbv <;> subst cq0 cq1); rw [hz]; rfl
  | true =>
  simp only [not_t hp]
  (generalize cq0 : Frm.ds = cy0, cq1 : Tm.ds = cy1; cbv <;> subst cq0 cq1)
  simp only [e1]
  cases b1 with
  | false => (generalize cq0 : Frm.ds = cy0, cq1 : Tm.ds = cy1; cbv <;> subst cq0 cq1); rw [hz]; rfl
  | true =>
  (generalize cq0 : Frm.ds = cy0, cq1 : Tm.ds = cy1; cbv <;> subst cq0 cq1)
  simp only [e2]
  cases b2 with
  | false => simp only [not_f hp]; (generalize cq0 : Frm.ds = cy0, cq1 : Tm.ds = cy1; cbv <;> subst cq0 cq1); rw [hz]; rfl
  | true =>
  simp only [not_t hp]
  (generalize cq0 : Frm.ds = cy0, cq1 : Tm.ds = cy1; cbv <;> subst cq0 cq1)
  simp only [e16]
  (generalize cq0 : Frm.ds = cy0, cq1 : Tm.ds = cy1; cbv <;> subst cq0 cq1)
  refine callA.pure h1 rfl ?_
  (generalize cq0 : Frm.ds = cy0, cq1 : Tm.ds = cy1; cbv <;> subst cq0 cq1)
  cases q1 with
  | true => simp only [not_t hp]; (generalize cq0 : Frm.ds = cy0, cq1 : Tm.ds = cy1; cbv <;> subst cq0 cq1); rw [hz]; rfl
  | false =>
  simp only [not_f hp]
  (generalize cq0 : Frm.ds = cy0, cq1 : Tm.ds = cy1; cbv <;> subst cq0 cq1)
  refine callA.pure h2 rfl ?_
  (generalize cq0 : Frm.ds = cy0, cq1 : Tm.ds = cy1; cbv <;> subst cq0 cq1)
  cases q2 with
  | true => simp only [not_t hp]; cbv; rw [hz]; rfl
  | false => simp only [not_f hp]; cbv; rw [hz]; rfl
theorem shape_op2 (n : Nm) (us : List Tm) (fs : List Frm) (b : Bool) (hn : Pure E 133 [.d .old (.str n)] (.d .top (.bool b)))
    (q1 q2 : Bool) (h1 : Pure E 90 [.d .old (.row 3 (Tm.ds us)), .fn 91 [] [.fb [.d .old (.int .i64 0)] 0]] (.d .top (.bool q1)))
    (h2 : Pure E 92 [.d .old (.row 4 (Frm.ds fs)), .fn 93 [] [.fb [.d .old (.int .i64 0)] 0]] (.d .top (.bool q2))) :
    Pure E 54 [.d .old (.agg [.int .u8 2, .str n, .row 3 (Tm.ds us), .row 4 (Frm.ds fs)]), .d .old (.int .i64 0)] (.d .top (.bool ((b && decide (us.length ≤ 0) && fs.length == 0) && (!q1 && !q2)))) := by
  obtain ⟨z, hz⟩ : ∃ z, z = ((b && decide (us.length ≤ 0) && fs.length == 0) && (!q1 && !q2)) := ⟨_, rfl⟩
  rw [← hz]
  have hr := rows_ok
  unfold rowsV at hr
  refine pure_by has54 ?_
  generalize hp : std = p
  have ew : p.wrap .i64 2 = 2 := by subst hp; rfl
  have eg : p.le 17 2 = false := by subst hp; rfl
  have e00 : p.lt 0 0 = false := by subst hp; rfl
  have e16 : p.eq 2 16 = false := by subst hp; rfl
  have e1 : p.lt 0 (p.dlen (Tm.ds us)) = !decide (us.length ≤ 0) := gt_len hp rfl us
  have e2 : p.eq (p.dlen (Frm.ds fs)) 0 = (fs.length == 0) := eq_lenF hp rfl fs
  generalize decide (us.length ≤ 0) = b1 at *
  generalize (fs.length == 0) = b2 at *
  (generalize cq0 : Frm.ds = cy0, cq1 : Tm.ds = cy1; cbv <;> subst cq0 cq1)
  refine callA.pure hr rfl ?_
  (generalize cq0 : Frm.ds = cy0, cq1 : Tm.ds = cy1; cbv <;> subst cq0 cq1)
  simp only [ew, eg]
  (generalize cq0 : Frm.ds = cy0, cq1 : Tm.ds = cy1; cbv <;> subst cq0 cq1)
  refine ⟨by subst hp; simp [std], ?_⟩
  refine ⟨by subst hp; simp [std], ?_⟩
  simp only [e00]
  (generalize cq0 : Frm.ds = cy0, cq1 : Tm.ds = cy1; cbv <;> subst cq0 cq1)
  refine callA.pure hn rfl ?_
  (generalize cq0 : Frm.ds = cy0, cq1 : Tm.ds = cy1; cbv <;> subst cq0 cq1)
  cases b with
  | false => simp only [not_f hp]; (generalize cq0 : Frm.ds = cy0, cq1 : Tm.ds = cy1; cbv <;> subst cq0 cq1); rw [hz]; rfl
  | true =>
  simp only [not_t hp]
  (generalize cq0 : Frm.ds = cy0, cq1 : Tm.ds = cy1; cbv <;> subst cq0 cq1)
  simp only [e1]
  cases b1 with
  | false => (generalize cq0 : Frm.ds = cy0, cq1 : Tm.ds = cy1; cbv <;> subst cq0 cq1); rw [hz]; rfl
  | true =>
  (generalize cq0 : Frm.ds = cy0, cq1 : Tm.ds = cy1; cbv <;> subst cq0 cq1)
  simp only [e2]
  cases b2 with
  | false => simp only [not_f hp]; (generalize cq0 : Frm.ds = cy0, cq1 : Tm.ds = cy1; cbv <;> subst cq0 cq1); rw [hz]; rfl
  | true =>
  simp only [not_t hp]
  (generalize cq0 : Frm.ds = cy0, cq1 : Tm.ds = cy1; cbv <;> subst cq0 cq1)
  simp only [e16]
  (generalize cq0 : Frm.ds = cy0, cq1 : Tm.ds = cy1; cbv <;> subst cq0 cq1)
  refine callA.pure h1 rfl ?_
  (generalize cq0 : Frm.ds = cy0, cq1 : Tm.ds = cy1; cbv <;> subst cq0 cq1)
  cases q1 with
  | true => simp only [not_t hp]; (generalize cq0 : Frm.ds = cy0, cq1 : Tm.ds = cy1; cbv <;> subst cq0 cq1); rw [hz]; rfl
  | false =>
  simp only [not_f hp]
  (generalize cq0 : Frm.ds = cy0, cq1 : Tm.ds = cy1; cbv <;> subst cq0 cq1)
  refine callA.pure h2 rfl ?_
  (generalize cq0 : Frm.ds = cy0, cq1 : Tm.ds = cy1; cbv <;> subst cq0 cq1)
  cases q2 with
  | true => simp only [not_t hp]; cbv; rw [hz]; rfl
  | false => simp only [not_f hp]; cbv; rw [hz]; rfl
theorem shape_op3 (n : Nm) (us : List Tm) (fs : List Frm) (b : Bool) (hn : Pure E 133 [.d .old (.str n)] (.d .top (.bool b)))
    (q1 q2 : Bool) (h1 : Pure E 90 [.d .old (.row 3 (Tm.ds us)), .fn 91 [] [.fb [.d .old (.int .i64 0)] 0]] (.d .top (.bool q1)))
    (h2 : Pure E 92 [.d .old (.row 4 (Frm.ds fs)), .fn 93 [] [.fb [.d .old (.int .i64 0)] 0]] (.d .top (.bool q2))) :
    Pure E 54 [.d .old (.agg [.int .u8 3, .str n, .row 3 (Tm.ds us), .row 4 (Frm.ds fs)]), .d .old (.int .i64 0)] (.d .top (.bool ((b && decide (us.length ≤ 0) && fs.length == 1) && (!q1 && !q2)))) := by
  obtain ⟨z, hz⟩ : ∃ z, z = ((b && decide (us.length ≤ 0) && fs.length == 1) && (!q1 && !q2)) := ⟨_, rfl⟩
  rw [← hz]
  have hr := rows_ok
  unfold rowsV at hr
  refine pure_by has54 ?_
  generalize hp : std = p
  have ew : p.wrap .i64 3 = 3 := by subst hp; rfl
  have eg : p.le 17 3 = false := by subst hp; rfl
  have e00 : p.lt 0 0 = false := by subst hp; rfl
  have e16 : p.eq 3 16 = false := by subst hp; rfl
  have e1 : p.lt 0 (p.dlen (Tm.ds us)) = !decide (us.length ≤ 0) := gt_len hp rfl us
  have e2 : p.eq (p.dlen (Frm.ds fs)) 1 = (fs.length == 1) := eq_lenF hp rfl fs
  generalize decide (us.length ≤ 0) = b1 at *
  generalize (fs.length == 1) = b2 at *
  (generalize cq0 : Frm.ds = cy0, cq1 : Tm.ds = cy1; cbv <;> subst cq0 cq1)
  refine callA.pure hr rfl ?_
  (generalize cq0 : Frm.ds = cy0, cq1 : Tm.ds = cy1; cbv <;> subst cq0 cq1)
  simp only [ew, eg]
  (generalize cq0 : Frm.ds = cy0, cq1 : Tm.ds = cy1; cbv <;> subst cq0 cq1)
  refine ⟨by subst hp; simp [std], ?_⟩
  refine ⟨by subst hp; simp [std], ?_⟩
  simp only [e00]
  (generalize cq0 : Frm.ds = cy0, cq1 : Tm.ds = cy1; cbv <;> subst cq0 cq1)
  refine callA.pure hn rfl ?_
  (generalize cq0 : Frm.ds = cy0, cq1 : Tm.ds = cy1; cbv <;> subst cq0 cq1)
  cases b with
  | false => simp only [not_f hp]; (generalize cq0 : Frm.ds = cy0, cq1 : Tm.ds = cy1; cbv <;> subst cq0 cq1); rw [hz]; rfl
  | true =>
  simp only [not_t hp]
  (generalize cq0 : Frm.ds = cy0, cq1 : Tm.ds = cy1; cbv <;> subst cq0 cq1)
  simp only [e1]
  cases b1 with
  | false => (generalize cq0 : Frm.ds = cy0, cq1 : Tm.ds = cy1; cbv <;> subst cq0 cq1); rw [hz]; rfl
  | true =>
  (generalize cq0 : Frm.ds = cy0, cq1 : Tm.ds = cy1; cbv <;> subst cq0 cq1)
  simp only [e2]
  cases b2 with
  | false => simp only [not_f hp]; (generalize cq0 : Frm.ds = cy0, cq1 : Tm.ds = cy1; cbv <;> subst cq0 cq1); rw [hz]; rfl
  | true =>
  simp only [not_t hp]
  (generalize cq0 : Frm.ds = cy0, cq1 : Tm.ds = cy1; cbv <;> subst cq0 cq1)
  simp only [e16]
  (generalize cq0 : Frm.ds = cy0, cq1 : Tm.ds = cy1; cbv <;> subst cq0 cq1)
  refine callA.pure h1 rfl ?_
  (generalize cq0 : Frm.ds = cy0, cq1 : Tm.ds = cy1; cbv <;> subst cq0 cq1)
  cases q1 with
  | true => simp only [not_t hp]; (generalize cq0 : Frm.ds = cy0, cq1 : Tm.ds = cy1; cbv <;> subst cq0 cq1); rw [hz]; rfl
  | false =>
  simp only [not_f hp]
  (generalize cq0 : Frm.ds = cy0, cq1 : Tm.ds = cy1; cbv <;> subst cq0 cq1)
  refine callA.pure h2 rfl ?_
  (generalize cq0 : Frm.ds = cy0, cq1 : Tm.ds = cy1; cbv <;> subst cq0 cq1)
  cases q2 with
  | true => simp only [not_t hp]; cbv; rw [hz]; rfl
  | false => simp only [not_f hp]; cbv; rw [hz]; rfl
theorem shape_op4 (n : Nm) (us : List Tm) (fs : List Frm) (b : Bool) (hn : Pure E 133 [.d .old (.str n)] (.d .top (.bool b)))
    (q1 q2 : Bool) (h1 : Pure E 90 [.d .old (.row 3 (Tm.ds us)), .fn 91 [] [.fb [.d .old (.int .i64 0)] 0]] (.d .top (.bool q1)))
    (h2 : Pure E 92 [.d .old (.row 4 (Frm.ds fs)), .fn 93 [] [.fb [.d .old (.int .i64 0)] 0]] (.d .top (.bool q2))) :
    Pure E 54 [.d .old (.agg [.int .u8 4, .str n, .row 3 (Tm.ds us), .row 4 (Frm.ds fs)]), .d .old (.int .i64 0)] (.d .top (.bool ((b && decide (us.length ≤ 0) && fs.length == 2) && (!q1 && !q2)))) := by
  obtain ⟨z, hz⟩ : ∃ z, z = ((b && decide (us.length ≤ 0) && fs.length == 2) && (!q1 && !q2)) := ⟨_, rfl⟩
  rw [← hz]
  have hr := rows_ok
  unfold rowsV at hr
  refine pure_by has54 ?_
  generalize hp : std = p
  have ew : p.wrap .i64 4 = 4 := by subst hp; rfl
  have eg : p.le 17 4 = false := by subst hp; rfl
  have e00 : p.lt 0 0 = false := by subst hp; rfl
  have e16 : p.eq 4 16 = false := by subst hp; rfl
  have e1 : p.lt 0 (p.dlen (Tm.ds us)) = !decide (us.length ≤ 0) := gt_len hp rfl us
  have e2 : p.eq (p.dlen (Frm.ds fs)) 2 = (fs.length == 2) := eq_lenF hp rfl fs
  generalize decide (us.length ≤ 0) = b1 at *
  generalize (fs.length == 2) = b2 at *
  (generalize cq0 : Frm.ds = cy0, cq1 : Tm.ds = cy1; cbv <;> subst cq0 cq1)
  refine callA.pure hr rfl ?_
  (generalize cq0 : Frm.ds = cy0, cq1 : Tm.ds = cy1; cbv <;> subst cq0 cq1)
  simp only [ew, eg]
  (generalize cq0 : Frm.ds = cy0, cq1 : Tm.ds = cy1; cbv <;> subst cq0 cq1)
  refine ⟨by subst hp; simp [std], ?_⟩
  refine ⟨by subst hp; simp [std], ?_⟩
  simp only [e00]
  (generalize cq0 : Frm.ds = cy0, cq1 : Tm.ds = cy1; cbv <;> subst cq0 cq1)
  refine callA.pure hn rfl ?_
  (generalize cq0 : Frm.ds = cy0, cq1 : Tm.ds = cy1; cbv <;> subst cq0 cq1)
  cases b with
  | false => simp only [not_f hp]; (generalize cq0 : Frm.ds = cy0, cq1 : Tm.ds = cy1; cbv <;> subst cq0 cq1); rw [hz]; rfl
  | true =>
  simp only [not_t hp]
  (generalize cq0 : Frm.ds = cy0, cq1 : Tm.ds = cy1; cbv <;> subst cq0 cq1)
  simp only [e1]
  cases b1 with
  | false => (generalize cq0 : Frm.ds = cy0, cq1 : Tm.ds = cy1; cbv <;> subst cq0 cq1); rw [hz]; rfl
  | true =>
  (generalize cq0 : Frm.ds = cy0, cq1 : Tm.ds = cy1; cbv <;> subst cq0 cq1)
  simp only [e2]
  cases b2 with
  | false => simp only [not_f hp]; (generalize cq0 : Frm.ds = cy0, cq1 : Tm.ds = cy1; cbv <;> subst cq0 cq1); rw [hz]; rfl
  | true =>
  simp only [not_t hp]
  (generalize cq0 : Frm.ds = cy0, cq1 : Tm.ds = cy1; cbv <;> subst cq0 cq1)
  simp only [e16]
  (generalize cq0 : Frm.ds = cy0, cq1 : Tm.ds = cy1; cbv <;> subst cq0 cq1)
  refine callA.pure h1 rfl ?_
  (generalize cq0 : Frm.ds = cy0, cq1 : Tm.ds = cy1; cbv <;> subst cq0 cq1)
  cases q1 with
  | true => simp only [not_t hp]; (generalize cq0 : Frm.ds = cy0, cq1 : Tm.ds = cy1; cbv <;> subst cq0 cq1); rw [hz]; rfl
  | false =>
  simp only [not_f hp]
  (generalize cq0 : Frm.ds = cy0, cq1 : Tm.ds = cy1; cbv <;> subst cq0 cq1)
  refine callA.pure h2 rfl ?_
  (generalize cq0 : Frm.ds = cy0, cq1 : Tm.ds = cy1; cbv <;> subst cq0 cq1)
  cases q2 with
  | true => simp only [not_t hp]; cbv; rw [hz]; rfl
  | false => simp only [not_f hp]; cbv; rw [hz]; rfl
theorem shape_op5 (n : Nm) (us : List Tm) (fs : List Frm) (b : Bool) (hn : Pure E 133 [.d .old (.str n)] (.d .top (.bool b)))
    (q1 q2 : Bool) (h1 : Pure E 90 [.d .old (.row 3 (Tm.ds us)), .fn 91 [] [.fb [.d .old (.int .i64 0)] 0]] (.d .top (.bool q1)))
    (h2 : Pure E 92 [.d .old (.row 4 (Frm.ds fs)), .fn 93 [] [.fb [.d .old (.int .i64 0)] 0]] (.d .top (.bool q2))) :
    Pure E 54 [.d .old (.agg [.int .u8 5, .str n, .row 3 (Tm.ds us), .row 4 (Frm.ds fs)]), .d .old (.int .i64 0)] (.d .top (.bool ((b && decide (us.length ≤ 0) && fs.length == 2) && (!q1 && !q2)))) := by
  obtain ⟨z, hz⟩ : ∃ z, z = ((b && decide (us.length ≤ 0) && fs.length == 2) && (!q1 && !q2)) := ⟨_, rfl⟩
  rw [← hz]
  have hr := rows_ok
  unfold rowsV at hr
  refine pure_by has54 ?_
  generalize hp : std = p
  have ew : p.wrap .i64 5 = 5 := by subst hp; rfl
  have eg : p.le 17 5 = false := by subst hp; rfl
  have e00 : p.lt 0 0 = false := by subst hp; rfl
  have e16 : p.eq 5 16 = false := by subst hp; rfl
  have e1 : p.lt 0 (p.dlen (Tm.ds us)) = !decide (us.length ≤ 0) := gt_len hp rfl us
  have e2 : p.eq (p.dlen (Frm.ds fs)) 2 = (fs.length == 2) := eq_lenF hp rfl fs
  generalize decide (us.length ≤ 0) = b1 at *
  generalize (fs.length == 2) = b2 at *
  (generalize cq0 : Frm.ds = cy0, cq1 : Tm.ds = cy1; cbv <;> subst cq0 cq1)
  refine callA.pure hr rfl ?_
  (generalize cq0 : Frm.ds = cy0, cq1 : Tm.ds = cy1; cbv <;> subst cq0 cq1)
  simp only [ew, eg]
  (generalize cq0 : Frm.ds = cy0, cq1 : Tm.ds = cy1; cbv <;> subst cq0 cq1)
  refine ⟨by subst hp; simp [std], ?_⟩
  refine ⟨by subst hp; simp [std], ?_⟩
  simp only [e00]
  (generalize cq0 : Frm.ds = cy0, cq1 : Tm.ds = cy1; cbv <;> subst cq0 cq1)
  refine callA.pure hn rfl ?_
  (generalize cq0 : Frm.ds = cy0, cq1 : Tm.ds = cy1; cbv <;> subst cq0 cq1)
  cases b with
  | false => simp only [not_f hp]; (generalize cq0 : Frm.ds = cy0, cq1 : Tm.ds = cy1; cbv <;> subst cq0 cq1); rw [hz]; rfl
  | true =>
  simp only [not_t hp]
  (generalize cq0 : Frm.ds = cy0, cq1 : Tm.ds = cy1; cbv <;> subst cq0 cq1)
  simp only [e1]
  cases b1 with
  | false => (generalize cq0 : Frm.ds = cy0, cq1 : Tm.ds = cy1; cbv <;> subst cq0 cq1); rw [hz]; rfl
  | true =>
  (generalize cq0 : Frm.ds = cy0, cq1 : Tm.ds = cy1; cbv <;> subst cq0 cq1)
  simp only [e2]
  cases b2 with
  | false => simp only [not_f hp]; (generalize cq0 : Frm.ds = cy0, cq1 : Tm.ds = cy1; cbv <;> subst cq0 cq1); rw [hz]; rfl
  | true =>
  simp only [not_t hp]
  (generalize cq0 : Frm.ds = cy0, cq1 : Tm.ds = cy1; cbv <;> subst cq0 cq1)
  simp only [e16]
  (generalize cq0 : Frm.ds = cy0, cq1 : Tm.ds = cy1; cbv <;> subst cq0 cq1)
  refine callA.pure h1 rfl ?_
  (generalize cq0 : Frm.ds = cy0, cq1 : Tm.ds = cy1; cbv <;> subst cq0 cq1)
  cases q1 with
  | true => simp only [not_t hp]; (generalize cq0 : Frm.ds = cy0, cq1 : Tm.ds = cy1; cbv <;> subst cq0 cq1); rw [hz]; rfl
  | false =>
  simp only [not_f hp]
  (generalize cq0 : Frm.ds = cy0, cq1 : Tm.ds = cy1; cbv <;> subst cq0 cq1)
  refine callA.pure h2 rfl ?_
  (generalize cq0 : Frm.ds = cy0, cq1 : Tm.ds = cy1; cbv <;> subst cq0 cq1)
  cases q2 with
  | true => simp only [not_t hp]; cbv; rw [hz]; rfl
  | false => simp only [not_f hp]; cbv; rw [hz]; rfl
theorem shape_op6 (n : Nm) (us : List Tm) (fs : List Frm) (b : Bool) (hn : Pure E 133 [.d .old (.str n)] (.d .top (.bool b)))
    (q1 q2 : Bool) (h1 : Pure E 90 [.d .old (.row 3 (Tm.ds us)), .fn 91 [] [.fb [.d .old (.int .i64 0)] 0]] (.d .top (.bool q1)))
    (h2 : Pure E 92 [.d .old (.row 4 (Frm.ds fs)), .fn 93 [] [.fb [.d .old (.int .i64 0)] 0]] (.d .top (.bool q2))) :
    Pure E 54 [.d .old (.agg [.int .u8 6, .str n, .row 3 (Tm.ds us), .row 4 (Frm.ds fs)]), .d .old (.int .i64 0)] (.d .top (.bool ((b && decide (us.length ≤ 0) && fs.length == 2) && (!q1 && !q2)))) := by
  obtain ⟨z, hz⟩ : ∃ z, z = ((b && decide (us.length ≤ 0) && fs.length == 2) && (!q1 && !q2)) := ⟨_, rfl⟩
  rw [← hz]
  have hr := rows_ok
  unfold rowsV at hr
  refine pure_by has54 ?_
  generalize hp : std = p
  have ew : p.wrap .i64 6 = 6 := by subst hp; rfl
  have eg : p.le 17 6 = false := by subst hp; rfl
  have e00 : p.lt 0 0 = false := by subst hp; rfl
  have e16 : p.eq 6 16 = false := by subst hp; rfl
  have e1 : p.lt 0 (p.dlen (Tm.ds us)) = !decide (us.length ≤ 0) := gt_len hp rfl us
  have e2 : p.eq (p.dlen (Frm.ds fs)) 2 = (fs.length == 2) := eq_lenF hp rfl fs
  generalize decide (us.length ≤ 0) = b1 at *
  generalize (fs.length == 2) = b2 at *
  (generalize cq0 : Frm.ds = cy0, cq1 : Tm.ds = cy1; cbv <;> subst cq0 cq1)
  refine callA.pure hr rfl ?_
  (generalize cq0 : Frm.ds = cy0, cq1 : Tm.ds = cy1; cbv <;> subst cq0 cq1)
  simp only [ew, eg]
  (generalize cq0 : Frm.ds = cy0, cq1 : Tm.ds = cy1; cbv <;> subst cq0 cq1)
  refine ⟨by subst hp; simp [std], ?_⟩
  refine ⟨by subst hp; simp [std], ?_⟩
  simp only [e00]
  (generalize cq0 : Frm.ds = cy0, cq1 : Tm.ds = cy1; cbv <;> subst cq0 cq1)
  refine callA.pure hn rfl ?_
  (generalize cq0 : Frm.ds = cy0, cq1 : Tm.ds = cy1; cbv <;> subst cq0 cq1)
  cases b with
  | false => simp only [not_f hp]; (generalize cq0 : Frm.ds = cy0, cq1 : Tm.ds = cy1; cbv <;> subst cq0 cq1); rw [hz]; rfl
  | true =>
  simp only [not_t hp]
  (generalize cq0 : Frm.ds = cy0, cq1 : Tm.ds = cy1; cbv <;> subst cq0 cq1)
  simp only [e1]
  cases b1 with
  | false => (generalize cq0 : Frm.ds = cy0, cq1 : Tm.ds = cy1; cbv <;> subst cq0 cq1); rw [hz]; rfl
  | true =>
  (generalize cq0 : Frm.ds = cy0, cq1 : Tm.ds = cy1; cbv <;> subst cq0 cq1)
  simp only [e2]
  cases b2 with
  | false => simp only [not_f hp]; (generalize cq0 : Frm.ds = cy0, cq1 : Tm.ds = cy1; cbv <;> subst cq0 cq1); rw [hz]; rfl
  | true =>
  simp only [not_t hp]
  (generalize cq0 : Frm.ds = cy0, cq1 : Tm.ds = cy1; cbv <;> subst cq0 cq1)
  simp only [e16]
  (generalize cq0 : Frm.ds = cy0, cq1 : Tm.ds = cy1; cbv <;> subst cq0 cq1)
  refine callA.pure h1 rfl ?_
  (generalize cq0 : Frm.ds = cy0, cq1 : Tm.ds = cy1; cbv <;> subst cq0 cq1)
  cases q1 with
  | true => simp only [not_t hp]; (generalize cq0 : Frm.ds = cy0, cq1 : Tm.ds = cy1; cbv <;> subst cq0 cq1); rw [hz]; rfl
  | false =>
  simp only [not_f hp]
  (generalize cq0 : Frm.ds = cy0, cq1 : Tm.ds = cy1; cbv <;> subst cq0 cq1)
  refine callA.pure h2 rfl ?_
  (generalize cq0 : Frm.ds = cy0, cq1 : Tm.ds = cy1; cbv <;> subst cq0 cq1)
  cases q2 with
  | true => simp only [not_t hp]; cbv; rw [hz]; rfl
  | false => simp only [not_f hp]; cbv; rw [hz]; rfl
theorem shape_op7 (n : Nm) (us : List Tm) (fs : List Frm) (b : Bool) (hn : Pure E 133 [.d .old (.str n)] (.d .top (.bool b)))
    (q1 q2 : Bool) (h1 : Pure E 90 [.d .old (.row 3 (Tm.ds us)), .fn 91 [] [.fb [.d .old (.int .i64 0)] 0]] (.d .top (.bool q1)))
    (h2 : Pure E 92 [.d .old (.row 4 (Frm.ds fs)), .fn 93 [] [.fb [.d .old (.int .i64 0)] 0]] (.d .top (.bool q2))) :
    Pure E 54 [.d .old (.agg [.int .u8 7, .str n, .row 3 (Tm.ds us), .row 4 (Frm.ds fs)]), .d .old (.int .i64 0)] (.d .top (.bool ((b && decide (us.length ≤ 0) && fs.length == 2) && (!q1 && !q2)))) := by
  obtain ⟨z, hz⟩ : ∃ z, z = ((b && decide (us.length ≤ 0) && fs.length == 2) && (!q1 && !q2)) := ⟨_, rfl⟩
  rw [← hz]
  have hr := rows_ok
  unfold rowsV at hr
  refine pure_by has54 ?_
  generalize hp : std = p
  have ew : p.wrap .i64 7 = 7 := by subst hp; rfl
  have eg : p.le 17 7 = false := by subst hp; rfl
  have e00 : p.lt 0 0 = false := by subst hp; rfl
  have e16 : p.eq 7 16 = false := by subst hp; rfl
  have e1 : p.lt 0 (p.dlen (Tm.ds us)) = !decide (us.length ≤ 0) := gt_len hp rfl us
  have e2 : p.eq (p.dlen (Frm.ds fs)) 2 = (fs.length == 2) := eq_lenF hp rfl fs
  generalize decide (us.length ≤ 0) = b1 at *
  generalize (fs.length == 2) = b2 at *
  (generalize cq0 : Frm.ds = cy0, cq1 : Tm.ds = cy1; cbv <;> subst cq0 cq1)
  refine callA.pure hr rfl ?_
  (generalize cq0 : Frm.ds = cy0, cq1 : Tm.ds = cy1; cbv <;> subst cq0 cq1)
  simp only [ew, eg]
  (generalize cq0 : Frm.ds = cy0, cq1 : Tm.ds = cy1; cbv <;> subst cq0 cq1)
  refine ⟨by subst hp; simp [std], ?_⟩
  refine ⟨by subst hp; simp [std], ?_⟩
  simp only [e00]
  (generalize cq0 : Frm.ds = cy0, cq1 : Tm.ds = cy1; cbv <;> subst cq0 cq1)
  refine callA.pure hn rfl ?_
  (generalize cq0 : Frm.ds = cy0, cq1 : Tm.ds = cy1; cbv <;> subst cq0 cq1)
  cases b with
  | false => simp only [not_f hp]; (generalize cq0 : Frm.ds = cy0, cq1 : Tm.ds = cy1; cbv <;> subst cq0 cq1); rw [hz]; rfl
  | true =>
  simp only [not_t hp]
  (generalize cq0 : Frm.ds = cy0, cq1 : Tm.ds = cy1; cbv <;> subst cq0 cq1)
  simp only [e1]
  cases b1 with
  | false => (generalize cq0 : Frm.ds = cy0, cq1 : Tm.ds = cy1; cbv <;> subst cq0 cq1); rw [hz]; rfl
  | true =>
  (generalize cq0 : Frm.ds = cy0, cq1 : Tm.ds = cy1; cbv <;> subst cq0 cq1)
  simp only [e2]
  cases b2 with
  | false => simp only [not_f hp]; (generalize cq0 : Frm.ds = cy0, cq1 : Tm.ds = cy1; cbv <;> subst cq0 cq1); rw [hz]; rfl
  | true =>
  simp only [not_t hp]
  (generalize cq0 : Frm.ds = cy0, cq1 : Tm.ds = cy1; cbv <;> subst cq0 cq1)
  simp only [e16]
  (generalize cq0 : Frm.ds = cy0, cq1 : Tm.ds = cy1; cbv <;> subst cq0 cq1)
  refine callA.pure h1 rfl ?_
  (generalize cq0 : Frm.ds = cy0, cq1 : Tm.ds = cy1; cbv <;> subst cq0 cq1)
  cases q1 with
  | true => simp only [not_t hp]; (generalize cq0 : Frm.ds = cy0, cq1 : Tm.ds = cy1; cbv <;> subst cq0 cq1); rw [hz]; rfl
  | false =>
  simp only [not_f hp]
  (generalize cq0 : Frm.ds = cy0, cq1 : Tm.ds = cy1; cbv <;> subst cq0 cq1)
  refine callA.pure h2 rfl ?_
  (generalize cq0 : Frm.ds = cy0, cq1 : Tm.ds = cy1; cbv <;> subst cq0 cq1)
  cases q2 with
  | true => simp only [not_t hp]; cbv; rw [hz]; rfl
  | false => simp only [not_f hp]; cbv; rw [hz]; rfl
theorem shape_op8 (n : Nm) (us : List Tm) (fs : List Frm) (b : Bool) (hn : Pure E 18 [.d .old (.str n)] (.d .top (.bool b)))
    (q1 q2 : Bool) (h1 : Pure E 90 [.d .old (.row 3 (Tm.ds us)), .fn 91 [] [.fb [.d .old (.int .i64 0)] 0]] (.d .top (.bool q1)))
    (h2 : Pure E 92 [.d .old (.row 4 (Frm.ds fs)), .fn 93 [] [.fb [.d .old (.int .i64 0)] 0]] (.d .top (.bool q2))) :
    Pure E 54 [.d .old (.agg [.int .u8 8, .str n, .row 3 (Tm.ds us), .row 4 (Frm.ds fs)]), .d .old (.int .i64 0)] (.d .top (.bool ((b && decide (us.length ≤ 0) && fs.length == 1) && (!q1 && !q2)))) := by
  obtain ⟨z, hz⟩ : ∃ z, z = ((b && decide (us.length ≤ 0) && fs.length == 1) && (!q1 && !q2)) := ⟨_, rfl⟩
  rw [← hz]
  have hr := rows_ok
  unfold rowsV at hr
  refine pure_by has54 ?_
  generalize hp : std = p
  have ew : p.wrap .i64 8 = 8 := by subst hp; rfl
  have eg : p.le 17 8 = false := by subst hp; rfl
  have e00 : p.lt 0 0 = false := by subst hp; rfl
  have e16 : p.eq 8 16 = false := by subst hp; rfl
  have e1 : p.lt 0 (p.dlen (Tm.ds us)) = !decide (us.length ≤ 0) := gt_len hp rfl us
  have e2 : p.eq (p.dlen (Frm.ds fs)) 1 = (fs.length == 1) := eq_lenF hp rfl fs
  generalize decide (us.length ≤ 0) = b1 at *
  generalize (fs.length == 1) = b2 at *
  (generalize cq0 : Frm.ds = cy0, cq1 : Tm.ds = cy1; cbv <;> subst cq0 cq1)
  refine callA.pure hr rfl ?_
  (generalize cq0 : Frm.ds = cy0, cq1 : Tm.ds = cy1; cbv <;> subst cq0 cq1)
  simp only [ew, eg]
  (generalize cq0 : Frm.ds = cy0, cq1 : Tm.ds = cy1; cbv <;> subst cq0 cq1)
  refine ⟨by subst hp; simp [std], ?_⟩
  refine ⟨by subst hp; simp [std], ?_⟩
  simp only [e00]
  (generalize cq0 : Frm.ds = cy0, cq1 : Tm.ds = cy1; cbv <;> subst cq0 cq1)
  refine callA.pure hn rfl ?_
  (generalize cq0 : Frm.ds = cy0, cq1 : Tm.ds = cy1; cbv <;> subst cq0 cq1)
  cases b with
  | false => simp only [not_f hp]; (generalize cq0 : Frm.ds = cy0, cq1 : Tm.ds = cy1; cbv <;> subst cq0 cq1); rw [hz]; rfl
  | true =>
  simp only [not_t hp]
  (generalize cq0 : Frm.ds = cy0, cq1 : Tm.ds = cy1; cbv <;> subst cq0 cq1)
  simp only [e1]
  cases b1 with
  | false => (generalize cq0 : Frm.ds = cy0, cq1 : Tm.ds = cy1; cbv <;> subst cq0 cq1); rw [hz]; rfl
  | true =>
  (generalize cq0 : Frm.ds = cy0, cq1 : Tm.ds = cy1; cbv <;> subst cq0 cq1)
  simp only [e2]
  cases b2 with
  | false => simp only [not_f hp]; (generalize cq0 : Frm.ds = cy0, cq1 : Tm.ds = cy1; cbv <;> subst cq0 cq1); rw [hz]; rfl
  | true =>
  simp only [not_t hp]
  (generalize cq0 : Frm.ds = cy0, cq1 : Tm.ds = cy1; cbv <;> subst cq0 cq1)
  simp only [e16]
  (generalize cq0 : Frm.ds = cy0, cq1 : Tm.ds = cy1; cbv <;> subst cq0 cq1)
  refine callA.pure h1 rfl ?_
  (generalize cq0 : Frm.ds = cy0, cq1 : Tm.ds = cy1; cbv <;> subst cq0 cq1)
  cases q1 with
  | true => simp only [not_t hp]; (generalize cq0 : Frm.ds = cy0, cq1 : Tm.ds = cy1; cbv <;> subst cq0 cq1); rw [hz]; rfl
  | false =>
  simp only [not_f hp]
  (generalize cq0 : Frm.ds = cy0, cq1 : Tm.ds = cy1; cbv <;> subst cq0 cq1)
  refine callA.pure h2 rfl ?_
  (generalize cq0 : Frm.ds = cy0, cq1 : Tm.ds = cy1; cbv <;> subst cq0 cq1)
  cases q2 with
  | true => simp only [not_t hp]; cbv; rw [hz]; rfl
  | false => simp only [not_f hp]; cbv; rw [hz]; rfl
theorem shape_op9 (n : Nm) (us : List Tm) (fs : List Frm) (b : Bool) (hn : Pure E 18 [.d .old (.str n)] (.d .top (.bool b)))
    (q1 q2 : Bool) (h1 : Pure E 90 [.d .old (.row 3 (Tm.ds us)), .fn 91 [] [.fb [.d .old (.int .i64 0)] 0]] (.d .top (.bool q1)))
    (h2 : Pure E 92 [.d .old (.row 4 (Frm.ds fs)), .fn 93 [] [.fb [.d .old (.int .i64 0)] 0]] (.d .top (.bool q2))) :
    Pure E 54 [.d .old (.agg [.int .u8 9, .str n, .row 3 (Tm.ds us), .row 4 (Frm.ds fs)]), .d .old (.int .i64 0)] (.d .top (.bool ((b && decide (us.length ≤ 0) && fs.length == 1) && (!q1 && !q2)))) := by
  obtain ⟨z, hz⟩ : ∃ z, z = ((b && decide (us.length ≤ 0) && fs.length == 1) && (!q1 && !q2)) := ⟨_, rfl⟩
  rw [← hz]
  have hr := rows_ok
  unfold rowsV at hr
  refine pure_by has54 ?_
  generalize hp : std = p
  have ew : p.wrap .i64 9 = 9 := by subst hp; rfl
  have eg : p.le 17 9 = false := by subst hp; rfl
  have e00 : p.lt 0 0 = false := by subst hp; rfl
  have e16 : p.eq 9 16 = false := by subst hp; rfl
  have e1 : p.lt 0 (p.dlen (Tm.ds us)) = !decide (us.length ≤ 0) := gt_len hp rfl us
  have e2 : p.eq (p.dlen (Frm.ds fs)) 1 = (fs.length == 1) := eq_lenF hp rfl fs
  generalize decide (us.length ≤ 0) = b1 at *
  generalize (fs.length == 1) = b2 at *
  (generalize cq0 : Frm.ds = cy0, cq1 : Tm.ds = cy1; cbv <;> subst cq0 cq1)
  refine callA.pure hr rfl ?_
  (generalize cq0 : Frm.ds = cy0, cq1 : Tm.ds = cy1; cbv <;> subst cq0 cq1)
  simp only [ew, eg]
  (generalize cq0 : Frm.ds = cy0, cq1 : Tm.ds = cy1; cbv <;> subst cq0 cq1)
  refine ⟨by subst hp; simp [std], ?_⟩
  refine ⟨by subst hp; simp [std], ?_⟩
  simp only [e00]
  (generalize cq0 : Frm.ds = cy0, cq1 : Tm.ds = cy1; cbv <;> subst cq0 cq1)
  refine callA.pure hn rfl ?_
  (generalize cq0 : Frm.ds = cy0, cq1 : Tm.ds = cy1; cbv <;> subst cq0 cq1)
  cases b with
  | false => simp only [not_f hp]; (generalize cq0 : Frm.ds = cy0, cq1 : Tm.ds = cy1; cbv <;> subst cq0 cq1); rw [hz]; rfl
  | true =>
  simp only [not_t hp]
  (generalize cq0 : Frm.ds = cy0, cq1 : Tm.ds = cy1; cbv <;> subst cq0 cq1)
  simp only [e1]
  cases b1 with
  | false => (generalize cq0 : Frm.ds = cy0, cq1 : Tm.ds = cy1; cbv <;> subst cq0 cq1); rw [hz]; rfl
  | true =>
  (generalize cq0 : Frm.ds = cy0, cq1 : Tm.ds = cy1; cbv <;> subst cq0 cq1)
  simp only [e2]
  cases b2 with
  | false => simp only [not_f hp]; (generalize cq0 : Frm.ds = cy0, cq1 : Tm.ds = cy1; cbv <;> subst cq0 cq1); rw [hz]; rfl
  | true =>
  simp only [not_t hp]
  (generalize cq0 : Frm.ds = cy0, cq1 : Tm.ds = cy1; cbv <;> subst cq0 cq1)
  simp only [e16]
  (generalize cq0 : Frm.ds = cy0, cq1 : Tm.ds = cy1; cbv <;> subst cq0 cq1)
  refine callA.pure h1 rfl ?_
  (generalize cq0 : Frm.ds = cy0, cq1 : Tm.ds = cy1; cbv <;> subst cq0 cq1)
  cases q1 with
  | true => simp only [not_t hp]; (generalize cq0 : Frm.ds = cy0, cq1 : Tm.ds = cy1; cbv <;> subst cq0 cq1); rw [hz]; rfl
  | false =>
  simp only [not_f hp]
  (generalize cq0 : Frm.ds = cy0, cq1 : Tm.ds = cy1; cbv <;> subst cq0 cq1)
  refine callA.pure h2 rfl ?_
  (generalize cq0 : Frm.ds = cy0, cq1 : Tm.ds = cy1; cbv <;> subst cq0 cq1)
  cases q2 with
  | true => simp only [not_t hp]; cbv; rw [hz]; rfl
  | false => simp only [not_f hp]; cbv; rw [hz]; rfl
theorem shape_op10 (n : Nm) (us : List Tm) (fs : List Frm) (b : Bool) (hn : Pure E 133 [.d .old (.str n)] (.d .top (.bool b)))
    (q1 q2 : Bool) (h1 : Pure E 90 [.d .old (.row 3 (Tm.ds us)), .fn 91 [] [.fb [.d .old (.int .i64 0)] 0]] (.d .top (.bool q1)))
    (h2 : Pure E 92 [.d .old (.row 4 (Frm.ds fs)), .fn 93 [] [.fb [.d .old (.int .i64 0)] 0]] (.d .top (.bool q2))) :
    Pure E 54 [.d .old (.agg [.int .u8 10, .str n, .row 3 (Tm.ds us), .row 4 (Frm.ds fs)]), .d .old (.int .i64 0)] (.d .top (.bool ((b && decide (us.length ≤ 0) && fs.length == 1) && (!q1 && !q2)))) := by
  obtain ⟨z, hz⟩ : ∃ z, z = ((b && decide (us.length ≤ 0) && fs.length == 1) && (!q1 && !q2)) := ⟨_, rfl⟩
  rw [← hz]
  have hr := rows_ok
  unfold rowsV at hr
  refine pure_by has54 ?_
  generalize hp : std = p
  have ew : p.wrap .i64 10 = 10 := by subst hp; rfl
  have eg : p.le 17 10 = false := by subst hp; rfl
  have e00 : p.lt 0 0 = false := by subst hp; rfl
  have e16 : p.eq 10 16 = false := by subst hp; rfl
  have e1 : p.lt 0 (p.dlen (Tm.ds us)) = !decide (us.length ≤ 0) := gt_len hp rfl us
  have e2 : p.eq (p.dlen (Frm.ds fs)) 1 = (fs.length == 1) := eq_lenF hp rfl fs
  generalize decide (us.length ≤ 0) = b1 at *
  generalize (fs.length == 1) = b2 at *
  (generalize cq0 : Frm.ds = cy0, cq1 : Tm.ds = cy1; cbv <;> subst cq0 cq1)
  refine callA.pure hr rfl ?_
  (generalize cq0 : Frm.ds = cy0, cq1 : Tm.ds = cy1; cbv <;> subst cq0 cq1)
  simp only [ew, eg]
  (generalize cq0 : Frm.ds = cy0, cq1 : Tm.ds = cy1; cbv <;> subst cq0 cq1)
  refine ⟨by subst hp; simp [std], ?_⟩
  refine ⟨by subst hp; simp [std], ?_⟩
  simp only [e00]
  (generalize cq0 : Frm.ds = cy0, cq1 : Tm.ds = cy1; cbv <;> subst cq0 cq1)
  refine callA.pure hn rfl ?_
  (generalize cq0 : Frm.ds = cy0, cq1 : Tm.ds = cy1; cbv <;> subst cq0 cq1)
  cases b with
  | false => simp only [not_f hp]; (generalize cq0 : Frm.ds = cy0, cq1 : Tm.ds = cy1; cbv <;> subst cq0 cq1); rw [hz]; rfl
  | true =>
  simp only [not_t hp]
  (generalize cq0 : Frm.ds = cy0, cq1 : Tm.ds = cy1; cbv <;> subst cq0 cq1)
  simp only [e1]
  cases b1 with
  | false => (generalize cq0 : Frm.ds = cy0, cq1 : Tm.ds = cy1; cbv <;> subst cq0 cq1); rw [hz]; rfl
  | true =>
  (generalize cq0 : Frm.ds = cy0, cq1 : Tm.ds = cy1; cbv <;> subst cq0 cq1)
  simp only [e2]
  cases b2 with
  | false => simp only [not_f hp]; (generalize cq0 : Frm.ds = cy0, cq1 : Tm.ds = cy1; cbv <;> subst cq0 cq1); rw [hz]; rfl
  | true =>
  simp only [not_t hp]
  (generalize cq0 : Frm.ds = cy0, cq1 : Tm.ds = cy1; cbv <;> subst cq0 cq1)
  simp only [e16]
  (generalize cq0 : Frm.ds = cy0, cq1 : Tm.ds = cy1; cbv <;> subst cq0 cq1)
  refine callA.pure h1 rfl ?_
  (generalize cq0 : Frm.ds = cy0, cq1 : Tm.ds = cy1; cbv <;> subst cq0 cq1)
  cases q1 with
  | true => simp only [not_t hp]; (generalize cq0 : Frm.ds = cy0, cq1 : Tm.ds = cy1; cbv <;> subst cq0 cq1); rw [hz]; rfl
  | false =>
  simp only [not_f hp]
  (generalize cq0 : Frm.ds = cy0, cq1 : Tm.ds = cy1; cbv <;> subst cq0 cq1)
  refine callA.pure h2 rfl ?_
  (generalize cq0 : Frm.ds = cy0, cq1 : Tm.ds = cy1; cbv <;> subst cq0 cq1)
  cases q2 with
  | true => simp only [not_t hp]; cbv; rw [hz]; rfl
  | false => simp only [not_f hp]; cbv; rw [hz]; rfl
theorem shape_op11 (n : Nm) (us : List Tm) (fs : List Frm) (b : Bool) (hn : Pure E 133 [.d .old (.str n)] (.d .top (.bool b)))
    (q1 q2 : Bool) (h1 : Pure E 90 [.d .old (.row 3 (Tm.ds us)), .fn 91 [] [.fb [.d .old (.int .i64 0)] 0]] (.d .top (.bool q1)))
    (h2 : Pure E 92 [.d .old (.row 4 (Frm.ds fs)), .fn 93 [] [.fb [.d .old (.int .i64 0)] 0]] (.d .top (.bool q2))) :
    Pure E 54 [.d .old (.agg [.int .u8 11, .str n, .row 3 (Tm.ds us), .row 4 (Frm.ds fs)]), .d .old (.int .i64 0)] (.d .top (.bool ((b && decide (us.length ≤ 0) && fs.length == 1) && (!q1 && !q2)))) := by
  obtain ⟨z, hz⟩ : ∃ z, z = ((b && decide (us.length ≤ 0) && fs.length == 1) && (!q1 && !q2)) := ⟨_, rfl⟩
  rw [← hz]
  have hr := rows_ok
  unfold rowsV at hr
  refine pure_by has54 ?_
  generalize hp : std = p
  have ew : p.wrap .i64 11 = 11 := by subst hp; rfl
  have eg : p.le 17 11 = false := by subst hp; rfl
  have e00 : p.lt 0 0 = false := by subst hp; rfl
  have e16 : p.eq 11 16 = false := by subst hp; rfl
  have e1 : p.lt 0 (p.dlen (Tm.ds us)) = !decide (us.length ≤ 0) := gt_len hp rfl us
  have e2 : p.eq (p.dlen (Frm.ds fs)) 1 = (fs.length == 1) := eq_lenF hp rfl fs
  generalize decide (us.length ≤ 0) = b1 at *
  generalize (fs.length == 1) = b2 at *
  (generalize cq0 : Frm.ds = cy0, cq1 : Tm.ds = cy1; cbv <;> subst cq0 cq1)
  refine callA.pure hr rfl ?_
  (generalize cq0 : Frm.ds = cy0, cq1 : Tm.ds = cy1; cbv <;> subst cq0 cq1)
  simp only [ew, eg]
  (generalize cq0 : Frm.ds = cy0, cq1 : Tm.ds = cy1; cbv <;> subst cq0 cq1)
  refine ⟨by subst hp; simp [std], ?_⟩
  refine ⟨by subst hp; simp [std], ?_⟩
  simp only [e00]
  (generalize cq0 : Frm.ds = cy0, cq1 : Tm.ds = cy1; cbv <;> subst cq0 cq1)
  refine callA.pure hn rfl ?_
  (generalize cq0 : Frm.ds = cy0, cq1 : Tm.ds = cy1; cbv <;> subst cq0 cq1)
  cases b with
  | false => simp only [not_f hp]; (generalize cq0 : Frm.ds = cy0, cq1 : Tm.ds = cy1; cbv <;> subst cq0 cq1); rw [hz]; rfl
  | true =>
  simp only [not_t hp]
  (generalize cq0 : Frm.ds = cy0, cq1 : Tm.ds = cy1; cbv <;> subst cq0 cq1)
  simp only [e1]
  cases b1 with
  | false => (generalize cq0 : Frm.ds = cy0, cq1 : Tm.ds = cy1; cbv <;> subst cq0 cq1); rw [hz]; rfl
  | true =>
  (generalize cq0 : Frm.ds = cy0, cq1 : Tm.ds = cy1; cbv <;> subst cq0 cq1)
  simp only [e2]
  cases b2 with
  | false => simp only [not_f hp]; (generalize cq0 : Frm.ds = cy0, cq1 : Tm.ds = cy1; cbv <;> subst cq0 cq1); rw [hz]; rfl
  | true =>
  simp only [not_t hp]
  (generalize cq0 : Frm.ds = cy0, cq1 : Tm.ds = cy1; cbv <;> subst cq0 cq1)
  simp only [e16]
  (generalize cq0 : Frm.ds = cy0, cq1 : Tm.ds = cy1; cbv <;> subst cq0 cq1)
  refine callA.pure h1 rfl ?_
  (generalize cq0 : Frm.ds = cy0, cq1 : Tm.ds = cy1; cbv <;> subst cq0 cq1)
  cases q1 with
  | true => simp only [not_t hp]; (generalize cq0 : Frm.ds = cy0, cq1 : Tm.ds = cy1; cbv <;> subst cq0 cq1); rw [hz]; rfl
  | false =>
  simp only [not_f hp]
  (generalize cq0 : Frm.ds = cy0, cq1 : Tm.ds = cy1; cbv <;> subst cq0 cq1)
  refine callA.pure h2 rfl ?_
  (generalize cq0 : Frm.ds = cy0, cq1 : Tm.ds = cy1; cbv <;> subst cq0 cq1)
  cases q2 with
  | true => simp only [not_t hp]; cbv; rw [hz]; rfl
  | false => simp only [not_f hp]; cbv; rw [hz]; rfl
theorem shape_op12 (n : Nm) (us : List Tm) (fs : List Frm) (b : Bool) (hn : Pure E 133 [.d .old (.str n)] (.d .top (.bool b)))
    (q1 q2 : Bool) (h1 : Pure E 90 [.d .old (.row 3 (Tm.ds us)), .fn 91 [] [.fb [.d .old (.int .i64 0)] 0]] (.d .top (.bool q1)))
    (h2 : Pure E 92 [.d .old (.row 4 (Frm.ds fs)), .fn 93 [] [.fb [.d .old (.int .i64 0)] 0]] (.d .top (.bool q2))) :
    Pure E 54 [.d .old (.agg [.int .u8 12, .str n, .row 3 (Tm.ds us), .row 4 (Frm.ds fs)]), .d .old (.int .i64 0)] (.d .top (.bool ((b && decide (us.length ≤ 0) && fs.length == 1) && (!q1 && !q2)))) := by
  obtain ⟨z, hz⟩ : ∃ z, z = ((b && decide (us.length ≤ 0) && fs.length == 1) && (!q1 && !q2)) := ⟨_, rfl⟩
  rw [← hz]
  have hr := rows_ok
  unfold rowsV at hr
  refine pure_by has54 ?_
  generalize hp : std = p
  have ew : p.wrap .i64 12 = 12 := by subst hp; rfl
  have eg : p.le 17 12 = false := by subst hp; rfl
  have e00 : p.lt 0 0 = false := by subst hp; rfl
  have e16 : p.eq 12 16 = false := by subst hp; rfl
  have e1 : p.lt 0 (p.dlen (Tm.ds us)) = !decide (us.length ≤ 0) := gt_len hp rfl us
  have e2 : p.eq (p.dlen (Frm.ds fs)) 1 = (fs.length == 1) := eq_lenF hp rfl fs
  generalize decide (us.length ≤ 0) = b1 at *
  generalize (fs.length == 1) = b2 at *
  (generalize cq0 : Frm.ds = cy0, cq1 : Tm.ds = cy1; cbv <;> subst cq0 cq1)
  refine callA.pure hr rfl ?_
  (generalize cq0 : Frm.ds = cy0, cq1 : Tm.ds = cy1; cbv <;> subst cq0 cq1)
  simp only [ew, eg]
  (generalize cq0 : Frm.ds = cy0, cq1 : Tm.ds = cy1; cbv <;> subst cq0 cq1)
  refine ⟨by subst hp; simp [std], ?_⟩
  refine ⟨by subst hp; simp [std], ?_⟩
  simp only [e00]
  (generalize cq0 : Frm.ds = cy0, cq1 : Tm.ds = cy1; cbv <;> subst cq0 cq1)
  refine callA.pure hn rfl ?_
  (generalize cq0 : Frm.ds = cy0, cq1 : Tm.ds = cy1; cbv <;> subst cq0 cq1)
  cases b with
  | false => simp only [not_f hp]; (generalize cq0 : Frm.ds = cy0, cq1 : Tm.ds = cy1; cbv <;> subst cq0 cq1); rw [hz]; rfl
  | true =>
  simp only [not_t hp]
  (generalize cq0 : Frm.ds = cy0, cq1 : Tm.ds = cy1; cbv <;> subst cq0 cq1)
  simp only [e1]
  cases b1 with
  | false => (generalize cq0 : Frm.ds = cy0, cq1 : Tm.ds = cy1; cbv <;> subst cq0 cq1); rw [hz]; rfl
  | true =>
  (generalize cq0 : Frm.ds = cy0, cq1 : Tm.ds = cy1; cbv <;> subst cq0 cq1)
  simp only [e2]
  cases b2 with
  | false => simp only [not_f hp]; (generalize cq0 : Frm.ds = cy0, cq1 : Tm.ds = cy1; cbv <;> subst cq0 cq1); rw [hz]; rfl
  | true =>
  simp only [not_t hp]
  (generalize cq0 : Frm.ds = cy0, cq1 : Tm.ds = cy1; cbv <;> subst cq0 cq1)
  simp only [e16]
  (generalize cq0 : Frm.ds = cy0, cq1 : Tm.ds = cy1; cbv <;> subst cq0 cq1)
  refine callA.pure h1 rfl ?_
  (generalize cq0 : Frm.ds = cy0, cq1 : Tm.ds = cy1; cbv <;> subst cq0 cq1)
  cases q1 with
  | true => simp only [not_t hp]; (generalize cq0 : Frm.ds = cy0, cq1 : Tm.ds = cy1; cbv <;> subst cq0 cq1); rw [hz]; rfl
  | false =>
  simp only [not_f hp]
  (generalize cq0 : Frm.ds = cy0, cq1 : Tm.ds = cy1; cbv <;> subst cq0 cq1)
  refine callA.pure h2 rfl ?_
  (generalize cq0 : Frm.ds = cy0, cq1 : Tm.ds = cy1; cbv <;> subst cq0 cq1)
  cases q2 with
  | true => simp only [not_t hp]; cbv; rw [hz]; rfl
  | false => simp only [not_f hp]; cbv; rw [hz]; rfl
theorem shape_op13 (n : Nm) (us : List Tm) (fs : List Frm) (b : Bool) (hn : Pure E 133 [.d .old (.str n)] (.d .top (.bool b)))
    (q1 q2 : Bool) (h1 : Pure E 90 [.d .old (.row 3 (Tm.ds us)), .fn 91 [] [.fb [.d .old (.int .i64 0)] 0]] (.d .top (.bool q1)))
    (h2 : Pure E 92 [.d .old (.row 4 (Frm.ds fs)), .fn 93 [] [.fb [.d .old (.int .i64 0)] 0]] (.d .top (.bool q2))) :
    Pure E 54 [.d .old (.agg [.int .u8 13, .str n, .row 3 (Tm.ds us), .row 4 (Frm.ds fs)]), .d .old (.int .i64 0)] (.d .top (.bool ((b && decide (us.length ≤ 0) && fs.length == 1) && (!q1 && !q2)))) := by
  obtain ⟨z, hz⟩ : ∃ z, z = ((b && decide (us.length ≤ 0) && fs.length == 1) && (!q1 && !q2)) := ⟨_, rfl⟩
  rw [← hz]
  have hr := rows_ok
  unfold rowsV at hr
  refine pure_by has54 ?_
  generalize hp : std = p
  have ew : p.wrap .i64 13 = 13 := by subst hp; rfl
  have eg : p.le 17 13 = false := by subst hp; rfl
  have e00 : p.lt 0 0 = false := by subst hp; rfl
  have e16 : p.eq 13 16 = false := by subst hp; rfl
  have e1 : p.lt 0 (p.dlen (Tm.ds us)) = !decide (us.length ≤ 0) := gt_len hp rfl us
  have e2 : p.eq (p.dlen (Frm.ds fs)) 1 = (fs.length == 1) := eq_lenF hp rfl fs
  generalize decide (us.length ≤ 0) = b1 at *
  generalize (fs.length == 1) = b2 at *
  (generalize cq0 : Frm.ds = cy0, cq1 : Tm.ds = cy1; cbv <;> subst cq0 cq1)
  refine callA.pure hr rfl ?_
  (generalize cq0 : Frm.ds = cy0, cq1 : Tm.ds = cy1; cbv <;> subst cq0 cq1)
  simp only [ew, eg]
  (generalize cq0 : Frm.ds = cy0, cq1 : Tm.ds = cy1; cbv <;> subst cq0 cq1)
  refine ⟨by subst hp; simp [std], ?_⟩
  refine ⟨by subst hp; simp [std], ?_⟩
  simp only [e00]
  (generalize cq0 : Frm.ds = cy0, cq1 : Tm.ds = cy1; cbv <;> subst cq0 cq1)
  refine callA.pure hn rfl ?_
  (generalize cq0 : Frm.ds = cy0, cq1 : Tm.ds = cy1; cbv <;> subst cq0 cq1)
  cases b with
  | false => simp only [not_f hp]; (generalize cq0 : Frm.ds = cy0, cq1 : Tm.ds = cy1; cbv <;> subst cq0 cq1); rw [hz]; rfl
  | true =>
  simp only [not_t hp]
  (generalize cq0 : Frm.ds = cy0, cq1 : Tm.ds = cy1; cbv <;> subst cq0 cq1)
  simp only [e1]
  cases b1 with
  | false => (generalize cq0 : Frm.ds = cy0, cq1 : Tm.ds = cy1; cbv <;> subst cq0 cq1); rw [hz]; rfl
  | true =>
  (generalize cq0 : Frm.ds = cy0, cq1 : Tm.ds = cy1; cbv <;> subst cq0 cq1)
  simp only [e2]
  cases b2 with
  | false => simp only [not_f hp]; (generalize cq0 : Frm.ds = cy0, cq1 : Tm.ds = cy1; cbv <;> subst cq0 cq1); rw [hz]; rfl
  | true =>
  simp only [not_t hp]
  (generalize cq0 : Frm.ds = cy0, cq1 : Tm.ds = cy1; cbv <;> subst cq0 cq1)
  simp only [e16]
  (generalize cq0 : Frm.ds = cy0, cq1 : Tm.ds = cy1; cbv <;> subst cq0 cq1)
  refine callA.pure h1 rfl ?_
  (generalize cq0 : Frm.ds = cy0, cq1 : Tm.ds = cy1; cbv <;> subst cq0 cq1)
  cases q1 with
  | true => simp only [not_t hp]; (generalize cq0 : Frm.ds = cy0, cq1 : Tm.ds = cy1; cbv <;> subst cq0 cq1); rw [hz]; rfl
  | false =>
  simp only [not_f hp]
  (generalize cq0 : Frm.ds = cy0, cq1 : Tm.ds = cy1; cbv <;> subst cq0 cq1)
  refine callA.pure h2 rfl ?_
  (generalize cq0 : Frm.ds = cy0, cq1 : Tm.ds = cy1; cbv <;> subst cq0 cq1)
  cases q2 with
  | true => simp only [not_t hp]; cbv; rw [hz]; rfl
  | false => simp only [not_f hp]; cbv; rw [hz]; rfl
theorem shape_op14 (n : Nm) (us : List Tm) (fs : List Frm) (b : Bool) (hn : Pure E 133 [.d .old (.str n)] (.d .top (.bool b)))
    (q1 q2 : Bool) (h1 : Pure E 90 [.d .old (.row 3 (Tm.ds us)), .fn 91 [] [.fb [.d .old (.int .i64 0)] 0]] (.d .top (.bool q1)))
    (h2 : Pure E 92 [.d .old (.row 4 (Frm.ds fs)), .fn 93 [] [.fb [.d .old (.int .i64 0)] 0]] (.d .top (.bool q2))) :
    Pure E 54 [.d .old (.agg [.int .u8 14, .str n, .row 3 (Tm.ds us), .row 4 (Frm.ds fs)]), .d .old (.int .i64 0)] (.d .top (.bool ((b && decide (us.length ≤ 0) && fs.length == 2) && (!q1 && !q2)))) := by
  obtain ⟨z, hz⟩ : ∃ z, z = ((b && decide (us.length ≤ 0) && fs.length == 2) && (!q1 && !q2)) := ⟨_, rfl⟩
  rw [← hz]
  have hr := rows_ok
  unfold rowsV at hr
  refine pure_by has54 ?_
  generalize hp : std = p
  have ew : p.wrap .i64 14 = 14 := by subst hp; rfl
  have eg : p.le 17 14 = false := by subst hp; rfl
  have e00 : p.lt 0 0 = false := by subst hp; rfl
  have e16 : p.eq 14 16 = false := by subst hp; rfl
  have e1 : p.lt 0 (p.dlen (Tm.ds us)) = !decide (us.length ≤ 0) := gt_len hp rfl us
  have e2 : p.eq (p.dlen (Frm.ds fs)) 2 = (fs.length == 2) := eq_lenF hp rfl fs
  generalize decide (us.length ≤ 0) = b1 at *
  generalize (fs.length == 2) = b2 at *
  (generalize cq0 : Frm.ds = cy0, cq1 : Tm.ds = cy1; cbv <;> subst cq0 cq1)
  refine callA.pure hr rfl ?_
  (generalize cq0 : Frm.ds = cy0, cq1 : Tm.ds = cy1; cbv <;> subst cq0 cq1)
  simp only [ew, eg]
  (generalize cq0 : Frm.ds = cy0, cq1 : Tm.ds = cy1; cbv <;> subst cq0 cq1)
  refine ⟨by subst hp; simp [std], ?_⟩
  refine ⟨by subst hp; simp [std], ?_⟩
  simp only [e00]
  (generalize cq0 : Frm.ds = cy0, cq1 : Tm.ds = cy1; cbv <;> subst cq0 cq1)
  refine callA.pure hn rfl ?_
  (generalize cq0 : Frm.ds = cy0, cq1 : Tm.ds = cy1; cbv <;> subst cq0 cq1)
  cases b with
  | false => simp only [not_f hp]; (generalize cq0 : Frm.ds = cy0, cq1 : Tm.ds = cy1; cbv <;> subst cq0 cq1); rw [hz]; rfl
  | true =>
  simp only [not_t hp]
  (generalize cq0 : Frm.ds = cy0, cq1 : Tm.ds = cy1; cbv <;> subst cq0 cq1)
  simp only [e1]
  cases b1 with
  | false => (generalize cq0 : Frm.ds = cy0, cq1 : Tm.ds = cy1; cbv <;> subst cq0 cq1); rw [hz]; rfl
  | true =>
  (generalize cq0 : Frm.ds = cy0, cq1 : Tm.ds = cy1; cbv <;> subst cq0 cq1)
  simp only [e2]
  cases b2 with
  | false => simp only [not_f hp]; (generalize cq0 : Frm.ds = cy0, cq1 : Tm.ds = cy1; cbv <;> subst cq0 cq1); rw [hz]; rfl
  | true =>
  simp only [not_t hp]
  (generalize cq0 : Frm.ds = cy0, cq1 : Tm.ds = cy1; cbv <;> subst cq0 cq1)
  simp only [e16]
  (generalize cq0 : Frm.ds = cy0, cq1 : Tm.ds = cy1; cbv <;> subst cq0 cq1)
  refine callA.pure h1 rfl ?_
  (generalize cq0 : Frm.ds = cy0, cq1 : Tm.ds = cy1; cbv <;> subst cq0 cq1)
  cases q1 with
  | true => simp only [not_t hp]; (generalize cq0 : Frm.ds = cy0, cq1 : Tm.ds = cy1; cbv <;> subst cq0 cq1); rw [hz]; rfl
  | false =>
  simp only [not_f hp]
  (generalize cq0 : Frm.ds = cy0, cq1 : Tm.ds = cy1; cbv <;> subst cq0 cq1)
  refine callA.pure h2 rfl ?_
  (generalize cq0 : Frm.ds = cy0, cq1 : Tm.ds = cy1; cbv <;> subst cq0 cq1)
  cases q2 with
  | true => simp only [not_t hp]; cbv; rw [hz]; rfl
  | false => simp only [not_f hp]; cbv; rw [hz]; rfl
theorem shape_op15 (n : Nm) (us : List Tm) (fs : List Frm) : Pure E 54 [.d .old (.agg [.int .u8 15, .str n, .row 3 (Tm.ds us), .row 4 (Frm.ds fs)]), .d .old (.int .i64 0)] (.d .top (.bool false)) := by
  have hr := rows_ok
  unfold rowsV at hr
  refine pure_by has54 ?_
  generalize hp : std = p
  have ew : p.wrap .i64 15 = 15 := by subst hp; rfl
  have eg : p.le 17 15 = false := by subst hp; rfl
  have e00 : p.lt 0 1 = true := by subst hp; rfl
  have e16 : p.eq 15 16 = false := by subst hp; rfl
  (generalize cq0 : Frm.ds = cy0, cq1 : Tm.ds = cy1; cbv <;> subst cq0 cq1)
  refine callA.pure hr rfl ?_
  (generalize cq0 : Frm.ds = cy0, cq1 : Tm.ds = cy1; cbv <;> subst cq0 cq1)
  simp only [ew, eg]
  (generalize cq0 : Frm.ds = cy0, cq1 : Tm.ds = cy1; cbv <;> subst cq0 cq1)
  refine ⟨by subst hp; simp [std], ?_⟩
  refine ⟨by subst hp; simp [std], ?_⟩
  simp only [e00]
  (generalize cq0 : Frm.ds = cy0, cq1 : Tm.ds = cy1; cbv <;> subst cq0 cq1)
theorem shape_op16 (n : Nm) (us : List Tm) (fs : List Frm) : Pure E 54 [.d .old (.agg [.int .u8 16, .str n, .row 3 (Tm.ds us), .row 4 (Frm.ds fs)]), .d .old (.int .i64 0)] (.d .top (.bool false)) := by
  have hr := rows_ok
  unfold rowsV at hr
  refine pure_by has54 ?_
  generalize hp : std = p
  have ew : p.wrap .i64 16 = 16 := by subst hp; rfl
  have eg : p.le 17 16 = false := by subst hp; rfl
  have e00 : p.lt 0 1 = true := by subst hp; rfl
  have e16 : p.eq 16 16 = true := by subst hp; rfl
  (generalize cq0 : Frm.ds = cy0, cq1 : Tm.ds = cy1; cbv <;> subst cq0 cq1)
  refine callA.pure hr rfl ?_
  (generalize cq0 : Frm.ds = cy0, cq1 : Tm.ds = cy1; cbv <;> subst cq0 cq1)
  simp only [ew, eg]
  (generalize cq0 : Frm.ds = cy0, cq1 : Tm.ds = cy1; cbv <;> subst cq0 cq1)
  refine ⟨by subst hp; simp [std], ?_⟩
  refine ⟨by subst hp; simp [std], ?_⟩
  simp only [e00]
  (generalize cq0 : Frm.ds = cy0, cq1 : Tm.ds = cy1; cbv <;> subst cq0 cq1)
theorem shape_big (o : Int) (h : 17 ≤ o) (h' : o < 256) (n : Nm) (us : List Tm) (fs : List Frm) : Pure E 54 [.d .old (.agg [.int .u8 o, .str n, .row 3 (Tm.ds us), .row 4 (Frm.ds fs)]), .d .old (.int .i64 0)] (.d .top (.bool false)) := by
  have hr := rows_ok
  unfold rowsV at hr
  refine pure_by has54 ?_
  generalize hp : std = p
  have ew : p.wrap .i64 o = o := by subst hp; exact wrap64_id (by simp [std]; omega)
  have eg : p.le 17 o = true := by subst hp; simp [std]; omega
  (generalize cq0 : Frm.ds = cy0, cq1 : Tm.ds = cy1; cbv <;> subst cq0 cq1)
  refine callA.pure hr rfl ?_
  (generalize cq0 : Frm.ds = cy0, cq1 : Tm.ds = cy1; cbv <;> subst cq0 cq1)
  simp only [ew, eg]
  (generalize cq0 : Frm.ds = cy0, cq1 : Tm.ds = cy1; cbv <;> subst cq0 cq1)
end Go.Ly.Tr
end
section
namespace Go.Ly.Tr
set_option maxRecDepth 4000
def rowOp (o : UInt8) : Option (Nat × Nat × Nat) :=
  if o = 1 then some (2, 4, 0) else if o = 2 then some (0, 0, 0) else if o = 3 ∨ o = 10 ∨ o = 11 ∨ o = 12 ∨ o = 13 then some (0, 0, 1)
  else if o = 4 ∨ o = 5 ∨ o = 6 ∨ o = 7 ∨ o = 14 then some (0, 0, 2) else if o = 8 ∨ o = 9 then some (1, 0, 1) else none
def kindB (k : Nat) (n : Nm) : Bool := if k = 0 then n.isEmpty else if k = 1 then varB n else predB n
mutual
def Frm.ok : Frm → Bool
  | .mk o n us fs => match rowOp o with
    | none => false
    | some (k, a, s) => (kindB k n && decide (us.length ≤ a) && fs.length == s) && (Tm.oks us && Frm.oks fs)
def Frm.oks : List Frm → Bool
  | [] => true
  | t :: l => t.ok && Frm.oks l
end
theorem Frm.oks_any : ∀ l : List Frm, Frm.oks l = !(l.any fun t => !t.ok)
  | [] => rfl
  | t :: l => by rw [Frm.oks, Frm.oks_any l, List.any_cons]; cases t.ok <;> simp
theorem shape_ok (f : Frm) : f.size ≤ 1000000 → Pure E 54 [.d .old f.d, .d .old (.int .i64 0)] (.d .top (.bool f.ok)) := by
  induction f using Frm.ind with
  | h o n us fs ih =>
  intro hs
  have hl := Tm.len_size us
  have hl' := Frm.len_size fs
  simp only [Frm.size] at hs
  have hc1 : ∀ x ∈ us, (∃ a b c, x.d = .agg [.bool a, .str b, .row 3 c]) ∧ Pure E 91 [.d .old x.d, .fb [.d .old (.int .i64 0)] 0] (.d .top (.bool (!x.ok))) := by
    intro x hx
    have := Tm.size_mem hx
    have h := term_ok x (by omega)
    obtain ⟨a, b, c⟩ := x
    generalize (Tm.mk a b c).ok = q at *
    simp only [Tm.d] at h ⊢
    refine ⟨⟨_, _, _, rfl⟩, ?_⟩
    refine pure_by has91 ?_
    generalize hp : std = p
    (generalize cq0 : Tm.ds = cy0; cbv <;> subst cq0)
    refine callA.pure h rfl ?_
    (generalize cq0 : Tm.ds = cy0; cbv <;> subst cq0)
    subst hp
    rfl
  have hc2 : ∀ x ∈ fs, (∃ a b c d, x.d = .agg [.int .u8 a, .str b, .row 3 c, .row 4 d]) ∧ Pure E 93 [.d .old x.d, .fb [.d .old (.int .i64 0)] 0] (.d .top (.bool (!x.ok))) := by
    intro x hx
    have := Frm.size_mem hx
    have h := ih x hx (by omega)
    obtain ⟨a, b, c, d⟩ := x
    generalize (Frm.mk a b c d).ok = q at *
    simp only [Frm.d] at h ⊢
    refine ⟨⟨_, _, _, _, rfl⟩, ?_⟩
    refine pure_by has93 ?_
    generalize hp : std = p
    (generalize cq0 : Frm.ds = cy0, cq1 : Tm.ds = cy1, cq2 : opI = cy2; cbv <;> subst cq0 cq1 cq2)
    refine callA.pure h rfl ?_
    (generalize cq0 : Frm.ds = cy0, cq1 : Tm.ds = cy1, cq2 : opI = cy2; cbv <;> subst cq0 cq1 cq2)
    subst hp
    rfl
  have h1 := containsFuncT_ok us (by omega) hc1
  have h2 := containsFuncF_ok fs (by omega) hc2
  rw [show mapO Tm.d us = Tm.ds us from (Tm.ds_eq us).symm] at h1
  rw [show mapO Frm.d fs = Frm.ds fs from (Frm.ds_eq fs).symm] at h2
  rw [Frm.ok]
  simp only [oks_any, Frm.oks_any, Frm.d, opI]
  generalize (us.any fun t => !t.ok) = q1 at *
  generalize (fs.any fun t => !t.ok) = q2 at *
  clear hc1 hc2 ih
  have h0 : Pure E 133 [.d .old (.str n)] (.d .top (.bool (kindB 0 n))) := by
    have := none_ok .old n
    rw [show kindB 0 n = std.seq n [] by simp only [kindB, std, if_true]; cases n <;> rfl]
    exact this
  have hv : Pure E 18 [.d .old (.str n)] (.d .top (.bool (kindB 1 n))) := variable_ok n
  have hP : Pure E 134 [.d .old (.str n)] (.d .top (.bool (kindB 2 n))) := predicate_ok n
  by_cases hbig : 17 ≤ o.toNat
  · have hr : rowOp o = none := by
      have hne : ∀ k : UInt8, k.toNat < 17 → o ≠ k := fun k hk e => by subst e; omega
      simp [rowOp, hne]
    rw [hr]
    exact shape_big o.toNat (by omega) (by have := o.toNat_lt; omega) n us fs
  · have hlt : o.toNat < 17 := by omega
    obtain ⟨i, hi⟩ : ∃ i, i = o.toNat := ⟨_, rfl⟩
    have ho : o = UInt8.ofNat i := by rw [hi]; simp
    rw [← hi] at hlt
    clear hi hbig
    subst ho
    match i, hlt with
    | 0, _ => exact shape_op0 n us fs
    | 1, _ => exact shape_op1 n us fs _ hP _ _ h1 h2
    | 2, _ => exact shape_op2 n us fs _ h0 _ _ h1 h2
    | 3, _ => exact shape_op3 n us fs _ h0 _ _ h1 h2
    | 4, _ => exact shape_op4 n us fs _ h0 _ _ h1 h2
    | 5, _ => exact shape_op5 n us fs _ h0 _ _ h1 h2
    | 6, _ => exact shape_op6 n us fs _ h0 _ _ h1 h2
    | 7, _ => exact shape_op7 n us fs _ h0 _ _ h1 h2
    | 8, _ => exact shape_op8 n us fs _ hv _ _ h1 h2
    | 9, _ => exact shape_op9 n us fs _ hv _ _ h1 h2
    | 10, _ => exact shape_op10 n us fs _ h0 _ _ h1 h2
    | 11, _ => exact shape_op11 n us fs _ h0 _ _ h1 h2
    | 12, _ => exact shape_op12 n us fs _ h0 _ _ h1 h2
    | 13, _ => exact shape_op13 n us fs _ h0 _ _ h1 h2
    | 14, _ => exact shape_op14 n us fs _ h0 _ _ h1 h2
    | 15, _ => exact shape_op15 n us fs
    | 16, _ => exact shape_op16 n us fs
    | k + 17, h => exact absurd h (by omega)
def Frm.right (f : Frm) : Bool := fitsB f && f.ok
theorem right_ok (f : Frm) (hs : f.size ≤ 1000000) : Pure E 17 [.d .old f.d] (.d .top (.bool f.right)) := by
  have h1 := fits_ok f hs
  have h2 := shape_ok f hs
  have hq : f.right = (fitsB f && f.ok) := rfl
  obtain ⟨z, hz⟩ : ∃ z, f.right = z := ⟨_, rfl⟩
  rw [hz] at hq ⊢
  obtain ⟨o, n, us, fs⟩ := f
  generalize (Frm.mk o n us fs).ok = q at *
  generalize fitsB (Frm.mk o n us fs) = q' at *
  simp only [Frm.d] at h1 h2 ⊢
  refine pure_by has17 ?_
  generalize hp : std = p
  (generalize cq0 : Frm.ds = cy0, cq1 : Tm.ds = cy1, cq2 : opI = cy2; cbv <;> subst cq0 cq1 cq2)
  refine callA.pure h1 rfl ?_
  (generalize cq0 : Frm.ds = cy0, cq1 : Tm.ds = cy1, cq2 : opI = cy2; cbv <;> subst cq0 cq1 cq2)
  cases q' with
  | false => (generalize cq0 : Frm.ds = cy0, cq1 : Tm.ds = cy1, cq2 : opI = cy2; cbv <;> subst cq0 cq1 cq2); rw [hq]; rfl
  | true =>
    (generalize cq0 : Frm.ds = cy0, cq1 : Tm.ds = cy1, cq2 : opI = cy2; cbv <;> subst cq0 cq1 cq2)
    refine callA.pure h2 rfl ?_
    (generalize cq0 : Frm.ds = cy0, cq1 : Tm.ds = cy1, cq2 : opI = cy2; cbv <;> subst cq0 cq1 cq2)
    rw [hq]; rfl
end Go.Ly.Tr
end
section
namespace Go.Ly.Tr
set_option maxRecDepth 4000
theorem eachTB_ok {α : Type} {g h : α → D} {k : Nat} {y : D} (l : List α) (hl : l.length ≤ 1000000) (hel : ∀ x ∈ l, (∃ v1 v2 v3, g x = .agg [.bool v1, .str v2, .row 3 v3]) ∧ (∃ v1 v2 v3, h x = .agg [.bool v1, .str v2, .row 3 v3]) ∧ Pure E k [.d .old y, .d .old (g x)] (.d .new (h x))) :
    Pure E 103 [.d .old (.row 3 (mapO g l)), .fn k [.d .old y] []] (.fresh 3 (mapO h l) .new) := by
  refine pure_by has103 ?_
  generalize hp : std = p
  (generalize cq0 : mapO = cy0; cbv <;> subst cq0)
  subst hp
  refine loopA_list l (fun d r => mkF 22 [(1, .fn k [.d .old y] []), (5, .own 598 3 (mapO h d) .new), (8, .d .old (.row 3 (mapO g l))), (9, .d .top (.int .i64 (std.dlen (mapO g l)))), (10, .d .top (.int .i64 (std.dlen (mapO g d))))])
    (fun d r => []) (fun _ _ => ()) ?_ rfl (fun _ _ => rfl) ?_ ?_
  · generalize hp : std = p
    (generalize cq0 : mapO = cy0; cbv <;> subst cq0)
    subst hp
    simp [std, mapO]
  · generalize hp : std = p
    (generalize cq0 : mapO = cy0; cbv <;> subst cq0)
    simp only [end_ltO hp]
    (generalize cq0 : mapO = cy0; cbv <;> subst cq0)
  · intro d e r d' hes hd'
    obtain ⟨⟨v1, v2, v3, he⟩, ⟨w1, w2, w3, hw⟩, hok⟩ := hel e (by rw [hes]; simp)
    rw [he, hw] at hok
    generalize hp : std = p
    have hget := at_getO (g := g) hp hes
    rw [he] at hget
    have hcat : p.dcat (mapO h d) [.agg [.bool w1, .str w2, .row 3 w3]] = mapO h d' := by subst hp hd'; simp [std, mapO, hw]
    have hnx : p.add (p.dlen (mapO g d)) 1 = p.dlen (mapO g d') := by subst hp hd'; simp [std, mapO]
    (generalize cq0 : mapO = cy0; cbv <;> subst cq0)
    simp only [at_ltO hp hes]
    (generalize cq0 : mapO = cy0; cbv <;> subst cq0)
    refine ⟨_, hget, ?_⟩
    (generalize cq0 : mapO = cy0; cbv <;> subst cq0)
    refine callA.pure hok rfl ?_
    (generalize cq0 : mapO = cy0; cbv <;> subst cq0)
    simp only [hcat, hnx]
    have hlen' : l.length = d.length + (r.length + 1) := by rw [hes]; simp
    have hd2 : (mapO g d').length = d.length + 1 := by rw [mapO_len, hd']; simp
    refine ⟨?_, ?_, by simp⟩
    · subst hp
      simp [std, mapO]
      omega
    · subst hp
      simp [std, hd2]
      omega
theorem eachFB_ok {α : Type} {g h : α → D} {k : Nat} {y : D} (l : List α) (hl : l.length ≤ 1000000) (hel : ∀ x ∈ l, (∃ v1 v2 v3 v4, g x = .agg [.int .u8 v1, .str v2, .row 3 v3, .row 4 v4]) ∧ (∃ v1 v2 v3 v4, h x = .agg [.int .u8 v1, .str v2, .row 3 v3, .row 4 v4]) ∧ Pure E k [.d .old y, .d .old (g x)] (.d .new (h x))) :
    Pure E 104 [.d .old (.row 4 (mapO g l)), .fn k [.d .old y] []] (.fresh 4 (mapO h l) .new) := by
  refine pure_by has104 ?_
  generalize hp : std = p
  (generalize cq0 : mapO = cy0; cbv <;> subst cq0)
  subst hp
  refine loopA_list l (fun d r => mkF 22 [(1, .fn k [.d .old y] []), (5, .own 598 4 (mapO h d) .new), (8, .d .old (.row 4 (mapO g l))), (9, .d .top (.int .i64 (std.dlen (mapO g l)))), (10, .d .top (.int .i64 (std.dlen (mapO g d))))])
    (fun d r => []) (fun _ _ => ()) ?_ rfl (fun _ _ => rfl) ?_ ?_
  · generalize hp : std = p
    (generalize cq0 : mapO = cy0; cbv <;> subst cq0)
    subst hp
    simp [std, mapO]
  · generalize hp : std = p
    (generalize cq0 : mapO = cy0; cbv <;> subst cq0)
    simp only [end_ltO hp]
    (generalize cq0 : mapO = cy0; cbv <;> subst cq0)
  · intro d e r d' hes hd'
    obtain ⟨⟨v1, v2, v3, v4, he⟩, ⟨w1, w2, w3, w4, hw⟩, hok⟩ := hel e (by rw [hes]; simp)
    rw [he, hw] at hok
    generalize hp : std = p
    have hget := at_getO (g := g) hp hes
    rw [he] at hget
    have hcat : p.dcat (mapO h d) [.agg [.int .u8 w1, .str w2, .row 3 w3, .row 4 w4]] = mapO h d' := by subst hp hd'; simp [std, mapO, hw]
    have hnx : p.add (p.dlen (mapO g d)) 1 = p.dlen (mapO g d') := by subst hp hd'; simp [std, mapO]
    (generalize cq0 : mapO = cy0; cbv <;> subst cq0)
    simp only [at_ltO hp hes]
    (generalize cq0 : mapO = cy0; cbv <;> subst cq0)
    refine ⟨_, hget, ?_⟩
    (generalize cq0 : mapO = cy0; cbv <;> subst cq0)
    refine callA.pure hok rfl ?_
    (generalize cq0 : mapO = cy0; cbv <;> subst cq0)
    simp only [hcat, hnx]
    have hlen' : l.length = d.length + (r.length + 1) := by rw [hes]; simp
    have hd2 : (mapO g d').length = d.length + 1 := by rw [mapO_len, hd']; simp
    refine ⟨?_, ?_, by simp⟩
    · subst hp
      simp [std, mapO]
      omega
    · subst hp
      simp [std, hd2]
      omega
theorem eachFC_ok {α : Type} {g h : α → D} {k : Nat} {y : D} {z : D} (l : List α) (hl : l.length ≤ 1000000) (hel : ∀ x ∈ l, (∃ v1 v2 v3 v4, g x = .agg [.int .u8 v1, .str v2, .row 3 v3, .row 4 v4]) ∧ (∃ v1 v2 v3 v4, h x = .agg [.int .u8 v1, .str v2, .row 3 v3, .row 4 v4]) ∧ Pure E k [.d .old (g x), .fb [.d .old y] 0, .fb [.d .old z] 0] (.d .new (h x))) :
    Pure E 104 [.d .old (.row 4 (mapO g l)), .fn k [] [.fb [.d .old y] 0, .fb [.d .old z] 0]] (.fresh 4 (mapO h l) .new) := by
  refine pure_by has104 ?_
  generalize hp : std = p
  (generalize cq0 : mapO = cy0; cbv <;> subst cq0)
  subst hp
  refine loopA_list l (fun d r => mkF 22 [(1, .fn k [] [.fb [.d .old y] 0, .fb [.d .old z] 0]), (5, .own 598 4 (mapO h d) .new), (8, .d .old (.row 4 (mapO g l))), (9, .d .top (.int .i64 (std.dlen (mapO g l)))), (10, .d .top (.int .i64 (std.dlen (mapO g d))))])
    (fun d r => []) (fun _ _ => ()) ?_ rfl (fun _ _ => rfl) ?_ ?_
  · generalize hp : std = p
    (generalize cq0 : mapO = cy0; cbv <;> subst cq0)
    subst hp
    simp [std, mapO]
  · generalize hp : std = p
    (generalize cq0 : mapO = cy0; cbv <;> subst cq0)
    simp only [end_ltO hp]
    (generalize cq0 : mapO = cy0; cbv <;> subst cq0)
  · intro d e r d' hes hd'
    obtain ⟨⟨v1, v2, v3, v4, he⟩, ⟨w1, w2, w3, w4, hw⟩, hok⟩ := hel e (by rw [hes]; simp)
    rw [he, hw] at hok
    generalize hp : std = p
    have hget := at_getO (g := g) hp hes
    rw [he] at hget
    have hcat : p.dcat (mapO h d) [.agg [.int .u8 w1, .str w2, .row 3 w3, .row 4 w4]] = mapO h d' := by subst hp hd'; simp [std, mapO, hw]
    have hnx : p.add (p.dlen (mapO g d)) 1 = p.dlen (mapO g d') := by subst hp hd'; simp [std, mapO]
    (generalize cq0 : mapO = cy0; cbv <;> subst cq0)
    simp only [at_ltO hp hes]
    (generalize cq0 : mapO = cy0; cbv <;> subst cq0)
    refine ⟨_, hget, ?_⟩
    (generalize cq0 : mapO = cy0; cbv <;> subst cq0)
    refine callA.pure hok rfl ?_
    (generalize cq0 : mapO = cy0; cbv <;> subst cq0)
    simp only [hcat, hnx]
    have hlen' : l.length = d.length + (r.length + 1) := by rw [hes]; simp
    have hd2 : (mapO g d').length = d.length + 1 := by rw [mapO_len, hd']; simp
    refine ⟨?_, ?_, by simp⟩
    · subst hp
      simp [std, mapO]
      omega
    · subst hp
      simp [std, hd2]
      omega
theorem copiedT_ok {α : Type} {g h : α → D} {k : Nat}  (l : List α) (hl : l.length ≤ 1000000) (hel : ∀ x ∈ l, (∃ v1 v2 v3, g x = .agg [.bool v1, .str v2, .row 3 v3]) ∧ (∃ v1 v2 v3, h x = .agg [.bool v1, .str v2, .row 3 v3]) ∧ Pure E k [.d .old (g x)] (.d .new (h x))) :
    Pure E 143 [.d .old (.row 3 (mapO g l)), .fn k [] []] (.fresh 3 (mapO h l) .new) := by
  refine pure_by has143 ?_
  generalize hp : std = p
  (generalize cq0 : mapO = cy0; cbv <;> subst cq0)
  subst hp
  refine loopA_list l (fun d r => mkF 22 [(1, .fn k [] []), (5, .own 598 3 (mapO h d) .new), (8, .d .old (.row 3 (mapO g l))), (9, .d .top (.int .i64 (std.dlen (mapO g l)))), (10, .d .top (.int .i64 (std.dlen (mapO g d))))])
    (fun d r => []) (fun _ _ => ()) ?_ rfl (fun _ _ => rfl) ?_ ?_
  · generalize hp : std = p
    (generalize cq0 : mapO = cy0; cbv <;> subst cq0)
    subst hp
    simp [std, mapO]
  · generalize hp : std = p
    (generalize cq0 : mapO = cy0; cbv <;> subst cq0)
    simp only [end_ltO hp]
    (generalize cq0 : mapO = cy0; cbv <;> subst cq0)
  · intro d e r d' hes hd'
    obtain ⟨⟨v1, v2, v3, he⟩, ⟨w1, w2, w3, hw⟩, hok⟩ := hel e (by rw [hes]; simp)
    rw [he, hw] at hok
    generalize hp : std = p
    have hget := at_getO (g := g) hp hes
    rw [he] at hget
    have hcat : p.dcat (mapO h d) [.agg [.bool w1, .str w2, .row 3 w3]] = mapO h d' := by subst hp hd'; simp [std, mapO, hw]
    have hnx : p.add (p.dlen (mapO g d)) 1 = p.dlen (mapO g d') := by subst hp hd'; simp [std, mapO]
    (generalize cq0 : mapO = cy0; cbv <;> subst cq0)
    simp only [at_ltO hp hes]
    (generalize cq0 : mapO = cy0; cbv <;> subst cq0)
    refine ⟨_, hget, ?_⟩
    (generalize cq0 : mapO = cy0; cbv <;> subst cq0)
    refine callA.pure hok rfl ?_
    (generalize cq0 : mapO = cy0; cbv <;> subst cq0)
    simp only [hcat, hnx]
    have hlen' : l.length = d.length + (r.length + 1) := by rw [hes]; simp
    have hd2 : (mapO g d').length = d.length + 1 := by rw [mapO_len, hd']; simp
    refine ⟨?_, ?_, by simp⟩
    · subst hp
      simp [std, mapO]
      omega
    · subst hp
      simp [std, hd2]
      omega
theorem copiedF_ok {α : Type} {g h : α → D} {k : Nat}  (l : List α) (hl : l.length ≤ 1000000) (hel : ∀ x ∈ l, (∃ v1 v2 v3 v4, g x = .agg [.int .u8 v1, .str v2, .row 3 v3, .row 4 v4]) ∧ (∃ v1 v2 v3 v4, h x = .agg [.int .u8 v1, .str v2, .row 3 v3, .row 4 v4]) ∧ Pure E k [.d .old (g x)] (.d .new (h x))) :
    Pure E 145 [.d .old (.row 4 (mapO g l)), .fn k [] []] (.fresh 4 (mapO h l) .new) := by
  refine pure_by has145 ?_
  generalize hp : std = p
  (generalize cq0 : mapO = cy0; cbv <;> subst cq0)
  subst hp
  refine loopA_list l (fun d r => mkF 22 [(1, .fn k [] []), (5, .own 598 4 (mapO h d) .new), (8, .d .old (.row 4 (mapO g l))), (9, .d .top (.int .i64 (std.dlen (mapO g l)))), (10, .d .top (.int .i64 (std.dlen (mapO g d))))])
    (fun d r => []) (fun _ _ => ()) ?_ rfl (fun _ _ => rfl) ?_ ?_
  · generalize hp : std = p
    (generalize cq0 : mapO = cy0; cbv <;> subst cq0)
    subst hp
    simp [std, mapO]
  · generalize hp : std = p
    (generalize cq0 : mapO = cy0; cbv <;> subst cq0)
    simp only [end_ltO hp]
    (generalize cq0 : mapO = cy0; cbv <;> subst cq0)
  · intro d e r d' hes hd'
    obtain ⟨⟨v1, v2, v3, v4, he⟩, ⟨w1, w2, w3, w4, hw⟩, hok⟩ := hel e (by rw [hes]; simp)
    rw [he, hw] at hok
    generalize hp : std = p
    have hget := at_getO (g := g) hp hes
    rw [he] at hget
    have hcat : p.dcat (mapO h d) [.agg [.int .u8 w1, .str w2, .row 3 w3, .row 4 w4]] = mapO h d' := by subst hp hd'; simp [std, mapO, hw]
    have hnx : p.add (p.dlen (mapO g d)) 1 = p.dlen (mapO g d') := by subst hp hd'; simp [std, mapO]
    (generalize cq0 : mapO = cy0; cbv <;> subst cq0)
    simp only [at_ltO hp hes]
    (generalize cq0 : mapO = cy0; cbv <;> subst cq0)
    refine ⟨_, hget, ?_⟩
    (generalize cq0 : mapO = cy0; cbv <;> subst cq0)
    refine callA.pure hok rfl ?_
    (generalize cq0 : mapO = cy0; cbv <;> subst cq0)
    simp only [hcat, hnx]
    have hlen' : l.length = d.length + (r.length + 1) := by rw [hes]; simp
    have hd2 : (mapO g d').length = d.length + 1 := by rw [mapO_len, hd']; simp
    refine ⟨?_, ?_, by simp⟩
    · subst hp
      simp [std, mapO]
      omega
    · subst hp
      simp [std, hd2]
      omega
end Go.Ly.Tr
end
section
namespace Go.Ly.Tr
set_option maxRecDepth 4000
theorem own_ok (t : Tm) : t.size ≤ 1000000 → Pure E 117 [.d .old t.d] (.d .new t.d) := by
  induction t using Tm.ind with
  | h v n us ih =>
  intro hs
  simp only [Tm.d]
  rw [Tm.ds_eq]
  have hlen : us.length ≤ 1000000 := by
    have := Tm.len_size us
    simp only [Tm.size] at hs
    omega
  obtain ⟨es, hes⟩ : ∃ es, es = us.map Tm.d := ⟨_, rfl⟩
  rw [← hes]
  have hl : es.length ≤ 1000000 := by rw [hes]; simpa using hlen
  have hel : ∀ e ∈ es, ∃ a b c, e = .agg [.bool a, .str b, .row 3 c] ∧ Pure E 117 [.d .old e] (.d .new e) := by
    intro e he
    rw [hes, List.mem_map] at he
    obtain ⟨⟨a, b, c⟩, hu, rfl⟩ := he
    refine ⟨a, b, _, rfl, ih _ hu ?_⟩
    have := Tm.size_mem hu
    simp only [Tm.size] at hs
    omega
  clear hes ih hs hlen
  refine pure_by has117 ?_
  generalize hp : std = p
  cbv
  subst hp
  refine loopA_list es (fun d r => mkF 22 [(1, .ptr 0 0), (2, .ptr 1 0), (3, .own 398 3 d .new), (6, .ptr 0 2), (7, .d .old (.row 3 es)), (8, .d .top (.int .i64 (std.dlen es))), (9, .d .top (.int .i64 (std.dlen d)))])
    (fun d r => [.bx [.d .old (.bool v), .d .old (.str n), .d .old (.row 3 es)], .bx [.d .top (.bool false), .d .top (.str []), .own 202 3 [] .top]]) (fun _ _ => ()) ?_ rfl (fun _ _ => rfl) ?_ ?_
  · generalize hp : std = p
    cbv
    subst hp
    simp [std]
  · generalize hp : std = p
    cbv
    simp only [end_lt hp]
    cbv
  · intro d e r d' hes hd'
    obtain ⟨a, b, c, rfl, hok⟩ := hel e (by rw [hes]; simp)
    generalize hp : std = p
    cbv
    simp only [at_lt hp hes]
    cbv
    refine ⟨_, at_get hp hes, ?_⟩
    cbv
    refine callA.pure hok rfl ?_
    cbv
    subst hp hd'
    have hlen' : es.length = d.length + (r.length + 1) := by rw [hes]; simp
    simp [std]
    omega
end Go.Ly.Tr
end
section
namespace Go.Ly.Tr
set_option maxRecDepth 4000
theorem Tm.shape (t : Tm) : ∃ v1 v2 v3, t.d = .agg [.bool v1, .str v2, .row 3 v3] := by
  obtain ⟨a, b, c⟩ := t
  exact ⟨_, _, _, rfl⟩
theorem Frm.shape (t : Frm) : ∃ v1 v2 v3 v4, t.d = .agg [.int .u8 v1, .str v2, .row 3 v3, .row 4 v4] := by
  obtain ⟨a, b, c, d⟩ := t
  exact ⟨_, _, _, _, rfl⟩
theorem mapT (l : List Tm) : mapO Tm.d l = Tm.ds l := (Tm.ds_eq l).symm
theorem mapF (l : List Frm) : mapO Frm.d l = Frm.ds l := (Frm.ds_eq l).symm
theorem ownTerm_ok (t : Tm) : t.size ≤ 1000000 → Pure E 144 [.d .old t.d] (.d .new t.d) := by
  induction t using Tm.ind with
  | h v n us ih =>
  intro hs
  have hl := Tm.len_size us
  simp only [Tm.size] at hs
  have h := copiedT_ok (g := Tm.d) (h := Tm.d) (k := 144) us (by omega) fun x hx => ⟨x.shape, x.shape, ih x hx (by have := Tm.size_mem hx; omega)⟩
  rw [mapT] at h
  simp only [Tm.d]
  refine pure_by has144 ?_
  generalize hp : std = p
  (generalize cq0 : Tm.ds = cy0; cbv <;> subst cq0)
  refine callA.pure h rfl ?_
  (generalize cq0 : Tm.ds = cy0; cbv <;> subst cq0)
theorem copy_ok (f : Frm) : f.size ≤ 1000000 → Pure E 106 [.d .old f.d] (.d .new f.d) := by
  induction f using Frm.ind with
  | h o n us fs ih =>
  intro hs
  have hl := Tm.len_size us
  have hl' := Frm.len_size fs
  simp only [Frm.size] at hs
  have h1 := copiedT_ok (g := Tm.d) (h := Tm.d) (k := 144) us (by omega) fun x hx => ⟨x.shape, x.shape, ownTerm_ok x (by have := Tm.size_mem hx; omega)⟩
  have h2 := copiedF_ok (g := Frm.d) (h := Frm.d) (k := 106) fs (by omega) fun x hx => ⟨x.shape, x.shape, ih x hx (by have := Frm.size_mem hx; omega)⟩
  rw [mapT] at h1
  rw [mapF] at h2
  simp only [Frm.d]
  refine pure_by has106 ?_
  generalize hp : std = p
  (generalize cq0 : Frm.ds = cy0, cq1 : Tm.ds = cy1, cq2 : opI = cy2; cbv <;> subst cq0 cq1 cq2)
  refine drawA.mk _ ⟨_, _, _, rfl, h1, rfl, rfl⟩ ?_
  (generalize cq0 : Frm.ds = cy0, cq1 : Tm.ds = cy1, cq2 : opI = cy2; cbv <;> subst cq0 cq1 cq2)
  refine drawA.mk _ ⟨_, _, _, rfl, h2, rfl, rfl⟩ ?_
  (generalize cq0 : Frm.ds = cy0, cq1 : Tm.ds = cy1, cq2 : opI = cy2; cbv <;> subst cq0 cq1 cq2)
abbrev Sb := Nm × Tm
def Sb.d : Sb → D
  | (x, .mk v n us) => .agg [.str x, .bool v, .str n, .row 3 (Tm.ds us)]
theorem Sb.shape (o : Sb) : ∃ v1 v2 v3 v4, o.d = .agg [.str v1, .bool v2, .str v3, .row 3 v4] := by
  obtain ⟨x, a, b, c⟩ := o
  exact ⟨_, _, _, _, rfl⟩
theorem find_ok (l : List Sb) (s : Nm) (hl : l.length ≤ 9223372036854775807) : Pure E 59 [.d .old (.row 4 (mapO Sb.d l)), .d .old (.str s)] (.d .top (.int .i64 (idxQ (fun o : Sb => o.1 == s) l 0))) := by
  have h := indexL_ok (g := Sb.d) (q := fun o : Sb => o.1 == s) (k := 99) (y := .str s) l hl fun x _ => ⟨x.shape, by
    obtain ⟨y, a, b, c⟩ := x
    simp only [Sb.d]
    obtain ⟨q, hq⟩ : ∃ q, (y == s) = q := ⟨_, rfl⟩
    rw [hq]
    refine pure_by has99 ?_
    generalize hp : std = p
    have e : p.seq y s = q := by subst hp; exact hq
    (generalize cq0 : Tm.ds = cy0; cbv <;> subst cq0)
    rw [← e]⟩
  generalize idxQ (fun o : Sb => o.1 == s) l 0 = z at *
  refine pure_by has59 ?_
  generalize hp : std = p
  (generalize cq0 : Sb.d = cy0, cq1 : mapO = cy1; cbv <;> subst cq0 cq1)
  refine callA.pure h rfl ?_
  (generalize cq0 : Sb.d = cy0, cq1 : mapO = cy1; cbv <;> subst cq0 cq1)
mutual
def Tm.sub (l : List Sb) : Tm → Tm
  | .mk v n us => if v then (match l.find? (fun o => o.1 == n) with | some o => o.2 | none => .mk v n (Tm.subs l us)) else .mk v n (Tm.subs l us)
def Tm.subs (l : List Sb) : List Tm → List Tm
  | [] => []
  | t :: ts => t.sub l :: Tm.subs l ts
end
theorem Tm.subs_eq (l : List Sb) : ∀ ts : List Tm, Tm.subs l ts = ts.map (Tm.sub l)
  | [] => rfl
  | t :: ts => by rw [Tm.subs, Tm.subs_eq l ts, List.map_cons]
theorem idxQ_lt {α : Type} (q : α → Bool) : ∀ (l : List α) (k : Nat), (idxQ q l k = -1 ∧ l.find? q = none) ∨ ∃ i o, idxQ q l k = ((k + i : Nat) : Int) ∧ l[i]? = some o ∧ l.find? q = some o
  | [], _ => .inl ⟨rfl, rfl⟩
  | e :: r, k => by
    rw [idxQ, List.find?_cons]
    cases h : q e with
    | true => exact .inr ⟨0, e, by simp, rfl, by simp⟩
    | false =>
      rcases idxQ_lt q r (k + 1) with ⟨h1, h2⟩ | ⟨i, o, h1, h2, h3⟩
      · exact .inl ⟨by simpa using h1, by simpa using h2⟩
      · exact .inr ⟨i + 1, o, by simp [h1]; omega, by simpa using h2, by simpa using h3⟩
theorem lterm_ok (l : List Sb) (hl : l.length ≤ 1000000) (hl2 : ∀ o ∈ l, o.2.size ≤ 1000000) (t : Tm) : t.size ≤ 1000000 → Pure E 72 [.d .old (.row 4 (mapO Sb.d l)), .d .old t.d] (.d .new (t.sub l).d) := by
  induction t using Tm.ind with
  | h v n us ih =>
  intro hs
  have hlen := Tm.len_size us
  simp only [Tm.size] at hs
  have h1 := eachTB_ok (g := Tm.d) (h := fun t => (t.sub l).d) (k := 72) (y := .row 4 (mapO Sb.d l)) us (by omega) fun x hx => ⟨x.shape, (x.sub l).shape, ih x hx (by have := Tm.size_mem hx; omega)⟩
  rw [mapT, show mapO (fun t => (t.sub l).d) us = Tm.ds (Tm.subs l us) by rw [Tm.subs_eq, Tm.ds_eq, List.map_map]; rfl] at h1
  have h2 := find_ok l n (by omega)
  have h3 := idxQ_lt (fun o : Sb => o.1 == n) l 0
  have hq : (Tm.mk v n us).sub l = if v then (match l.find? (fun o => o.1 == n) with | some o => o.2 | none => .mk v n (Tm.subs l us)) else .mk v n (Tm.subs l us) := by rw [Tm.sub]
  obtain ⟨r, hr⟩ : ∃ r, (Tm.mk v n us).sub l = r := ⟨_, rfl⟩
  rw [hr] at hq ⊢
  obtain ⟨L, hL⟩ : ∃ L, mapO Sb.d l = L := ⟨_, rfl⟩
  rw [hL] at h1 h2 ⊢
  generalize idxQ (fun o : Sb => o.1 == n) l 0 = z at *
  obtain ⟨us', hus⟩ : ∃ us', Tm.subs l us = us' := ⟨_, rfl⟩
  rw [hus] at hq h1
  clear ih hr
  simp only [Tm.d]
  have fin : v = false ∨ (v = true ∧ l.find? (fun o => o.1 == n) = none) → r = .mk v n us' := by
    rintro (hv | ⟨hv, hf⟩)
    · rw [hq, hv]; rfl
    · rw [hq, hv, hf]; rfl
  refine pure_by has72 ?_
  generalize hp : std = p
  (generalize cq0 : Tm.d = cy0, cq1 : Tm.ds = cy1; cbv <;> subst cq0 cq1)
  cases v with
  | false =>
    rw [fin (.inl rfl)]
    simp only [Tm.d]
    (generalize cq0 : Tm.ds = cy0; cbv <;> subst cq0)
    refine callA.pure h1 rfl ?_
    (generalize cq0 : Tm.ds = cy0; cbv <;> subst cq0)
  | true =>
    (generalize cq0 : Tm.d = cy0, cq1 : Tm.ds = cy1; cbv <;> subst cq0 cq1)
    refine callA.pure h2 rfl ?_
    (generalize cq0 : Tm.d = cy0, cq1 : Tm.ds = cy1; cbv <;> subst cq0 cq1)
    rcases h3 with ⟨hz, hf⟩ | ⟨i, o, hz, hi, hf⟩
    · rw [fin (.inr ⟨rfl, hf⟩)]
      have e1 : p.le 0 z = false := by subst hp hz; rfl
      simp only [Tm.d]
      (generalize cq0 : Tm.ds = cy0; cbv <;> subst cq0)
      simp only [e1]
      (generalize cq0 : Tm.ds = cy0; cbv <;> subst cq0)
      refine callA.pure h1 rfl ?_
      (generalize cq0 : Tm.ds = cy0; cbv <;> subst cq0)
    · have e1 : p.le 0 z = true := by subst hp hz; simp [std]
      have e2 : p.dget L z = some (Sb.d o) := by
        subst hp hL hz
        simp [std, mapO, hi]
      have hro : r = o.2 := by rw [hq, hf]; rfl
      have h4 := own_ok o.2 (hl2 o (List.mem_of_getElem? hi))
      obtain ⟨x, a, b, c⟩ := o
      subst hro
      simp only [Sb.d] at e2
      simp only [Tm.d] at h4 ⊢
      simp only [e1]
      (generalize cq0 : Tm.ds = cy0; cbv <;> subst cq0)
      refine ⟨_, e2, ?_⟩
      (generalize cq0 : Tm.ds = cy0; cbv <;> subst cq0)
      refine callA.pure h4 rfl ?_
      (generalize cq0 : Tm.ds = cy0; cbv <;> subst cq0)
end Go.Ly.Tr
end
section
namespace Go.Ly.Tr
set_option maxRecDepth 4000
def Sits (l : List Nm) : List (List AV) := l.map fun s => [.d .old (.str s)]
theorem Sits_app (a b : List Nm) : Sits (a ++ b) = Sits a ++ Sits b := by simp [Sits]
theorem Sits_fit (l : List Nm) : ∀ x ∈ Sits l, allD x = true ∧ len x = 1 := by
  intro x hx
  rw [Sits, List.mem_map] at hx
  obtain ⟨t, _, rfl⟩ := hx
  exact ⟨rfl, rfl⟩
mutual
def Tm.vars : Tm → List Nm
  | .mk v n us => (if v then [n] else []) ++ Tm.varss us
def Tm.varss : List Tm → List Nm
  | [] => []
  | t :: ts => t.vars ++ Tm.varss ts
end
theorem inTerms_ok (l : List Tm) : Pure E 73 [.d .old (.row 3 (Tm.ds l))] (.fn 118 [] [.cb [.d .old (.row 3 (Tm.ds l))] 0]) := by
  refine pure_by has73 ?_
  generalize hp : std = p
  (generalize cq0 : Tm.ds = cy0; cbv <;> subst cq0)
theorem inTerms_iter (l : List Tm) (hs : Tm.size.sizes l ≤ 1000000) : IterOK E 118 [] [.cb [.d .old (.row 3 (Tm.ds l))] 0] (Sits (Tm.varss l)) := by
  obtain ⟨n, hn⟩ : ∃ n, Tm.size.sizes l < n := ⟨_, Nat.lt_succ_self _⟩
  induction n generalizing l with
  | zero => omega
  | succ n ih =>
  intro O i ω K hy
  have hyb := yb_ys _ _ _ hy
  have hlen := Tm.len_size l
  refine fun_by has118 ?_
  generalize hp : std = p
  (generalize cq0 : Tm.ds = cy0; cbv <;> subst cq0)
  subst hp
  refine loopA_inv (ι := List Tm × List Tm × O.Ω) (fun j => l = j.1 ++ j.2.1 ∧ yb O i (Sits (Tm.varss j.2.1)) j.2.2 fun _ ω' => K ω') (fun j => j.2.1.length)
    (fun j => mkF 30 [(1, .cb [.d .old (.row 3 (Tm.ds l))] 0), (2, .ptr 0 0), (6, .d .old (.row 3 (Tm.ds l))), (7, .d .top (.int .i64 (std.dlen (Tm.ds l)))), (8, .d .top (.int .i64 (std.dlen (Tm.ds j.1))))])
    (fun j => [.bx [.ext i]]) (fun j => j.2.2) ([], l, ω) ⟨rfl, hyb⟩ ?_ rfl (fun _ => rfl) ?_
  · generalize hp : std = p
    (generalize cq0 : Tm.ds = cy0; cbv <;> subst cq0)
    subst hp
    simp [std, Tm.ds]
  · rintro ⟨d, r, ω1⟩ ⟨hes, hyr⟩
    simp only at hes hyr ⊢
    cases r with
    | nil =>
      rw [List.append_nil] at hes
      subst hes
      generalize hp : std = p
      (generalize cq0 : Sits = cy0, cq1 : Tm.ds = cy1, cq2 : Tm.varss = cy2; cbv <;> subst cq0 cq1 cq2)
      simp only [end_ltT hp]
      (generalize cq0 : Sits = cy0, cq1 : Tm.ds = cy1, cq2 : Tm.varss = cy2; cbv <;> subst cq0 cq1 cq2)
      exact hyr
    | cons e r =>
      have hm : e ∈ l := by rw [hes]; simp
      have hsz := Tm.size_mem hm
      obtain ⟨v, nm, us⟩ := e
      simp only [Tm.size] at hsz
      rw [Tm.varss, Tm.vars, Sits_app, Sits_app] at hyr
      generalize hp : std = p
      (generalize cq0 : Sits = cy0, cq1 : Tm.ds = cy1, cq2 : Tm.varss = cy2; cbv <;> subst cq0 cq1 cq2)
      simp only [at_ltT hp hes]
      (generalize cq0 : Sits = cy0, cq1 : Tm.ds = cy1, cq2 : Tm.varss = cy2; cbv <;> subst cq0 cq1 cq2)
      refine ⟨_, at_getT hp hes, ?_⟩
      (generalize cq0 : Sits = cy0, cq1 : Tm.ds = cy1, cq2 : Tm.varss = cy2; cbv <;> subst cq0 cq1 cq2)
      have hdl : d.length + (r.length + 1) = l.length := by rw [hes]; simp
      cases v with
      | false =>
        (generalize cq0 : Sits = cy0, cq1 : Tm.ds = cy1, cq2 : Tm.varss = cy2; cbv <;> subst cq0 cq1 cq2)
        refine callA.pure (inTerms_ok us) rfl ?_
        (generalize cq0 : Sits = cy0, cq1 : Tm.ds = cy1, cq2 : Tm.varss = cy2; cbv <;> subst cq0 cq1 cq2)
        have hq' : yb O i ((Tm.varss us).map (fun t => [AV.d .old (.str t)]) ++ Sits (Tm.varss r)) ω1 fun _ ω' => K ω' := hyr
        subst hp
        refine rf_sound (items := Sits (Tm.varss us)) rfl rfl rfl (ih us (by omega) (by omega)) (Sits_fit _) ?_
        rw [Sits]
        refine range_yb (i := i) (Kb := fun _ ω' => K ω') (rest := Sits (Tm.varss r)) ?_ ?_ ?_ _ _ hq'
        · rintro s' ω3 K' hc
          refine roundA_by ?_
          generalize hp : std = p
          (generalize cq0 : Tm.ds = cy0; cbv <;> subst cq0)
          refine callA.ext rfl (O.mono hc fun q ω4 hq4 => ?_)
          rcases hq4 with ⟨rfl, h4⟩ | ⟨rfl, h4⟩
          · (generalize cq0 : Tm.ds = cy0; cbv <;> subst cq0)
            simp only [not_t hp]
            (generalize cq0 : Tm.ds = cy0; cbv <;> subst cq0)
            exact ⟨_, by (generalize cq0 : Tm.ds = cy0; cbv <;> subst cq0), rfl, h4⟩
          · (generalize cq0 : Tm.ds = cy0; cbv <;> subst cq0)
            simp only [not_f hp]
            (generalize cq0 : Tm.ds = cy0; cbv <;> subst cq0)
            exact ⟨_, by (generalize cq0 : Tm.ds = cy0; cbv <;> subst cq0), rfl, h4⟩
        · intro ω3 h3
          generalize hp : std = p
          (generalize cq0 : Sits = cy0, cq1 : Tm.ds = cy1, cq2 : Tm.varss = cy2; cbv <;> subst cq0 cq1 cq2)
          refine ⟨by subst hp; simp [std, Tm.ds_len]; omega, (d ++ [.mk false nm us], r, ω3), ⟨by rw [hes]; simp, h3⟩, by simp, ?_, rfl⟩
          generalize hd' : d ++ [Tm.mk false nm us] = d'
          (generalize cq0 : Tm.ds = cy0; cbv <;> subst cq0)
          subst hp hd'
          simp [std, Tm.ds_len]
        · intro ω3 h3
          (generalize cq0 : Sits = cy0, cq1 : Tm.ds = cy1, cq2 : Tm.varss = cy2; cbv <;> subst cq0 cq1 cq2)
          exact h3
      | true =>
        have hyr' : O.call i [.d .old (.str nm)] ω1 fun r1 ω' => (r1 = .d .top (.bool true) ∧ yb O i ((Tm.varss us).map (fun t => [AV.d .old (.str t)]) ++ Sits (Tm.varss r)) ω' fun _ ω' => K ω') ∨ (r1 = .d .top (.bool false) ∧ K ω') := hyr
        (generalize cq0 : Sits = cy0, cq1 : Tm.ds = cy1, cq2 : Tm.varss = cy2; cbv <;> subst cq0 cq1 cq2)
        refine callA.ext rfl (O.mono hyr' fun q ω2 hq => ?_)
        rcases hq with ⟨rfl, hq'⟩ | ⟨rfl, hq⟩
        rotate_left
        · (generalize cq0 : Sits = cy0, cq1 : Tm.ds = cy1, cq2 : Tm.varss = cy2; cbv <;> subst cq0 cq1 cq2)
          simp only [not_f hp]
          (generalize cq0 : Sits = cy0, cq1 : Tm.ds = cy1, cq2 : Tm.varss = cy2; cbv <;> subst cq0 cq1 cq2)
          exact hq
        · (generalize cq0 : Sits = cy0, cq1 : Tm.ds = cy1, cq2 : Tm.varss = cy2; cbv <;> subst cq0 cq1 cq2)
          simp only [not_t hp]
          (generalize cq0 : Sits = cy0, cq1 : Tm.ds = cy1, cq2 : Tm.varss = cy2; cbv <;> subst cq0 cq1 cq2)
          refine callA.pure (inTerms_ok us) rfl ?_
          (generalize cq0 : Sits = cy0, cq1 : Tm.ds = cy1, cq2 : Tm.varss = cy2; cbv <;> subst cq0 cq1 cq2)
          subst hp
          refine rf_sound (items := Sits (Tm.varss us)) rfl rfl rfl (ih us (by omega) (by omega)) (Sits_fit _) ?_
          rw [Sits]
          refine range_yb (i := i) (Kb := fun _ ω' => K ω') (rest := Sits (Tm.varss r)) ?_ ?_ ?_ _ _ hq'
          · rintro s' ω3 K' hc
            refine roundA_by ?_
            generalize hp : std = p
            (generalize cq0 : Tm.ds = cy0; cbv <;> subst cq0)
            refine callA.ext rfl (O.mono hc fun q ω4 hq4 => ?_)
            rcases hq4 with ⟨rfl, h4⟩ | ⟨rfl, h4⟩
            · (generalize cq0 : Tm.ds = cy0; cbv <;> subst cq0)
              simp only [not_t hp]
              (generalize cq0 : Tm.ds = cy0; cbv <;> subst cq0)
              exact ⟨_, by (generalize cq0 : Tm.ds = cy0; cbv <;> subst cq0), rfl, h4⟩
            · (generalize cq0 : Tm.ds = cy0; cbv <;> subst cq0)
              simp only [not_f hp]
              (generalize cq0 : Tm.ds = cy0; cbv <;> subst cq0)
              exact ⟨_, by (generalize cq0 : Tm.ds = cy0; cbv <;> subst cq0), rfl, h4⟩
          · intro ω3 h3
            generalize hp : std = p
            (generalize cq0 : Sits = cy0, cq1 : Tm.ds = cy1, cq2 : Tm.varss = cy2; cbv <;> subst cq0 cq1 cq2)
            refine ⟨by subst hp; simp [std, Tm.ds_len]; omega, (d ++ [.mk true nm us], r, ω3), ⟨by rw [hes]; simp, h3⟩, by simp, ?_, rfl⟩
            generalize hd' : d ++ [Tm.mk true nm us] = d'
            (generalize cq0 : Tm.ds = cy0; cbv <;> subst cq0)
            subst hp hd'
            simp [std, Tm.ds_len]
          · intro ω3 h3
            (generalize cq0 : Sits = cy0, cq1 : Tm.ds = cy1, cq2 : Tm.varss = cy2; cbv <;> subst cq0 cq1 cq2)
            exact h3
end Go.Ly.Tr
end
section
namespace Go.Ly.Tr
set_option maxRecDepth 4000
def isQ (o : UInt8) : Bool := o == 8 || o == 9
theorem isQ_eq (o : UInt8) : (std.eq (opI o) 8 || std.eq (opI o) 9) = isQ o := by
  have key : ∀ k : UInt8, std.eq (opI o) (k.toNat : Int) = (o == k) := by
    intro k
    simp only [std, opI]
    rw [Bool.eq_iff_iff]
    simp only [decide_eq_true_eq, beq_iff_eq]
    constructor
    · intro h; exact UInt8.toNat_inj.1 (by omega)
    · rintro rfl; rfl
  have h1 := key 8
  have h2 := key 9
  rw [show ((8 : UInt8).toNat : Int) = 8 from rfl] at h1
  rw [show ((9 : UInt8).toNat : Int) = 9 from rfl] at h2
  rw [h1, h2, isQ]
theorem quant_ok (ep : Ep) (f : Frm) : ∀ o n us fs, f = .mk o n us fs → Pure E 102 [.d ep (.agg [.int .u8 (opI o), .str n, .row 3 (Tm.ds us), .row 4 (Frm.ds fs)])] (.d .top (.bool (isQ o))) := by
  intro o n us fs _
  rw [← isQ_eq]
  exact quantifier_ok ep (opI o) n _ _
def unb (o : UInt8) (n : Nm) (l : List Nm) : List Nm := l.filter fun s => !(isQ o && s == n)
theorem unb_app (o : UInt8) (n : Nm) (a b : List Nm) : unb o n (a ++ b) = unb o n a ++ unb o n b := by simp [unb]
mutual
def Frm.frees : Frm → List Nm
  | .mk o n us fs => Tm.varss us ++ unb o n (Frm.freess fs)
def Frm.freess : List Frm → List Nm
  | [] => []
  | f :: fs => f.frees ++ Frm.freess fs
end
theorem free_ok (o : UInt8) (n : Nm) (us : List Tm) (fs : List Frm) :
    Pure E 67 [.d .old (.agg [.int .u8 (opI o), .str n, .row 3 (Tm.ds us), .row 4 (Frm.ds fs)])]
      (.fn 109 [] [.cb [.d .old (.int .u8 (opI o)), .d .old (.str n), .d .old (.row 3 (Tm.ds us)), .d .old (.row 4 (Frm.ds fs))] 0]) := by
  refine pure_by has67 ?_
  generalize hp : std = p
  (generalize cq0 : Frm.ds = cy0, cq1 : Tm.ds = cy1, cq2 : opI = cy2; cbv <;> subst cq0 cq1 cq2)
theorem range_ybs {E : Env} {O : Outer E} {i : Nat} {a1 b1 : AC} {ps : List Nat} {A : Fm} {σ : Sto} {Kb : Bool → O.Ω → Prop} {K : Option Ex → Sto → O.Ω → Prop} {α : Type} {g : α → D} {f : α → Bool} {rest : List (List AV)}
    (skip : ∀ (x : α) (ω : O.Ω) (K' : Option Ex → Sto → O.Ω → Prop), f x = false → K' none σ ω → roundA E O a1 b1 ps A [.d .unk (g x)] σ ω K')
    (round : ∀ (x : α) (ω : O.Ω) (K' : Option Ex → Sto → O.Ω → Prop), f x = true → (O.call i [.d .old (g x)] ω fun q ω' => (q = .d .top (.bool true) ∧ K' none σ ω') ∨ (q = .d .top (.bool false) ∧ K' (some .ret) σ ω')) → roundA E O a1 b1 ps A [.d .unk (g x)] σ ω K')
    (fin : ∀ ω, yb O i rest ω Kb → K none σ ω) (stop : ∀ ω, Kb false ω → K (some .ret) σ ω) : ∀ (xs : List α) (ω : O.Ω), yb O i ((xs.filter f).map (fun t => [AV.d .old (g t)]) ++ rest) ω Kb → rangeItems E O a1 b1 ps A ((xs.map fun t => [AV.d .old (g t)]).map unkL) σ ω K
  | [], ω, h => fin ω h
  | x :: xs, ω, h => by
    cases hf : f x with
    | false =>
      rw [List.filter_cons_of_neg (by simp [hf])] at h
      exact skip x ω _ hf (range_ybs skip round fin stop xs ω h)
    | true =>
      rw [List.filter_cons_of_pos hf] at h
      simp only [List.map_cons, List.cons_append, yb] at h
      refine round x ω _ hf (O.mono h fun q ω' hq => ?_)
      rcases hq with ⟨h1, h2⟩ | ⟨h1, h2⟩
      · exact .inl ⟨h1, range_ybs skip round fin stop xs ω' h2⟩
      · exact .inr ⟨h1, stop ω' h2⟩
theorem free_iter (f : Frm) : f.size ≤ 1000000 → ∀ o n us fs, f = .mk o n us fs →
    IterOK E 109 [] [.cb [.d .old (.int .u8 (opI o)), .d .old (.str n), .d .old (.row 3 (Tm.ds us)), .d .old (.row 4 (Frm.ds fs))] 0] (Sits f.frees) := by
  induction f using Frm.ind with
  | h o n us fs ih =>
  intro hs _ _ _ _ heq
  cases heq
  intro O i ω K hy
  have hyb := yb_ys _ _ _ hy
  have hlen := Frm.len_size fs
  simp only [Frm.size] at hs
  rw [Frm.frees, Sits_app] at hyb
  refine fun_by has109 ?_
  generalize hp : std = p
  (generalize cq0 : Frm.ds = cy0, cq1 : Tm.ds = cy1, cq2 : opI = cy2; cbv <;> subst cq0 cq1 cq2)
  refine callA.pure (inTerms_ok us) rfl ?_
  (generalize cq0 : Frm.ds = cy0, cq1 : Tm.ds = cy1, cq2 : opI = cy2; cbv <;> subst cq0 cq1 cq2)
  subst hp
  refine rf_sound (items := Sits (Tm.varss us)) rfl rfl rfl (inTerms_iter us (by omega)) (Sits_fit _) ?_
  rw [Sits]
  refine range_yb (i := i) (g := fun s => D.str s) (Kb := fun _ ω' => K ω') (rest := Sits (unb o n (Frm.freess fs))) ?_ ?_ ?_ _ _ hyb
  · rintro s' ω3 K' hc
    refine roundA_by ?_
    generalize hp : std = p
    (generalize cq0 : Frm.ds = cy0, cq1 : Tm.ds = cy1, cq2 : opI = cy2; cbv <;> subst cq0 cq1 cq2)
    refine callA.ext rfl (O.mono hc fun q ω4 hq4 => ?_)
    rcases hq4 with ⟨rfl, h4⟩ | ⟨rfl, h4⟩
    · (generalize cq0 : Frm.ds = cy0, cq1 : Tm.ds = cy1, cq2 : opI = cy2; cbv <;> subst cq0 cq1 cq2)
      simp only [not_t hp]
      (generalize cq0 : Frm.ds = cy0, cq1 : Tm.ds = cy1, cq2 : opI = cy2; cbv <;> subst cq0 cq1 cq2)
      exact ⟨_, by cbv, rfl, h4⟩
    · (generalize cq0 : Frm.ds = cy0, cq1 : Tm.ds = cy1, cq2 : opI = cy2; cbv <;> subst cq0 cq1 cq2)
      simp only [not_f hp]
      (generalize cq0 : Frm.ds = cy0, cq1 : Tm.ds = cy1, cq2 : opI = cy2; cbv <;> subst cq0 cq1 cq2)
      exact ⟨_, by cbv, rfl, h4⟩
  rotate_left
  · intro ω3 h3
    (generalize cq0 : Frm.ds = cy0, cq1 : Tm.ds = cy1, cq2 : opI = cy2; cbv <;> subst cq0 cq1 cq2)
    exact h3
  intro ω0 hy0
  generalize hp : std = p
  (generalize cq0 : Frm.ds = cy0, cq1 : Tm.ds = cy1, cq2 : opI = cy2; cbv <;> subst cq0 cq1 cq2)
  subst hp
  refine loopA_inv (ι := List Frm × List Frm × O.Ω) (fun j => fs = j.1 ++ j.2.1 ∧ yb O i (Sits (unb o n (Frm.freess j.2.1))) j.2.2 fun _ ω' => K ω') (fun j => j.2.1.length)
    (fun j => mkF 38 [(1, .cb [.d .old (.int .u8 (opI o)), .d .old (.str n), .d .old (.row 3 (Tm.ds us)), .d .old (.row 4 (Frm.ds fs))] 0), (2, .ptr 0 0), (16, .d .old (.row 4 (Frm.ds fs))), (17, .d .top (.int .i64 (std.dlen (Frm.ds fs)))), (18, .d .top (.int .i64 (std.dlen (Frm.ds j.1))))])
    (fun j => [.bx [.ext i]]) (fun j => j.2.2) ([], fs, ω0) ⟨rfl, hy0⟩ ?_ rfl (fun _ => rfl) ?_
  · generalize hp : std = p
    (generalize cq0 : Frm.ds = cy0, cq1 : Tm.ds = cy1, cq2 : opI = cy2; cbv <;> subst cq0 cq1 cq2)
    subst hp
    simp [std, Frm.ds]
  · rintro ⟨d, r, ω1⟩ ⟨hes, hyr⟩
    simp only at hes hyr ⊢
    cases r with
    | nil =>
      rw [List.append_nil] at hes
      subst hes
      generalize hp : std = p
      (generalize cq0 : Frm.ds = cy0, cq1 : Frm.freess = cy1, cq2 : Sits = cy2, cq3 : Tm.ds = cy3, cq4 : opI = cy4, cq5 : unb = cy5; cbv <;> subst cq0 cq1 cq2 cq3 cq4 cq5)
      simp only [end_ltF hp]
      (generalize cq0 : Frm.ds = cy0, cq1 : Frm.freess = cy1, cq2 : Sits = cy2, cq3 : Tm.ds = cy3, cq4 : opI = cy4, cq5 : unb = cy5; cbv <;> subst cq0 cq1 cq2 cq3 cq4 cq5)
      exact hyr
    | cons e r =>
      have hm : e ∈ fs := by rw [hes]; simp
      have hsz := Frm.size_mem hm
      have hit := ih e hm (by omega)
      obtain ⟨o', n', us', fs'⟩ := e
      have hit := hit _ _ _ _ rfl
      rw [Frm.freess, unb_app, Sits_app] at hyr
      obtain ⟨L, hL⟩ : ∃ L, (Frm.mk o' n' us' fs').frees = L := ⟨_, rfl⟩
      rw [hL] at hyr hit
      have hdl : d.length + (r.length + 1) = fs.length := by rw [hes]; simp
      generalize hp : std = p
      (generalize cq0 : Frm.ds = cy0, cq1 : Frm.freess = cy1, cq2 : Sits = cy2, cq3 : Tm.ds = cy3, cq4 : opI = cy4, cq5 : unb = cy5; cbv <;> subst cq0 cq1 cq2 cq3 cq4 cq5)
      simp only [at_ltF hp hes]
      (generalize cq0 : Frm.ds = cy0, cq1 : Frm.freess = cy1, cq2 : Sits = cy2, cq3 : Tm.ds = cy3, cq4 : opI = cy4, cq5 : unb = cy5; cbv <;> subst cq0 cq1 cq2 cq3 cq4 cq5)
      refine ⟨_, at_getF hp hes, ?_⟩
      (generalize cq0 : Frm.ds = cy0, cq1 : Frm.freess = cy1, cq2 : Sits = cy2, cq3 : Tm.ds = cy3, cq4 : opI = cy4, cq5 : unb = cy5; cbv <;> subst cq0 cq1 cq2 cq3 cq4 cq5)
      refine callA.pure (free_ok o' n' us' fs') rfl ?_
      (generalize cq0 : Frm.ds = cy0, cq1 : Frm.freess = cy1, cq2 : Sits = cy2, cq3 : Tm.ds = cy3, cq4 : opI = cy4, cq5 : unb = cy5; cbv <;> subst cq0 cq1 cq2 cq3 cq4 cq5)
      subst hp
      refine rf_sound (items := Sits L) rfl rfl rfl hit (Sits_fit _) ?_
      rw [Sits]
      refine range_ybs (i := i) (g := fun s => D.str s) (f := fun s => !(isQ o && s == n)) (Kb := fun _ ω' => K ω') (rest := Sits (unb o n (Frm.freess r))) ?_ ?_ ?_ ?_ L ω1 hyr
      · rintro s ω3 K' hf hc
        have hq := quant_ok .old (.mk o n us fs) _ _ _ _ rfl
        simp only [Bool.not_eq_false', Bool.and_eq_true] at hf
        rw [hf.1] at hq
        refine roundA_by ?_
        generalize hp : std = p
        have e1 : p.seq s n = true := by subst hp; exact hf.2
        (generalize cq0 : Frm.ds = cy0, cq1 : Tm.ds = cy1, cq2 : opI = cy2; cbv <;> subst cq0 cq1 cq2)
        refine callA.pure hq rfl ?_
        (generalize cq0 : Frm.ds = cy0, cq1 : Tm.ds = cy1, cq2 : opI = cy2; cbv <;> subst cq0 cq1 cq2)
        simp only [e1]
        (generalize cq0 : Frm.ds = cy0, cq1 : Tm.ds = cy1, cq2 : opI = cy2; cbv <;> subst cq0 cq1 cq2)
        exact ⟨_, by (generalize cq0 : Frm.ds = cy0, cq1 : Tm.ds = cy1, cq2 : opI = cy2; cbv <;> subst cq0 cq1 cq2), rfl, hc⟩
      · rintro s ω3 K' hf hc
        have hq := quant_ok .old (.mk o n us fs) _ _ _ _ rfl
        generalize isQ o = b at *
        refine roundA_by ?_
        generalize hp : std = p
        have e1 : b = true → p.seq s n = false := by
          rintro rfl
          subst hp
          have : (s == n) = false := by simpa using hf
          exact this
        (generalize cq0 : Frm.ds = cy0, cq1 : Tm.ds = cy1, cq2 : opI = cy2; cbv <;> subst cq0 cq1 cq2)
        refine callA.pure hq rfl ?_
        (generalize cq0 : Frm.ds = cy0, cq1 : Tm.ds = cy1, cq2 : opI = cy2; cbv <;> subst cq0 cq1 cq2)
        cases b with
        | true =>
          (generalize cq0 : Frm.ds = cy0, cq1 : Tm.ds = cy1, cq2 : opI = cy2; cbv <;> subst cq0 cq1 cq2)
          simp only [e1 rfl]
          (generalize cq0 : Frm.ds = cy0, cq1 : Tm.ds = cy1, cq2 : opI = cy2; cbv <;> subst cq0 cq1 cq2)
          refine callA.ext rfl (O.mono hc fun q ω4 hq4 => ?_)
          rcases hq4 with ⟨rfl, h4⟩ | ⟨rfl, h4⟩
          · (generalize cq0 : Frm.ds = cy0, cq1 : Tm.ds = cy1, cq2 : opI = cy2; cbv <;> subst cq0 cq1 cq2)
            simp only [not_t hp]
            (generalize cq0 : Frm.ds = cy0, cq1 : Tm.ds = cy1, cq2 : opI = cy2; cbv <;> subst cq0 cq1 cq2)
            exact ⟨_, by (generalize cq0 : Frm.ds = cy0, cq1 : Tm.ds = cy1, cq2 : opI = cy2; cbv <;> subst cq0 cq1 cq2), rfl, h4⟩
          · (generalize cq0 : Frm.ds = cy0, cq1 : Tm.ds = cy1, cq2 : opI = cy2; cbv <;> subst cq0 cq1 cq2)
            simp only [not_f hp]
            (generalize cq0 : Frm.ds = cy0, cq1 : Tm.ds = cy1, cq2 : opI = cy2; cbv <;> subst cq0 cq1 cq2)
            exact ⟨_, by (generalize cq0 : Frm.ds = cy0, cq1 : Tm.ds = cy1, cq2 : opI = cy2; cbv <;> subst cq0 cq1 cq2), rfl, h4⟩
        | false =>
          (generalize cq0 : Frm.ds = cy0, cq1 : Tm.ds = cy1, cq2 : opI = cy2; cbv <;> subst cq0 cq1 cq2)
          refine callA.ext rfl (O.mono hc fun q ω4 hq4 => ?_)
          rcases hq4 with ⟨rfl, h4⟩ | ⟨rfl, h4⟩
          · (generalize cq0 : Frm.ds = cy0, cq1 : Tm.ds = cy1, cq2 : opI = cy2; cbv <;> subst cq0 cq1 cq2)
            simp only [not_t hp]
            (generalize cq0 : Frm.ds = cy0, cq1 : Tm.ds = cy1, cq2 : opI = cy2; cbv <;> subst cq0 cq1 cq2)
            exact ⟨_, by (generalize cq0 : Frm.ds = cy0, cq1 : Tm.ds = cy1, cq2 : opI = cy2; cbv <;> subst cq0 cq1 cq2), rfl, h4⟩
          · (generalize cq0 : Frm.ds = cy0, cq1 : Tm.ds = cy1, cq2 : opI = cy2; cbv <;> subst cq0 cq1 cq2)
            simp only [not_f hp]
            (generalize cq0 : Frm.ds = cy0, cq1 : Tm.ds = cy1, cq2 : opI = cy2; cbv <;> subst cq0 cq1 cq2)
            exact ⟨_, by (generalize cq0 : Frm.ds = cy0, cq1 : Tm.ds = cy1, cq2 : opI = cy2; cbv <;> subst cq0 cq1 cq2), rfl, h4⟩
      · intro ω3 h3
        generalize hp : std = p
        (generalize cq0 : Frm.ds = cy0, cq1 : Frm.freess = cy1, cq2 : Sits = cy2, cq3 : Tm.ds = cy3, cq4 : opI = cy4, cq5 : unb = cy5; cbv <;> subst cq0 cq1 cq2 cq3 cq4 cq5)
        refine ⟨by subst hp; simp [std, Frm.ds_len]; omega, (d ++ [.mk o' n' us' fs'], r, ω3), ⟨by rw [hes]; simp, h3⟩, by simp, ?_, rfl⟩
        generalize hd' : d ++ [Frm.mk o' n' us' fs'] = d'
        (generalize cq0 : Frm.ds = cy0, cq1 : Tm.ds = cy1, cq2 : opI = cy2; cbv <;> subst cq0 cq1 cq2)
        subst hp hd'
        simp [std, Frm.ds_len]
      · intro ω3 h3
        (generalize cq0 : Frm.ds = cy0, cq1 : Frm.freess = cy1, cq2 : Sits = cy2, cq3 : Tm.ds = cy3, cq4 : opI = cy4, cq5 : unb = cy5; cbv <;> subst cq0 cq1 cq2 cq3 cq4 cq5)
        exact h3
end Go.Ly.Tr
end
section
namespace Go.Proofs
open Go.Shelf
def Tryz.laysM171_ren : Go.Shelf.Ren := ⟨fun | 171 => 87 | 243 => 132 | 246 => 162 | 283 => 185 | 284 => 186 | 285 => 187 | 286 => 188 | 129 => 175 | 317 => 195 | 318 => 196 | 319 => 197 | 320 => 198 | 337 => 200 | 338 => 201 | n => n, fun | 3 => 3 | 9 => 9 | 2 => 2 | 4 => 4 | 171 => 164 | 0 => 0 | 53 => 161 | 37 => 70 | 5 => 5 | 173 => 166 | 212 => 177 | 51 => 159 | 20 => 20 | 213 => 178 | 46 => 138 | 232 => 182 | 233 => 183 | n => n, fun | 17 => 0 | 18 => 1 | 19 => 2 | n => n⟩
theorem Tryz.laysM171 : Go.Proofs.LaysM.n171 Tryz.prog Tryz.laysM171_ren := {
  mixed := by kernel_rfl
  f129 := Tryz.func175.trans (congrArg some (by kernel_rfl))
  f171 := Tryz.func87.trans (congrArg some (by kernel_rfl))
  f243 := Tryz.func132.trans (congrArg some (by kernel_rfl))
  f246 := Tryz.func162.trans (congrArg some (by kernel_rfl))
  f283 := Tryz.func185.trans (congrArg some (by kernel_rfl))
  f284 := Tryz.func186.trans (congrArg some (by kernel_rfl))
  f285 := Tryz.func187.trans (congrArg some (by kernel_rfl))
  f286 := Tryz.func188.trans (congrArg some (by kernel_rfl))
  f317 := Tryz.func195.trans (congrArg some (by kernel_rfl))
  f318 := Tryz.func196.trans (congrArg some (by kernel_rfl))
  f319 := Tryz.func197.trans (congrArg some (by kernel_rfl))
  f320 := Tryz.func198.trans (congrArg some (by kernel_rfl))
  f337 := Tryz.func200.trans (congrArg some (by kernel_rfl))
  f338 := Tryz.func201.trans (congrArg some (by kernel_rfl))
  t0 := Tryz.underlying0
  a0 := Tryz.isAgg0
  z0 := Tryz.sizeOf0
  v0 := Tryz.zeroValue0
  t2 := Tryz.underlying2
  a2 := Tryz.isAgg2
  z2 := Tryz.sizeOf2
  v2 := Tryz.zeroValue2
  t3 := Tryz.underlying3
  a3 := Tryz.isAgg3
  z3 := Tryz.sizeOf3
  v3 := Tryz.zeroValue3
  t4 := Tryz.underlying4
  a4 := Tryz.isAgg4
  z4 := Tryz.sizeOf4
  v4 := Tryz.zeroValue4
  t5 := Tryz.underlying5
  a5 := Tryz.isAgg5
  z5 := Tryz.sizeOf5
  v5 := Tryz.zeroValue5
  t9 := Tryz.underlying9
  a9 := Tryz.isAgg9
  z9 := Tryz.sizeOf9
  v9 := Tryz.zeroValue9
  t20 := Tryz.underlying20
  a20 := Tryz.isAgg20
  z20 := Tryz.sizeOf20
  v20 := Tryz.zeroValue20
  t37 := Tryz.underlying70
  a37 := Tryz.isAgg70
  z37 := Tryz.sizeOf70
  v37 := Tryz.zeroValue70
  t46 := Tryz.underlying138
  a46 := Tryz.isAgg138
  z46 := Tryz.sizeOf138
  v46 := Tryz.zeroValue138
  t51 := Tryz.underlying159
  a51 := Tryz.isAgg159
  z51 := Tryz.sizeOf159
  v51 := Tryz.zeroValue159
  t53 := Tryz.underlying161
  a53 := Tryz.isAgg161
  z53 := Tryz.sizeOf161
  v53 := Tryz.zeroValue161
  t171 := Tryz.underlying164
  a171 := Tryz.isAgg164
  z171 := Tryz.sizeOf164
  v171 := Tryz.zeroValue164
  t173 := Tryz.underlying166
  a173 := Tryz.isAgg166
  z173 := Tryz.sizeOf166
  v173 := Tryz.zeroValue166
  t212 := Tryz.underlying177
  a212 := Tryz.isAgg177
  z212 := Tryz.sizeOf177
  v212 := Tryz.zeroValue177
  t213 := Tryz.underlying178
  a213 := Tryz.isAgg178
  z213 := Tryz.sizeOf178
  t232 := Tryz.underlying182
  a232 := Tryz.isAgg182
  z232 := Tryz.sizeOf182
  v232 := Tryz.zeroValue182
  t233 := Tryz.underlying183
  a233 := Tryz.isAgg183
  z233 := Tryz.sizeOf183
  v233 := Tryz.zeroValue183
  g17 := by kernel_rfl
  g18 := by kernel_rfl
  g19 := by kernel_rfl
  i0 := by kernel_rfl
  i2 := by kernel_rfl
  i3 := by kernel_rfl
  i4 := by kernel_rfl
  i5 := by kernel_rfl
  i9 := by kernel_rfl
  i20 := by kernel_rfl
  i37 := by kernel_rfl
  i46 := by kernel_rfl
  i51 := by kernel_rfl
  i53 := by kernel_rfl
  i171 := by kernel_rfl
  i173 := by kernel_rfl
  i212 := by kernel_rfl
  i232 := by kernel_rfl
  i233 := by kernel_rfl
  m17 := by kernel_rfl
  m18 := by kernel_rfl
  m19 := by kernel_rfl }
open Go.RowKit Go.Sort Go.Lib in
theorem Tryz.strconv_Itoa (n : Int) (h0 : -9223372036854775808 ≤ n) (h1 : n ≤ 9223372036854775807) (w : World) (htab : Lib.TabIs Tryz.prog w "internal/strconv.uint64pow10" .u64 Lib.pow10Tab) :
    Calls Tryz.prog 87 #[.int .i64 n] w fun e w' => e = .returned (.string ⟨(Lib.itoa n).toArray⟩) ∧ ∃ k os, w' = grow (w.drewN k) os := Any.strconv_Itoa Tryz.laysM171 n h0 h1 w htab
def Tryz.lays190_ren : Go.Shelf.Ren := ⟨fun | 190 => 108 | 125 => 147 | 258 => 146 | 128 => 174 | 129 => 175 | 302 => 165 | 303 => 166 | 304 => 167 | 305 => 168 | 306 => 169 | 307 => 170 | 308 => 171 | 309 => 172 | 310 => 173 | 333 => 189 | 329 => 190 | 330 => 191 | 334 => 192 | 335 => 193 | 336 => 177 | 344 => 199 | n => n, fun | 31 => 44 | 9 => 9 | 3 => 3 | 46 => 138 | 0 => 0 | 51 => 159 | 53 => 161 | 4 => 4 | 183 => 151 | 182 => 150 | 131 => 156 | 5 => 5 | 218 => 168 | 222 => 172 | 228 => 179 | 229 => 180 | n => n, fun | n => n⟩
theorem Tryz.lays190 : Go.Proofs.Lays.n190 Tryz.prog Tryz.lays190_ren := {
  mixed := by kernel_rfl
  f125 := Tryz.func147.trans (congrArg some (by kernel_rfl))
  f128 := Tryz.func174.trans (congrArg some (by kernel_rfl))
  f129 := Tryz.func175.trans (congrArg some (by kernel_rfl))
  f190 := Tryz.func108.trans (congrArg some (by kernel_rfl))
  f258 := Tryz.func146.trans (congrArg some (by kernel_rfl))
  f302 := Tryz.func165.trans (congrArg some (by kernel_rfl))
  f303 := Tryz.func166.trans (congrArg some (by kernel_rfl))
  f304 := Tryz.func167.trans (congrArg some (by kernel_rfl))
  f305 := Tryz.func168.trans (congrArg some (by kernel_rfl))
  f306 := Tryz.func169.trans (congrArg some (by kernel_rfl))
  f307 := Tryz.func170.trans (congrArg some (by kernel_rfl))
  f308 := Tryz.func171.trans (congrArg some (by kernel_rfl))
  f309 := Tryz.func172.trans (congrArg some (by kernel_rfl))
  f310 := Tryz.func173.trans (congrArg some (by kernel_rfl))
  f329 := Tryz.func190.trans (congrArg some (by kernel_rfl))
  f330 := Tryz.func191.trans (congrArg some (by kernel_rfl))
  f333 := Tryz.func189.trans (congrArg some (by kernel_rfl))
  f334 := Tryz.func192.trans (congrArg some (by kernel_rfl))
  f335 := Tryz.func193.trans (congrArg some (by kernel_rfl))
  f336 := Tryz.func177.trans (congrArg some (by kernel_rfl))
  f344 := Tryz.func199.trans (congrArg some (by kernel_rfl))
  t0 := Tryz.underlying0
  a0 := Tryz.isAgg0
  z0 := Tryz.sizeOf0
  v0 := Tryz.zeroValue0
  t3 := Tryz.underlying3
  a3 := Tryz.isAgg3
  z3 := Tryz.sizeOf3
  v3 := Tryz.zeroValue3
  t4 := Tryz.underlying4
  a4 := Tryz.isAgg4
  z4 := Tryz.sizeOf4
  v4 := Tryz.zeroValue4
  t5 := Tryz.underlying5
  a5 := Tryz.isAgg5
  z5 := Tryz.sizeOf5
  v5 := Tryz.zeroValue5
  t9 := Tryz.underlying9
  a9 := Tryz.isAgg9
  z9 := Tryz.sizeOf9
  v9 := Tryz.zeroValue9
  t31 := Tryz.underlying44
  a31 := Tryz.isAgg44
  z31 := Tryz.sizeOf44
  v31 := Tryz.zeroValue44
  t46 := Tryz.underlying138
  a46 := Tryz.isAgg138
  z46 := Tryz.sizeOf138
  v46 := Tryz.zeroValue138
  t51 := Tryz.underlying159
  a51 := Tryz.isAgg159
  z51 := Tryz.sizeOf159
  v51 := Tryz.zeroValue159
  t53 := Tryz.underlying161
  a53 := Tryz.isAgg161
  z53 := Tryz.sizeOf161
  v53 := Tryz.zeroValue161
  t131 := Tryz.underlying156
  a131 := Tryz.isAgg156
  z131 := Tryz.sizeOf156
  v131 := Tryz.zeroValue156
  t182 := Tryz.underlying150
  a182 := Tryz.isAgg150
  z182 := Tryz.sizeOf150
  v182 := Tryz.zeroValue150
  t183 := Tryz.underlying151
  a183 := Tryz.isAgg151
  z183 := Tryz.sizeOf151
  v183 := Tryz.zeroValue151
  t218 := Tryz.underlying168
  a218 := Tryz.isAgg168
  z218 := Tryz.sizeOf168
  v218 := Tryz.zeroValue168
  t222 := Tryz.underlying172
  a222 := Tryz.isAgg172
  z222 := Tryz.sizeOf172
  v222 := Tryz.zeroValue172
  t228 := Tryz.underlying179
  a228 := Tryz.isAgg179
  z228 := Tryz.sizeOf179
  v228 := Tryz.zeroValue179
  t229 := Tryz.underlying180
  a229 := Tryz.isAgg180
  z229 := Tryz.sizeOf180
  v229 := Tryz.zeroValue180 }
open Go.Sort Go.RowKit in
theorem Tryz.slices_Sort_string (blk off cap : Nat) (ss : List (List UInt8)) (w : World) (hH : Holds encStr w blk off ss.toArray) (hblk : blk < w.heap.size) (hsz : ss.length < 4611686018427387904) :
    Calls Tryz.prog 108 #[.slice (some ⟨blk, off, none⟩) ss.length cap] w fun e w' =>
      e = .returned (.tuple #[]) ∧ ∃ n os, w' = grow (putRow encStr (Sort.ahead w n) blk off (ss.mergeSort fun x y => decide (x ≤ y)).toArray) os := Any.slices_Sort_string Tryz.lays190 blk off cap ss w hH hblk hsz
open Go.RowKit Go.Sort in
theorem Tryz.slices_Sort_string_none (p : Option Addr) (cap : Nat) (w : World) :
    Calls Tryz.prog 108 #[.slice p 0 cap] w fun e w' => e = .returned (.tuple #[]) ∧ w' = w := Any.slices_Sort_string_none Tryz.lays190 p cap w
end Go.Proofs
end
section
set_option maxRecDepth 10000
namespace Go.Ly.Tr
def af13 : AF := ⟨1, 26, [.tmp 2], true, .seq (qr [qi 2 (.mv qF)]) (.seq (qr [qi 3 (.mv (qz 0))]) (.seq (.seq (qr [qi 4 (.mv (qz 0))]) (.block 0 (.loop (.seq (.seq (qr [qm 5 4, qm 6 0, qi 7 (.len false (.s 6)), qi 8 (.bin .lss 0 (.s 5) (.s 7)), qm 9 8, qh 10 9 (.mv (.s 3)), qh 11 9 (.bin .leq 0 (.s 10) (qz 500)), qi 12 (.pick (.s 9) (.s 11) qF)]) (.cond (.s 12) .skip (.exit 0))) (.seq (.block 1 (qr [qm 15 3, qm 16 0, qm 17 4, qa 18 16 17 4, ql 19 18 4, qm 20 3, qi 21 (.bin .sub 0 (qz 500) (.s 20)), qk 22 47 [.s 19, .s 21], qi 23 (.bin .add 0 (.s 15) (.s 22)), qm 3 23])) (qr [qm 13 4, qi 14 (.bin .add 0 (.s 13) (qz 1)), qm 4 14])))))) (.seq (qr [qm 24 3, qi 25 (.bin .leq 0 (.s 24) (qz 500)), qm 2 25]) .ret)))⟩
theorem has13 : Has E 13 af13 := ⟨Go.Proofs.Tryz.f13, [], true, Go.Proofs.Tryz.func13, by decide, by kernel_rfl⟩
def af52 : AF := ⟨1, 23, [.tmp 2], true, .seq (qr [qi 2 (.mv (qs []))]) (.scope (.seq (qr [qi 3 (.mv (qz 1))]) (.seq .skip (.block 0 (.loop (.block 1 (.seq (qr [qm 7 3, qk 8 87 [.s 7], qi 9 (.bin .add 1 (qs [120]) (.s 8)), qm 4 9]) (.seq (.seq (qr [qm 10 0, qi 11 (.len false (.s 10)), qi 12 (.mv (qz 0))]) (.block 2 (.loop (.seq (qr [qi 13 (.bin .lss 0 (.s 12) (.s 11))]) (.seq (.cond (.s 13) .skip (.exit 2)) (.seq (.block 3 (.seq (qr [qa 14 10 12 1, qv 15 14, qm 6 15]) (.seq (qr [qm 16 6, qm 17 4, qi 18 (.bin .eql 1 (.s 16) (.s 17))]) (.cond (.s 18) (.seq (qr [qm 19 3, qi 20 (.bin .add 0 (.s 19) (qz 1)), qm 3 20]) (.exit 1)) .skip)))) (qr [qi 21 (.bin .add 0 (.s 12) (qz 1)), qm 12 21]))))))) (.seq (qr [qm 22 4, qm 2 22]) .ret)))))))))⟩
theorem has52 : Has E 52 af52 := ⟨Go.Proofs.Tryz.f52, [], true, Go.Proofs.Tryz.func52, by decide, by kernel_rfl⟩
def af82 : AF := ⟨2, 39, [.tmp 4], true, .seq (qr [qi 4 (.mv (qz 0))]) (.seq (qr [qi 5 (.mv (qz 0))]) (.seq (.seq (qr [qi 6 (.mv (qz 0))]) (.block 0 (.loop (.seq (.seq (qr [qm 7 6, qm 8 0, qi 9 (.len false (.s 8)), qi 10 (.bin .lss 0 (.s 7) (.s 9)), qm 11 10, qh 12 11 (.mv (.s 5)), qh 13 11 (.mv (.s 1)), qh 14 11 (.bin .leq 0 (.s 12) (.s 13)), qi 15 (.pick (.s 11) (.s 14) qF)]) (.cond (.s 15) .skip (.exit 0))) (.seq (.block 1 (qd [qm 18 5, qm 19 0, qm 20 6, qa 21 19 20 3, qf 22 21 1, qv 23 22, qi 24 (.len true (.s 23)), qi 25 (.bin .quo 0 (.s 24) (qz 40)), qi 26 (.bin .add 0 (qz 1) (.s 25)), qm 27 0, qm 28 6, qa 29 27 28 3, qf 30 29 2, qv 31 30, qm 32 1, qm 33 5, qi 34 (.bin .sub 0 (.s 32) (.s 33)), qk 35 82 [.s 31, .s 34], qi 36 (.bin .add 0 (.s 26) (.s 35)), qi 37 (.bin .add 0 (.s 18) (.s 36)), qm 5 37])) (qr [qm 16 6, qi 17 (.bin .add 0 (.s 16) (qz 1)), qm 6 17])))))) (.seq (qr [qm 38 5, qm 4 38]) .ret)))⟩
theorem has82 : Has E 82 af82 := ⟨Go.Proofs.Tryz.f82, [], true, Go.Proofs.Tryz.func82, by decide, by kernel_rfl⟩
def afu66 : AF := ⟨1, 24, [.tmp 2], true, .seq (qr [qi 2 (.nil false 1)]) (.seq (qr [qi 6 (.mkm), qi 3 (.alloc [.nm]), qt 3 6 1]) (.seq (qr [qi 4 (.allocu 1)]) (.seq (.seq (qr [qm 7 0]) (.block 0 (.rf (.s 7) [8] (qr [qm 5 8]) (.block 1 (.seq (qr [qv 9 3, qm 10 5, qi 11 (.mlk (.str []) (.s 9) (.s 10) (.int .i64 0) false), qi 12 (.bin .add 0 (.s 11) (qz 1)), ⟨none, .mup (.str []) (.s 9) (.s 10) (.s 12), none⟩]) (.seq (qr [qv 13 3, qm 14 5, qi 15 (.mlk (.str []) (.s 13) (.s 14) (.int .i64 0) false), qi 16 (.bin .eql 0 (.s 15) (qz 1))]) (.cond (.s 16) (qr [qv 17 4, qm 18 5, qi 19 (.bslice 0 1 [.s 18]), qi 20 (.app (.s 17) (.s 19) 1 16), qt 4 20 1]) .skip))))))) (.seq (qr [qv 21 4, qk 22 108 [.s 21]]) (.seq (qr [qv 23 4, qm 2 23]) .ret)))))⟩
theorem hasu66 : Has E 66 afu66 := ⟨Go.Proofs.Tryz.f66, [4], true, Go.Proofs.Tryz.func66, by decide, by kernel_rfl⟩
def af87 : AF := ⟨1, 5, [.tmp 2], true, .seq (qr [qi 2 (.mv (qs []))]) (.seq (qr [qm 3 0, qk 4 132 [.s 3], qm 2 4]) .ret)⟩
theorem has87 : Has E 87 af87 := ⟨Go.Proofs.Tryz.f87, [], true, Go.Proofs.Tryz.func87, by decide, by kernel_rfl⟩
def af194 : AF := ⟨1, 6, [.tmp 2], true, .seq (qr [qi 2 (.mv qF)]) (.seq (qr [qm 3 0, qm 4 0, qi 5 (.bin .neq 0 (.s 3) (.s 4)), qm 2 5]) .ret)⟩
theorem has194 : Has E 194 af194 := ⟨Go.Proofs.Tryz.f194, [], true, Go.Proofs.Tryz.func194, by decide, by kernel_rfl⟩
end Go.Ly.Tr
end
section
namespace Go.Ly
theorem Has.bodied {E : Env} {k : Nat} {af : AF} (hH : Has E k af) : Bodied E k := by
  obtain ⟨fn, hs, keep, hf, hname, hc⟩ := hH
  simp only [compF] at hc
  split at hc
  · rename_i b rs hb hrs
    rw [Option.bind_eq_some_iff] at hb
    obtain ⟨c, hbody, hcomp⟩ := hb
    exact ⟨fn, hf, hname, by simp [hbody]⟩
  · cases hc
end Go.Ly
namespace Go.Ly.Tr
open Go.Proofs
set_option maxRecDepth 4000
theorem left_grown {S : St} {w w' : World} {r : AV} {v : Value} (R : Rep E S w []) (h1 : w'.os = w.os) (h2 : w'.output = w.output) (hs : w.heap.size ≤ w'.heap.size) (h : ∀ b, b < w.heap.size → w'.heap[b]? = w.heap[b]?) (hr : ∀ S', Res E S' w' r v) :
    Ev S w S w' ∧ Left E S w S w' [] r v := by
  obtain ⟨K, R', hx⟩ := foreign_step (w' := w') R hs fun b hb => .inl (h b hb)
  have V : Ev S w S w' := ⟨fun _ _ h => h, ⟨rfl, rfl, rfl⟩, fun _ h => h, rfl, rfl, hs, fun b hb _ _ _ _ => ⟨h b hb, rfl⟩, fun _ _ => Nat.le_refl _, K.imm.weak fun _ _ => trivial, fun _ h => .inl h, fun t _ h => .inl ⟨t, h⟩, fun _ h => .inl h, .heap h1 h2 h⟩
  exact ⟨V, R', rfl, rfl, hr S, V⟩
theorem tab_of {S : St} {w : World} (h : Glob E S w) : Lib.TabIs Tryz.prog w "internal/strconv.uint64pow10" .u64 Lib.pow10Tab := by
  obtain ⟨hc, _, cs, T, f, hh, hs⟩ := h _ (List.mem_singleton.2 rfl)
  have hg : Tryz.prog.globalNamed "internal/strconv.uint64pow10" = some 0 := by kernel_rfl
  unfold Lib.TabIs World.var?
  rw [hg]
  simp only [Option.bind_some]
  simp only at hh hs hc
  rw [hh]
  simp only [Option.some.injEq]
  apply Array.ext
  · rw [hs]; simp
  · intro i h1 h2
    have hi : i < (Lib.pow10Tab.map fun z => Value.int .u64 z).length := by simpa using h2
    have := hc i _ (List.getElem?_eq_getElem hi)
    simp only [World.cell?, hh, Option.isSome_none, Bool.false_eq_true, if_false, Nat.zero_add] at this
    rw [Array.getElem?_eq_getElem h1, Option.some.injEq] at this
    rw [this]
    simp
theorem itoa_ok (n : Int) (h0 : -9223372036854775808 ≤ n) (h1 : n ≤ 9223372036854775807) : Pure E 87 [.d .old (.int .i64 n)] (.d .top (.str (Lib.itoa n))) := by
  refine ⟨has87.bodied, fun S w vs B J => ?_⟩
  have hv : vs = [.int .i64 n] := by
    have := B.args
    simp only [RdNs] at this
    obtain ⟨v, rest, e, _, h2, h3⟩ := this
    subst h3
    rw [e, show v = .int .i64 n from h2]
  subst hv
  refine (Tryz.strconv_Itoa n h0 h1 w (tab_of J.2)).mono ?_
  rintro e w' ⟨rfl, k, os, rfl⟩
  have hsz : w.heap.size ≤ (Sort.grow (w.drewN k) os).heap.size := by simp [Sort.grow, World.drewN]
  have hsame : ∀ b, b < w.heap.size → (Sort.grow (w.drewN k) os).heap[b]? = w.heap[b]? := fun b hb => by
    simp only [Sort.grow, World.drewN]
    exact Array.getElem?_append_left hb
  obtain ⟨V, L⟩ := left_grown (w' := Sort.grow (w.drewN k) os) (r := .d .top (.str (Lib.itoa n))) (v := .string ⟨(Lib.itoa n).toArray⟩) B.rep rfl rfl hsz hsame fun S' => ⟨rfl, rfl⟩
  refine ⟨_, _, [], (), S, rfl, rfl, ?_, L⟩
  exact (alone E).stable J V.os rfl rfl hsz (fun b hb _ => ⟨hsame b hb, rfl⟩) ⟨fun b i v _ _ hc => by rw [cell_same (hsame b (cell_lt hc))]; exact hc, fun b es k _ _ hb => by rw [hsame b (heap_lt hb)]; exact hb⟩ (fun _ => Nat.le_refl _) fun b hb => B.rep.Gnew b (Nat.le_trans hsz hb)
def sortN (l : List Nm) : List Nm := l.mergeSort fun x y => decide (x ≤ y)
theorem row_strs {w : World} {G : Nat → Nat} {B : Nat → Prop} : ∀ (l : List Nm) (vs : List Value), RdRow w G B 1 (Nms l) vs ↔ vs = l.map fun s => Value.string ⟨s.toArray⟩
  | [], vs => by simp [Nms, RdRow]
  | s :: l, vs => by
    have ih := row_strs (w := w) (G := G) (B := B) l
    simp only [Nms, List.map_cons, RdRow] at ih ⊢
    constructor
    · rintro ⟨v, rest, rfl, h1, h2, h3, h4⟩
      rw [show v = Value.string ⟨s.toArray⟩ from h3, (ih rest).1 h4]
      rfl
    · rintro rfl
      exact ⟨Value.string ⟨s.toArray⟩, _, rfl, rfl, fun c hc => by simp [Value.cells] at hc; subst hc; trivial, rfl, (ih _).2 rfl⟩
open Go.Sort Go.RowKit in
theorem sort_ok (l : List Nm) (hl : l.length < 4611686018427387904) : InPlace E 108 1 (Nms l) (Nms (sortN l)) := by
  have hlen : (sortN l).length = l.length := by simp [sortN]
  refine ⟨has108.bodied, by simp [Nms_len, hlen], fun he w => ?_, ?_⟩
  · refine (Tryz.slices_Sort_string_none none 0 w).mono ?_
    rintro e w' ⟨rfl, rfl⟩
    exact ⟨rfl, rfl⟩
  · intro w b cap cs T vs G B hh hc hr hG
    rw [row_strs] at hr
    subst hr
    have hH : Holds encStr w b 0 l.toArray := by
      intro j hj
      have hj' : j < l.length := by simpa using hj
      refine ⟨?_, by simp [World.frozen?, hh]⟩
      have := hc j (Value.string ⟨(l[j]).toArray⟩) (by simp [hj'])
      rw [this]
      simp [encStr, hj']
    rw [Nms_len]
    refine (Tryz.slices_Sort_string b 0 cap l w hH (heap_lt hh) hl).mono ?_
    rintro e w' ⟨rfl, n, os, rfl⟩
    have hb := heap_lt hh
    have hb' : b < (putRow encStr (Sort.ahead w n) b 0 (l.mergeSort fun x y => decide (x ≤ y)).toArray).heap.size := by simpa [putRow, mapBlock, Sort.ahead] using hb
    have hcell : ∀ j, j < l.length → (grow (putRow encStr (Sort.ahead w n) b 0 (l.mergeSort fun x y => decide (x ≤ y)).toArray) os).cell? ⟨b, 0 + j, none⟩ = some (encStr ((sortN l).toArray[j]!)) := fun j hj => by
      rw [cell?_grow _ _ _ hb']
      exact cell?_putRow encStr (Sort.ahead w n) b 0 l.toArray _ (holds_ahead _ _ _ _ _ _ hH) (by simp) j (by simpa using hj)
    have hrest : ∀ c, c < w.heap.size → c ≠ b → (grow (putRow encStr (Sort.ahead w n) b 0 (l.mergeSort fun x y => decide (x ≤ y)).toArray) os).heap[c]? = w.heap[c]? := fun c hc hne => by
      simp only [grow, putRow, mapBlock, Sort.ahead]
      rw [Array.getElem?_append_left (by simpa using hc), Array.getElem?_modify, if_neg (Ne.symm hne)]
    have hhere : (grow (putRow encStr (Sort.ahead w n) b 0 (l.mergeSort fun x y => decide (x ≤ y)).toArray) os).heap[b]? = some (.cells (Go.Sort.putCells encStr 0 (l.mergeSort fun x y => decide (x ≤ y)).toArray cs) T (0, 0)) := by
      simp only [grow, putRow, mapBlock, Sort.ahead]
      rw [Array.getElem?_append_left (by simpa using hb), Array.getElem?_modify, if_pos rfl, hh]
      rfl
    refine ⟨rfl, _, (sortN l).map fun s => Value.string ⟨s.toArray⟩, ?_, ⟨?_, hhere, hrest, ?_⟩, ?_, (row_strs _ _).2 rfl⟩
    · simp [Go.Sort.putCells]
    · simp [grow, putRow, mapBlock, Sort.ahead]
    · exact .turn (b := b) rfl rfl hh hhere (fun _ _ _ e => by cases e; exact ⟨_, _, _, rfl, by simp [Go.Sort.putCells]⟩) hrest
    · intro i v hi
      rw [List.getElem?_map, Option.map_eq_some_iff] at hi
      obtain ⟨s, hs, rfl⟩ := hi
      have hlt : i < (sortN l).length := (List.getElem?_eq_some_iff.1 hs).1
      rw [hcell i (by omega)]
      simp [encStr, hlt]
      exact (List.getElem?_eq_some_iff.1 hs).2
end Go.Ly.Tr
end
section
namespace Go.Ly.Tr
set_option maxRecDepth 4000
def nubs (l : List Nm) : List Nm := l.foldl (fun a s => if hasB a s then a else a ++ [s]) []
theorem nubs_snoc (d : List Nm) (e : Nm) : nubs (d ++ [e]) = if hasB (nubs d) e then nubs d else nubs d ++ [e] := by
  unfold nubs
  rw [List.foldl_append]
  rfl
def cntN (d : List Nm) (s : Nm) : Nat := (d.filter (· == s)).length
theorem cntN_snoc (d : List Nm) (e s : Nm) : cntN (d ++ [e]) s = cntN d s + if e == s then 1 else 0 := by
  simp only [cntN, List.filter_append, List.length_append]
  cases h : e == s <;> simp [h]
theorem cntN_le (d : List Nm) (s : Nm) : cntN d s ≤ d.length := by simp only [cntN]; exact List.length_filter_le _ _
def cntM (d : List Nm) : List (D × D) := (nubs d).map fun s => (D.str s, D.int .i64 (natI (cntN d s)))
theorem snoc_ind {P : List Nm → Prop} (h0 : P []) (h1 : ∀ d e, P d → P (d ++ [e])) (l : List Nm) : P l := by
  have : ∀ n (l : List Nm), l.length = n → P l := by
    intro n
    induction n with
    | zero => intro l h; rw [List.length_eq_zero_iff.1 h]; exact h0
    | succ n ih =>
      intro l h
      have hne : l ≠ [] := by intro e; subst e; cases h
      rw [← List.dropLast_concat_getLast hne]
      exact h1 _ _ (ih _ (by simp [h]))
  exact this _ l rfl
theorem nubs_has (s : Nm) (d : List Nm) : hasB (nubs d) s = hasB d s := by
  induction d using snoc_ind with
  | h0 => rfl
  | h1 d e ih =>
    rw [nubs_snoc, hasB_app]
    split
    · rename_i h
      rw [ih]
      by_cases hs : e = s
      · subst hs; rw [ih] at h; simp [h]
      · simp [hasB, hs]
    · rw [hasB_app, ih]
theorem nubs_nodup (d : List Nm) : (nubs d).Nodup := by
  induction d using snoc_ind with
  | h0 => exact List.nodup_nil
  | h1 d e ih =>
    rw [nubs_snoc]
    split
    · exact ih
    · rename_i h
      rw [List.nodup_append]
      refine ⟨ih, by simp, ?_⟩
      intro a ha b hb
      simp only [List.mem_singleton] at hb
      subst hb
      rintro rfl
      exact h (by simp only [hasB, List.any_eq_true, beq_iff_eq]; exact ⟨a, ha, rfl⟩)
theorem nubs_len (d : List Nm) : (nubs d).length ≤ d.length := by
  induction d using snoc_ind with
  | h0 => exact Nat.le_refl _
  | h1 d e ih =>
    rw [nubs_snoc]
    split <;> simp <;> omega
theorem mget_strs (f : Nm → D) (e : Nm) : ∀ L : List Nm, mgetD (L.map fun s => (D.str s, f s)) (.str e) = if hasB L e then some (f e) else none
  | [] => rfl
  | s :: L => by
    have ih := mget_strs f e L
    simp only [List.map_cons, mgetD, D.same, ih]
    by_cases h : e = s
    · subst h; simp [hasB]
    · have h' : ¬ s = e := fun h' => h h'.symm
      simp [hasB, h, h']
theorem mset_strs (f : Nm → D) (e : Nm) (v : D) : ∀ L : List Nm, L.Nodup → msetD (L.map fun s => (D.str s, f s)) (.str e) v = (if hasB L e then L else L ++ [e]).map fun s => (D.str s, if s = e then v else f s)
  | [], _ => by simp [msetD, hasB]
  | s :: L, hn => by
    have ih := mset_strs f e v L (List.nodup_cons.1 hn).2
    simp only [List.map_cons, msetD, D.same, ih]
    by_cases h : e = s
    · subst h
      have hL : ∀ x ∈ L, ¬ x = e := fun x hx hxe => (List.nodup_cons.1 hn).1 (hxe ▸ hx)
      have hm : L.map (fun s => (D.str s, if s = e then v else f s)) = L.map fun s => (D.str s, f s) := List.map_congr_left fun x hx => by rw [if_neg (hL x hx)]
      simp [hasB, hm]
    · have h' : ¬ s = e := fun h' => h h'.symm
      have hb : hasB (s :: L) e = hasB L e := by simp [hasB, h']
      rw [hb]
      cases hc : hasB L e <;> simp [h, h']
theorem mget_cnt (d : List Nm) (e : Nm) : std.mget (cntM d) (.str e) = if hasB d e then some (.int .i64 (natI (cntN d e))) else none := by
  show mgetD (cntM d) (.str e) = _
  rw [cntM, mget_strs, nubs_has]
theorem mset_cnt (d : List Nm) (e : Nm) : std.mset (cntM d) (.str e) (.int .i64 (natI (cntN d e + 1))) = cntM (d ++ [e]) := by
  show msetD (cntM d) (.str e) _ = _
  rw [cntM, mset_strs _ _ _ _ (nubs_nodup d), cntM, nubs_snoc]
  refine List.map_congr_left fun s _ => ?_
  rw [cntN_snoc]
  by_cases h : s = e
  · subst h; simp
  · have h' : ¬ e = s := fun h' => h h'.symm
    simp [h, h']
theorem mfit_cnt (d : List Nm) (e : Nm) : std.mfit (cntM d) (.str e) := by
  intro p hp
  rw [cntM, List.mem_map] at hp
  obtain ⟨s, _, rfl⟩ := hp
  rfl
def setN (l : List Nm) : List Nm := sortN (nubs l)
def setS : List Nm → Sto
  | [] => [.md .top [], .bx [.mp 0], .bx [.uq 400 1 [] .top]]
  | x :: d => [.md .top (cntM (x :: d)), .bx [.mp 0], .bx [.uq 400 1 (Nms (nubs (x :: d))) .new]]
theorem setS_eq (d : List Nm) : ∃ ep, (ep = .top ∨ ep = .new) ∧ setS d = [.md .top (cntM d), .bx [.mp 0], .bx [.uq 400 1 (Nms (nubs d)) ep]] := by
  cases d with
  | nil => exact ⟨.top, .inl rfl, rfl⟩
  | cons x d => exact ⟨.new, .inr rfl, rfl⟩
theorem setS_snoc (d : List Nm) (e : Nm) : setS (d ++ [e]) = [.md .top (cntM (d ++ [e])), .bx [.mp 0], .bx [.uq 400 1 (Nms (nubs (d ++ [e]))) .new]] := by
  cases d <;> rfl
theorem set_core {k : Nat} {cs : List AV} (l : List Nm) (hl : l.length ≤ 1000000) (h1 : pureL [.cb cs 0] = true) (h2 : oldL [.cb cs 0] = [.cb cs 0]) (hi : IterOK E k [] [.cb cs 0] (Sits l)) (ep : Ep) (hst : setS l = [.md .top (cntM l), .bx [.mp 0], .bx [.uq 400 1 (Nms (nubs l)) ep]]) :
    Pure E 66 [.fn k [] [.cb cs 0]] (.fresh 1 (Nms (setN l)) ep) := by
  refine pure_by hasu66 ?_
  generalize hp : std = p
  (generalize cq0 : Nms = cy0, cq1 : setN = cy1; cbv <;> subst cq0 cq1)
  subst hp
  refine rf_sound (items := Sits l) rfl rfl h1 (by rw [h2]; exact hi) (Sits_fit _) ?_
  rw [Sits]
  refine range_fold (O := alone E) (g := fun s => D.str s) setS () ?_ ?_
  · intro d e r K' hes hK
    have hle : d.length + 1 ≤ l.length := by rw [hes]; simp
    have hc := cntN_le d e
    have hg := mget_cnt d e
    have hg2 := mget_cnt (d ++ [e]) e
    have hs := mset_cnt d e
    have hn := nubs_snoc d e
    have hf := mfit_cnt d e
    have hf2 := mfit_cnt (d ++ [e]) e
    have hnl := nubs_len d
    have hb : (if hasB d e then cntN d e else 0) = cntN d e := by
      split
      · rfl
      · rename_i h
        symm
        rw [cntN, List.length_eq_zero_iff, List.filter_eq_nil_iff]
        intro a ha hae
        exact h (by simp only [hasB, List.any_eq_true]; exact ⟨a, ha, hae⟩)
    have hb1 : hasB d e = false → cntN d e = 0 := fun h => by rw [h] at hb; exact hb.symm
    have hb2 : hasB d e = true → 1 ≤ cntN d e := fun h => by
      simp only [hasB, List.any_eq_true] at h
      obtain ⟨a, ha, hae⟩ := h
      exact List.length_pos_of_mem (List.mem_filter.2 ⟨ha, hae⟩)
    rw [nubs_has] at hn
    rw [hasB_app, show hasB [e] e = true by simp [hasB], Bool.or_true, if_pos rfl, cntN_snoc, if_pos (by simp)] at hg2
    rw [setS_snoc] at hK
    clear hst ep
    obtain ⟨ep, hep, hst⟩ := setS_eq d
    rw [hst]
    obtain ⟨M, hM⟩ : ∃ M, cntM (d ++ [e]) = M := ⟨_, rfl⟩
    obtain ⟨N, hN⟩ : ∃ N, nubs (d ++ [e]) = N := ⟨_, rfl⟩
    rw [hM] at hs hg2 hf2 hK
    rw [hN] at hn hK
    generalize cntM d = M0 at *
    generalize nubs d = N0 at *
    generalize cntN d e = c at *
    refine roundA_by ?_
    cases hhas : hasB d e with
    | true =>
      rw [hhas] at hg hn
      simp only [if_true] at hg hn
      subst hn
      have hc1 := hb2 hhas
      generalize hp : std = p at *
      (generalize cq0 : Nms = cy0; cbv <;> subst cq0)
      refine ⟨hf, _, hg, ?_⟩
      (generalize cq0 : Nms = cy0, cq1 : natI = cy1; cbv <;> subst cq0 cq1)
      simp only [nat_next hp]
      refine ⟨nat_ok hp (by omega), hf, ?_⟩
      simp only [hs]
      refine ⟨hf2, _, hg2, ?_⟩
      have e1 : p.eq (natI (c + 1)) 1 = false := by subst hp; simp [std, natI]; omega
      (generalize cq0 : Nms = cy0, cq1 : natI = cy1; cbv <;> subst cq0 cq1)
      simp only [e1]
      (generalize cq0 : Nms = cy0, cq1 : natI = cy1; cbv <;> subst cq0 cq1)
      refine ⟨[.md .top M, .bx [.mp 0], .bx [.uq 400 1 (Nms N) .new]], ?_, rfl, hK⟩
      rcases hep with rfl | rfl
      · (generalize cq0 : Nms = cy0; cbv <;> subst cq0)
      · (generalize cq0 : Nms = cy0; cbv <;> subst cq0)
    | false =>
      rw [hhas] at hg hn
      simp only [Bool.false_eq_true, if_false] at hg hn
      have hc0 := hb1 hhas
      subst hc0
      generalize hp : std = p at *
      (generalize cq0 : Nms = cy0; cbv <;> subst cq0)
      refine ⟨hf, _, hg, ?_⟩
      have e0 : p.add 0 1 = natI (0 + 1) := by subst hp; rfl
      (generalize cq0 : Nms = cy0; cbv <;> subst cq0)
      simp only [e0]
      refine ⟨nat_ok hp (by omega), hf, ?_⟩
      simp only [hs]
      refine ⟨hf2, _, hg2, ?_⟩
      have e1 : p.eq (natI (0 + 1)) 1 = true := by subst hp; rfl
      have e2 : p.dcat (Nms N0) [.str e] = Nms N := by subst hp hn; simp [std, Nms]
      (generalize cq0 : Nms = cy0, cq1 : natI = cy1; cbv <;> subst cq0 cq1)
      simp only [e1]
      (generalize cq0 : Nms = cy0, cq1 : natI = cy1; cbv <;> subst cq0 cq1)
      have hroom : p.room (Nms N0) [.str e] := by subst hp; simp [std, Nms_len]; omega
      refine ⟨hroom, [.md .top M, .bx [.mp 0], .bx [.uq 400 1 (Nms N) .new]], ?_, rfl, hK⟩
      simp only [e2]
      rcases hep with rfl | rfl
      · (generalize cq0 : Nms = cy0; cbv <;> subst cq0)
      · (generalize cq0 : Nms = cy0; cbv <;> subst cq0)
  · rw [hst]
    have hsort := sort_ok (nubs l) (by have := nubs_len l; omega)
    rw [show sortN (nubs l) = setN l from rfl] at hsort
    generalize setN l = R at *
    generalize nubs l = N at *
    generalize cntM l = M at *
    generalize hp : std = p
    (generalize cq0 : Nms = cy0; cbv <;> subst cq0)
    refine callA.inpl hsort ?_
    (generalize cq0 : Nms = cy0; cbv <;> subst cq0)
theorem pure_new {k : Nat} {args : List AV} {sz : Nat} {es : List D} (h : Pure E k args (.fresh sz es .top)) : Pure E k args (.fresh sz es .new) :=
  ⟨h.1, fun S w vs B J => (h.2 S w vs B J).mono fun e w' ⟨v, r, σ', ω', S', e1, hr, hJ, hL⟩ => by
    subst hr
    refine ⟨v, _, σ', ω', S', e1, rfl, hJ, hL.rep, hL.θ, hL.clean, ?_, hL.ev⟩
    rcases hL.res with ⟨hp, hd⟩ | ⟨b, o, cap, vs, cs, T, _, _, _, _, _, he, _⟩
    · exact .inl ⟨hp, RdD_on (fun b hb => hb.elim) _ _ hd⟩
    · exact he.elim⟩
theorem set_ok {k : Nat} {cs : List AV} (l : List Nm) (hl : l.length ≤ 1000000) (h1 : pureL [.cb cs 0] = true) (h2 : oldL [.cb cs 0] = [.cb cs 0]) (hi : IterOK E k [] [.cb cs 0] (Sits l)) :
    Pure E 66 [.fn k [] [.cb cs 0]] (.fresh 1 (Nms (setN l)) .new) := by
  obtain ⟨ep, hep, hst⟩ := setS_eq l
  have h := set_core l hl h1 h2 hi ep hst
  rcases hep with rfl | rfl
  · exact pure_new h
  · exact h
theorem varss_len : ∀ l : List Tm, (Tm.varss l).length ≤ Tm.size.sizes l := by
  have main : ∀ t : Tm, t.vars.length ≤ t.size := by
    intro t
    induction t using Tm.ind with
    | h v n us ih =>
      have : ∀ l : List Tm, (∀ a ∈ l, a.vars.length ≤ a.size) → (Tm.varss l).length ≤ Tm.size.sizes l := by
        intro l
        induction l with
        | nil => intro _; exact Nat.le_refl _
        | cons a l ihl =>
          intro h
          have h1 := h a (by simp)
          have h2 := ihl fun b hb => h b (by simp [hb])
          simp only [Tm.varss, List.length_append, Tm.size.sizes]
          omega
      have h1 := this us ih
      simp only [Tm.vars, List.length_append, Tm.size]
      split <;> simp <;> omega
  intro l
  induction l with
  | nil => exact Nat.le_refl _
  | cons a l ih =>
    have := main a
    simp only [Tm.varss, List.length_append, Tm.size.sizes]
    omega
theorem frees_len (f : Frm) : f.frees.length ≤ f.size := by
  induction f using Frm.ind with
  | h o n us fs ih =>
    have : ∀ l : List Frm, (∀ a ∈ l, a.frees.length ≤ a.size) → (Frm.freess l).length ≤ Frm.size.sizes l := by
      intro l
      induction l with
      | nil => intro _; exact Nat.le_refl _
      | cons a l ihl =>
        intro h
        have h1 := h a (by simp)
        have h2 := ihl fun b hb => h b (by simp [hb])
        simp only [Frm.freess, List.length_append, Frm.size.sizes]
        omega
    have h1 := this fs ih
    have h2 := varss_len us
    have h3 : (unb o n (Frm.freess fs)).length ≤ (Frm.freess fs).length := by simp only [unb]; exact List.length_filter_le _ _
    simp only [Frm.frees, List.length_append, Frm.size]
    omega
theorem Free_ok (f : Frm) (hs : f.size ≤ 1000000) : Pure E 25 [.d .old f.d] (.fresh 1 (Nms (setN f.frees)) .new) := by
  have hl := frees_len f
  have hi := free_iter f hs
  obtain ⟨o, n, us, fs⟩ := f
  have hi := hi _ _ _ _ rfl
  generalize (Frm.mk o n us fs).frees = L at *
  have h2 := set_ok L (by omega) rfl rfl hi
  generalize setN L = R at *
  simp only [Frm.d]
  refine pure_by has25 ?_
  generalize hp : std = p
  (generalize cq0 : Frm.ds = cy0, cq1 : Nms = cy1, cq2 : Tm.ds = cy2, cq3 : opI = cy3; cbv <;> subst cq0 cq1 cq2 cq3)
  refine callA.pure (free_ok o n us fs) rfl ?_
  (generalize cq0 : Frm.ds = cy0, cq1 : Nms = cy1, cq2 : Tm.ds = cy2, cq3 : opI = cy3; cbv <;> subst cq0 cq1 cq2 cq3)
  refine callA.pure h2 rfl ?_
  (generalize cq0 : Frm.ds = cy0, cq1 : Nms = cy1, cq2 : Tm.ds = cy2, cq3 : opI = cy3; cbv <;> subst cq0 cq1 cq2 cq3)
theorem FreeTerm_ok (t : Tm) (hs : t.size ≤ 1000000) : Pure E 41 [.d .old t.d] (.fresh 1 (Nms (setN t.vars)) .new) := by
  have hz : Tm.size.sizes [t] ≤ 1000000 := by simp only [Tm.size.sizes]; omega
  have hl := varss_len [t]
  have hi := inTerms_iter [t] hz
  have h1 := inTerms_ok [t]
  have hv : Tm.varss [t] = t.vars := by simp [Tm.varss]
  rw [hv] at hl hi
  obtain ⟨v, n, us⟩ := t
  rw [show Tm.ds [Tm.mk v n us] = [.agg [.bool v, .str n, .row 3 (Tm.ds us)]] from rfl] at hi h1
  generalize (Tm.mk v n us).vars = L at *
  have h2 := set_ok L (by omega) rfl rfl hi
  generalize setN L = R at *
  simp only [Tm.d]
  refine pure_by has41 ?_
  generalize hp : std = p
  (generalize cq0 : Nms = cy0, cq1 : Tm.ds = cy1; cbv <;> subst cq0 cq1)
  refine callA.pure h1 rfl ?_
  (generalize cq0 : Nms = cy0, cq1 : Tm.ds = cy1; cbv <;> subst cq0 cq1)
  refine callA.pure h2 rfl ?_
  (generalize cq0 : Nms = cy0, cq1 : Tm.ds = cy1; cbv <;> subst cq0 cq1)
end Go.Ly.Tr
end
section
namespace Go.Ly.Tr
def numV (l : List UInt8) : Nat := l.foldl (fun a c => 10 * a + (c.toNat - 48)) 0
theorem numV_snoc (l : List UInt8) (c : UInt8) : numV (l ++ [c]) = 10 * numV l + (c.toNat - 48) := by simp [numV]
theorem digit_val {r : Nat} (h : r < 10) : (UInt8.ofNat (48 + r)).toNat - 48 = r := by
  have : (UInt8.ofNat (48 + r)).toNat = 48 + r := by
    rw [UInt8.toNat_ofNat']
    omega
  omega
theorem numV_dec (u : Nat) : numV (Lib.decDigits u) = u := by
  induction u using Nat.strongRecOn with
  | ind u ih =>
    rw [Lib.decDigits]
    split
    · rename_i h
      have := digit_val h
      simp only [numV, List.foldl_cons, List.foldl_nil]
      omega
    · rename_i h
      rw [numV_snoc, ih (u / 10) (by omega), digit_val (by omega)]
      omega
theorem dec_inj {a b : Nat} (h : Lib.decDigits a = Lib.decDigits b) : a = b := by rw [← numV_dec a, ← numV_dec b, h]
def xName (n : Nat) : Nm := 120 :: Lib.decDigits n
theorem xName_inj {a b : Nat} (h : xName a = xName b) : a = b := dec_inj (List.cons.inj h).2
def freshFrom (l : List Nm) : Nat → Nat → Nm
  | 0, n => xName n
  | k + 1, n => if hasB l (xName n) then freshFrom l k (n + 1) else xName n
def freshN (l : List Nm) : Nm := freshFrom l l.length 1
theorem nodup_len {l : List Nm} : ∀ {d : List Nm}, d.Nodup → (∀ x ∈ d, x ∈ l) → d.length ≤ l.length := by
  intro d
  induction d generalizing l with
  | nil => intro _ _; simp
  | cons a d ih =>
    intro hn hs
    have ha := hs a (by simp)
    have := ih (l := l.erase a) (List.nodup_cons.1 hn).2 fun x hx => by
      have hne : x ≠ a := fun e => (List.nodup_cons.1 hn).1 (e ▸ hx)
      exact (List.mem_erase_of_ne hne).2 (hs x (by simp [hx]))
    rw [List.length_erase_of_mem ha] at this
    have := List.length_pos_of_mem ha
    simp only [List.length_cons]
    omega
theorem hasB_mem {l : List Nm} {s : Nm} : hasB l s = true ↔ s ∈ l := by simp [hasB]
theorem hasB_not {l : List Nm} {s : Nm} : hasB l s = false ↔ s ∉ l := by rw [← hasB_mem]; simp
theorem taken_len {l : List Nm} {N : Nat} (h : ∀ m, 1 ≤ m → m ≤ N → hasB l (xName m) = true) : N ≤ l.length := by
  have := nodup_len (l := l) (d := (List.range N).map fun i => xName (i + 1)) (by
    refine List.pairwise_map.2 (List.Pairwise.imp ?_ List.nodup_range)
    intro a b hab e
    exact hab (by have := xName_inj e; omega)) (by
    intro x hx
    rw [List.mem_map] at hx
    obtain ⟨i, hi, rfl⟩ := hx
    rw [List.mem_range] at hi
    exact hasB_mem.1 (h (i + 1) (by omega) (by omega)))
  simpa using this
theorem freshFrom_not (l : List Nm) : ∀ k n, k + n = l.length + 1 → 1 ≤ n → (∀ m, 1 ≤ m → m < n → hasB l (xName m) = true) → hasB l (freshFrom l k n) = false ∧ ∃ j, freshFrom l k n = xName j ∧ 1 ≤ j
  | 0, n, hk, hn, h => by
    refine ⟨?_, n, rfl, hn⟩
    cases hc : hasB l (xName n) with
    | false => exact hc
    | true =>
      have := taken_len (l := l) (N := n) fun m h1 h2 => by
        rcases Nat.lt_or_ge m n with h' | h'
        · exact h m h1 h'
        · rw [show m = n by omega]; exact hc
      omega
  | k + 1, n, hk, hn, h => by
    rw [freshFrom]
    split
    · rename_i hc
      exact freshFrom_not l k (n + 1) (by omega) (by omega) fun m h1 h2 => by
        rcases Nat.lt_or_ge m n with h' | h'
        · exact h m h1 h'
        · rw [show m = n by omega]; exact hc
    · rename_i hc
      exact ⟨by simpa using hc, n, rfl, hn⟩
theorem fresh_not (l : List Nm) : hasB l (freshN l) = false := (freshFrom_not l l.length 1 (by omega) (by omega) fun m h1 h2 => by omega).1
end Go.Ly.Tr
end
section
namespace Go.Ly.Tr
set_option maxRecDepth 4000
theorem pure_weak {k : Nat} {args : List AV} {r r' : AV} (h : Pure E k args r) (hw : ∀ S w v, Res E S w r v → Res E S w r' v) : Pure E k args r' :=
  ⟨h.1, fun S w vs B J => (h.2 S w vs B J).mono fun e w' ⟨v, r1, σ', ω', S', e1, hr, hJ, hL⟩ => by
    subst hr
    exact ⟨v, _, σ', ω', S', e1, rfl, hJ, hL.rep, hL.θ, hL.clean, hw _ _ _ hL.res, hL.ev⟩⟩
theorem res_nil {sz : Nat} {S : St} {w : World} {v : Value} (h : Res E S w (.d .top (.row sz [])) v) : Res E S w (.fresh sz [] .new) v := by
  obtain ⟨_, h⟩ := h
  simp only [RdA, RdD] at h
  rcases h with ⟨⟨p, ⟨cap, hc0⟩, hv⟩, _⟩ | ⟨b, o', cap, vs, _, _, hb, _⟩
  · have hcap : cap = 0 := hc0.elim id fun ⟨_, _, h⟩ => h.elim
    subst hcap
    exact .inl ⟨⟨p, hv⟩, by rw [hv]; exact RdD_nilrow (.inl rfl)⟩
  · exact hb.2.elim
def colS : List Nm → Sto
  | [] => [.bx [.d .top (.row 1 [])]]
  | x :: d => [.bx [.own 1196 1 (Nms (x :: d)) .new]]
theorem colS_snoc (d : List Nm) (e : Nm) : colS (d ++ [e]) = [.bx [.own 1196 1 (Nms (d ++ [e])) .new]] := by cases d <;> rfl
def colR : List Nm → AV
  | [] => .d .top (.row 1 [])
  | x :: d => .fresh 1 (Nms (x :: d)) .new
theorem appendSeq_ok {cs : List AV} (k : Nat) (l : List Nm) (hl : l.length ≤ 1000000) (h1 : pureL [.cb cs 0] = true) (h2 : oldL [.cb cs 0] = [.cb cs 0]) (hi : IterOK E k [] [.cb cs 0] (Sits l)) :
    Pure E 142 [.d .top (.row 1 []), .fn k [] [.cb cs 0]] (colR l) := by
  refine pure_by has142 ?_
  generalize hp : std = p
  cbv
  subst hp
  refine rf_sound (items := Sits l) rfl rfl h1 (by rw [h2]; exact hi) (Sits_fit _) ?_
  rw [Sits]
  refine range_fold (O := alone E) (g := fun s => D.str s) colS () ?_ ?_
  · intro d e r K' hes hK
    have hle : d.length + 1 ≤ l.length := by rw [hes]; simp
    rw [colS_snoc] at hK
    refine roundA_by ?_
    cases d with
    | nil =>
      rw [colS]
      rw [List.nil_append] at hK
      generalize hp : std = p
      have e2 : p.dcat [] [.str e] = Nms [e] := by subst hp; rfl
      have hroom : p.room [] [.str e] := by subst hp; simp [std]
      cbv
      refine ⟨hroom, [.bx [.own 1196 1 (Nms [e]) .new]], ?_, rfl, hK⟩
      simp only [e2]
      (generalize cq0 : Nms = cy0; cbv <;> subst cq0)
    | cons x d =>
      rw [colS]
      obtain ⟨d2, hd2⟩ : ∃ d2, x :: d = d2 := ⟨_, rfl⟩
      rw [hd2] at hK hle ⊢
      generalize hp : std = p
      have e2 : p.dcat (Nms d2) [.str e] = Nms (d2 ++ [e]) := by subst hp; simp [std, Nms]
      have hroom : p.room (Nms d2) [.str e] := by subst hp; simp [std, Nms_len]; omega
      (generalize cq0 : Nms = cy0; cbv <;> subst cq0)
      refine ⟨hroom, [.bx [.own 1196 1 (Nms (d2 ++ [e])) .new]], ?_, rfl, hK⟩
      simp only [e2]
      (generalize cq0 : Nms = cy0; cbv <;> subst cq0)
  · cases l with
    | nil =>
      rw [colS, colR]
      generalize hp : std = p
      cbv
    | cons x l =>
      rw [colS, colR]
      obtain ⟨d2, hd2⟩ : ∃ d2, x :: l = d2 := ⟨_, rfl⟩
      rw [hd2]
      generalize hp : std = p
      (generalize cq0 : Nms = cy0; cbv <;> subst cq0)
theorem collect_ok {cs : List AV} (k : Nat) (l : List Nm) (hl : l.length ≤ 1000000) (h1 : pureL [.cb cs 0] = true) (h2 : oldL [.cb cs 0] = [.cb cs 0]) (h3 : frz1 [] [] (.cb cs 0) = .cb cs 0) (hi : IterOK E k [] [.cb cs 0] (Sits l)) :
    Pure E 105 [.fn k [] [.cb cs 0]] (.fresh 1 (Nms l) .new) := by
  have h := appendSeq_ok k l hl h1 h2 hi
  have h : Pure E 142 [.d .top (.row 1 []), .fn k [] [.cb cs 0]] (.fresh 1 (Nms l) .new) := by
    cases l with
    | nil => exact pure_weak h fun S w v hr => res_nil hr
    | cons x l => exact h
  have h' : Pure E 142 (frzsN [] [] (appendL [] (appendL [.d .top (.row 1 []), .fn k [] [.cb cs 0]] []))) (.fresh 1 (Nms l) .new) := by
    simp only [appendL, frzsN, frzN, frz, frzL, h3]
    exact h
  refine pure_by has105 ?_
  generalize hp : std = p
  (generalize cq0 : Nms = cy0; cbv <;> subst cq0)
  refine callA.pureN h' rfl ?_
  (generalize cq0 : Nms = cy0; cbv <;> subst cq0)
theorem dec_len (u : Nat) : (Lib.decDigits u).length ≤ u + 1 := by
  induction u using Nat.strongRecOn with
  | ind u ih =>
    rw [Lib.decDigits]
    split
    · simp
    · have := ih (u / 10) (by omega)
      simp only [List.length_append, List.length_cons, List.length_nil]
      omega
theorem fresh_ok (l : List Nm) (hl : l.length ≤ 1000000) : Pure E 52 [.d .old (.row 1 (Nms l))] (.d .top (.str (freshN l))) := by
  refine pure_by has52 ?_
  generalize hp : std = p
  (generalize cq0 : Nms = cy0; cbv <;> subst cq0)
  subst hp
  refine loopA_inv (ι := Nat × Nat) (fun j => j.1 + j.2 = l.length + 1 ∧ 1 ≤ j.2 ∧ freshN l = freshFrom l j.1 j.2 ∧ ∀ m, 1 ≤ m → m < j.2 → hasB l (xName m) = true) (fun j => j.1)
    (fun j => mkF 23 [(0, .d .old (.row 1 (Nms l))), (2, .d .top (.str [])), (3, .d .top (.int .i64 (natI j.2)))])
    (fun j => []) (fun j => ()) (l.length, 1) ⟨rfl, Nat.le_refl _, rfl, fun m h1 h2 => by omega⟩ ?_ rfl (fun _ => rfl) ?_
  · generalize hp : std = p
    (generalize cq0 : Nms = cy0, cq1 : natI = cy1; cbv <;> subst cq0 cq1)
    subst hp
    simp [natI]
  · rintro ⟨k, n⟩ ⟨hkn, hn1, hf, hall⟩
    simp only at hkn hn1 hf hall ⊢
    have hi : Pure E 87 [.d .old (.int .i64 (natI n))] (.d .top (.str (Lib.decDigits n))) := by
      have := itoa_ok (n : Int) (by omega) (by omega)
      rwa [show Lib.itoa (n : Int) = Lib.decDigits n by unfold Lib.itoa; rw [if_neg (by omega)]; simp] at this
    have hTl := dec_len n
    obtain ⟨T, hT⟩ : ∃ T, Lib.decDigits n = T := ⟨_, rfl⟩
    rw [hT] at hTl
    have hx : xName n = 120 :: T := by rw [xName, hT]
    rw [hT] at hi
    generalize hp : std = p
    (generalize cq0 : Nms = cy0, cq1 : hasB = cy1, cq2 : natI = cy2; cbv <;> subst cq0 cq1 cq2)
    refine callA.pure hi rfl ?_
    (generalize cq0 : Nms = cy0, cq1 : hasB = cy1, cq2 : natI = cy2; cbv <;> subst cq0 cq1 cq2)
    refine ⟨by subst hp; simp [std]; omega, ?_⟩
    have hX : p.cat [120] T = xName n := by subst hp; rw [hx]; rfl
    simp only [hX]
    have hno : hasB l (xName n) = false → freshN l = xName n := fun h => by
      rw [hf]
      cases k with
      | zero => rfl
      | succ k => rw [freshFrom, h]; rfl
    have hyes : hasB l (xName n) = true → ∃ k', k = k' + 1 ∧ freshN l = freshFrom l k' (n + 1) := fun h => by
      cases k with
      | zero =>
        have := taken_len (l := l) (N := n) fun m h1 h2 => by
          rcases Nat.lt_or_ge m n with h' | h'
          · exact hall m h1 h'
          · rw [show m = n by omega]; exact h
        omega
      | succ k => exact ⟨k, rfl, by rw [hf, freshFrom, h]; rfl⟩
    clear hx hX hi hT
    have hinv : ∀ k', k = k' + 1 → hasB l (xName n) = true → ∀ m, 1 ≤ m → m < n + 1 → hasB l (xName m) = true := fun k' _ h m h1 h2 => by
      rcases Nat.lt_or_ge m n with h' | h'
      · exact hall m h1 h'
      · rw [show m = n by omega]; exact h
    clear hall hf
    generalize xName n = X at *
    subst hp
    refine loopA_inv (ι := List Nm × List Nm) (fun j => l = j.1 ++ j.2 ∧ hasB j.1 X = false) (fun j => j.2.length)
      (fun j => mkF 23 [(0, .d .old (.row 1 (Nms l))), (2, .d .top (.str [])), (3, .d .top (.int .i64 (natI n))), (4, .d .top (.str X)), (10, .d .old (.row 1 (Nms l))), (11, .d .top (.int .i64 (std.dlen (Nms l)))), (12, .d .top (.int .i64 (std.dlen (Nms j.1))))])
      (fun j => []) (fun j => ()) ([], l) ⟨rfl, rfl⟩ ?_ rfl (fun _ => rfl) ?_
    · generalize hp : std = p
      (generalize cq0 : Nms = cy0, cq1 : natI = cy1; cbv <;> subst cq0 cq1)
      subst hp
      simp [std, Nms]
    · rintro ⟨d, r⟩ ⟨hes, hd⟩
      simp only at hes hd ⊢
      cases r with
      | nil =>
        rw [List.append_nil] at hes
        subst hes
        rw [hno hd]
        generalize hp : std = p
        (generalize cq0 : Nms = cy0, cq1 : hasB = cy1, cq2 : natI = cy2; cbv <;> subst cq0 cq1 cq2)
        simp only [end_ltN hp]
        (generalize cq0 : Nms = cy0, cq1 : hasB = cy1, cq2 : natI = cy2; cbv <;> subst cq0 cq1 cq2)
      | cons e r =>
        have hdl : d.length + (r.length + 1) = l.length := by rw [hes]; simp
        generalize hp : std = p
        (generalize cq0 : Nms = cy0, cq1 : hasB = cy1, cq2 : natI = cy2; cbv <;> subst cq0 cq1 cq2)
        simp only [at_ltN hp hes]
        (generalize cq0 : Nms = cy0, cq1 : hasB = cy1, cq2 : natI = cy2; cbv <;> subst cq0 cq1 cq2)
        refine ⟨_, at_getN hp hes, ?_⟩
        (generalize cq0 : Nms = cy0, cq1 : hasB = cy1, cq2 : natI = cy2; cbv <;> subst cq0 cq1 cq2)
        have hseq : p.seq e X = (e == X) := by subst hp; rfl
        refine cnd_intro ?_ ?_ <;> intro hb <;> replace hb := hseq.symm.trans hb <;> (generalize cq0 : Nms = cy0, cq1 : hasB = cy1, cq2 : natI = cy2; cbv <;> subst cq0 cq1 cq2)
        · have hh : hasB l X = true := by rw [hes, hasB_app]; simp [hasB, hb]
          obtain ⟨k', rfl, hf'⟩ := hyes hh
          simp only [nat_next hp]
          refine ⟨nat_ok hp (by omega), (k', n + 1), ⟨by simp only; omega, by simp only; omega, hf', hinv k' rfl hh⟩, by simp, ?_, rfl⟩
          generalize n + 1 = n' at *
          (generalize cq0 : Nms = cy0, cq1 : natI = cy1; cbv <;> subst cq0 cq1)
          all_goals ((repeat' apply And.intro) <;> first | rfl | trivial)
        · refine ⟨by subst hp; simp [std, Nms_len]; omega, (d ++ [e], r), ⟨by rw [hes]; simp, by rw [hasB_app, hd]; simp [hasB, hb]⟩, by simp, ?_, rfl⟩
          generalize hd' : d ++ [e] = d'
          (generalize cq0 : Nms = cy0, cq1 : natI = cy1; cbv <;> subst cq0 cq1)
          subst hp hd'
          simp [std, Nms_len]
end Go.Ly.Tr
end
section
namespace Go.Ly.Tr
set_option maxRecDepth 4000
def Sb.counts (l : List Sb) (n : Nm) (inside : List Nm) : List Sb := l.filter fun o => !(o.1 == n) && hasB inside o.1
def Sb.names : List Sb → List Nm
  | [] => []
  | o :: l => (o.2.vars ++ [o.1]) ++ Sb.names l
def Sb.clash (l : List Sb) (n : Nm) : Bool := l.any fun o => hasB o.2.vars n
def Frm.insideH : List Frm → List Nm
  | [] => []
  | g :: _ => g.frees
mutual
def Frm.put : Frm → List Sb → Frm
  | .mk o n us fs, l =>
    if isQ o then
      if (Sb.counts l n (Frm.insideH fs)).isEmpty then .mk o n us fs
      else if Sb.clash (Sb.counts l n (Frm.insideH fs)) n then
        .mk o (freshN (Frm.insideH fs ++ Sb.names (Sb.counts l n (Frm.insideH fs)))) []
          (Frm.puts fs (Sb.counts l n (Frm.insideH fs) ++ [(n, .mk true (freshN (Frm.insideH fs ++ Sb.names (Sb.counts l n (Frm.insideH fs)))) [])]))
      else .mk o n [] (Frm.puts fs (Sb.counts l n (Frm.insideH fs)))
    else .mk o n (Tm.subs l us) (Frm.puts fs l)
def Frm.puts : List Frm → List Sb → List Frm
  | [], _ => []
  | f :: fs, l => f.put l :: Frm.puts fs l
end
theorem Frm.puts_eq (l : List Sb) : ∀ fs : List Frm, Frm.puts fs l = fs.map fun f => f.put l
  | [] => by rw [Frm.puts]; rfl
  | f :: fs => by rw [Frm.puts, Frm.puts_eq l fs, List.map_cons]
def Frm.qok : Frm → Bool
  | .mk o _ _ fs => (!isQ o || !fs.isEmpty) && qoks fs
where qoks : List Frm → Bool
  | [] => true
  | f :: fs => f.qok && qoks fs
theorem Frm.qok_mem : ∀ {l : List Frm} {f : Frm}, f ∈ l → Frm.qok.qoks l = true → f.qok = true
  | a :: l, f, h, hq => by
    simp only [Frm.qok.qoks, Bool.and_eq_true] at hq
    simp only [List.mem_cons] at h
    rcases h with rfl | h
    · exact hq.1
    · exact Frm.qok_mem h hq.2
def Sb.sz : List Sb → Nat
  | [] => 0
  | o :: l => o.2.size + 1 + Sb.sz l
theorem Sb.sz_mem : ∀ {l : List Sb} {o : Sb}, o ∈ l → o.2.size + 1 ≤ Sb.sz l
  | a :: l, o, h => by
    simp only [List.mem_cons] at h
    simp only [Sb.sz]
    rcases h with rfl | h
    · omega
    · have := Sb.sz_mem h; omega
theorem Sb.sz_len : ∀ l : List Sb, l.length ≤ Sb.sz l
  | [] => Nat.le_refl _
  | o :: l => by have := Sb.sz_len l; simp only [List.length_cons, Sb.sz]; omega
theorem Sb.sz_app : ∀ a b : List Sb, Sb.sz (a ++ b) = Sb.sz a + Sb.sz b
  | [], b => by simp [Sb.sz]
  | o :: a, b => by simp only [List.cons_append, Sb.sz, Sb.sz_app a b]; omega
theorem Sb.sz_counts (l : List Sb) (n : Nm) (i : List Nm) : Sb.sz (Sb.counts l n i) ≤ Sb.sz l := by
  induction l with
  | nil => exact Nat.le_refl _
  | cons o l ih =>
    simp only [Sb.counts, List.filter_cons] at ih ⊢
    split
    · simp only [Sb.sz]; omega
    · simp only [Sb.sz]; omega
theorem Tm.vars_len (t : Tm) : t.vars.length ≤ t.size := by
  have := varss_len [t]
  simp only [Tm.varss, List.append_nil, Tm.size.sizes] at this
  omega
theorem Sb.names_len : ∀ l : List Sb, (Sb.names l).length ≤ Sb.sz l
  | [] => Nat.le_refl _
  | o :: l => by
    have := Sb.names_len l
    have := Tm.vars_len o.2
    simp only [Sb.names, List.length_append, List.length_cons, List.length_nil, Sb.sz]
    omega
theorem Sb.names_app : ∀ a b : List Sb, Sb.names (a ++ b) = Sb.names a ++ Sb.names b
  | [], b => rfl
  | o :: a, b => by simp only [List.cons_append, Sb.names, Sb.names_app a b, List.append_assoc]
theorem form_plain (f : Frm) (o : UInt8) (n : Nm) (us : List Tm) (fs : List Frm) (l : List Sb) (hq : isQ o = false) (hs : (Frm.mk o n us fs).size ≤ 1000000) (hl : Sb.sz l ≤ 1000000)
    (ih : ∀ a ∈ fs, Pure E 63 [.d .old (.row 4 (mapO Sb.d l)), .d .old a.d] (.d .new (a.put l).d)) :
    Pure E 63 [.d .old (.row 4 (mapO Sb.d l)), .d .old (Frm.mk o n us fs).d] (.d .new ((Frm.mk o n us fs).put l).d) := by
  have hl1 := Tm.len_size us
  have hl2 := Frm.len_size fs
  have hll := Sb.sz_len l
  simp only [Frm.size] at hs
  have h1 := eachTB_ok (g := Tm.d) (h := fun t => (t.sub l).d) (k := 72) (y := .row 4 (mapO Sb.d l)) us (by omega) fun x hx => ⟨x.shape, (x.sub l).shape, lterm_ok l (by omega) (fun o ho => by have := Sb.sz_mem ho; omega) x (by have := Tm.size_mem hx; omega)⟩
  rw [mapT, show mapO (fun t => (t.sub l).d) us = Tm.ds (Tm.subs l us) by rw [Tm.subs_eq, Tm.ds_eq, List.map_map]; rfl] at h1
  have h2 := eachFB_ok (g := Frm.d) (h := fun t => (t.put l).d) (k := 63) (y := .row 4 (mapO Sb.d l)) fs (by omega) fun x hx => ⟨x.shape, (x.put l).shape, ih x hx⟩
  rw [mapF, show mapO (fun t => (t.put l).d) fs = Frm.ds (Frm.puts fs l) by rw [Frm.puts_eq, Frm.ds_eq, List.map_map]; rfl] at h2
  have hp : (Frm.mk o n us fs).put l = .mk o n (Tm.subs l us) (Frm.puts fs l) := by rw [Frm.put, hq]; rfl
  rw [hp]
  have hqq := quant_ok .old (.mk o n us fs) _ _ _ _ rfl
  rw [hq] at hqq
  simp only [Frm.d]
  clear hp
  generalize mapO Sb.d l = L at *
  generalize Tm.subs l us = us' at *
  generalize Frm.puts fs l = fs' at *
  refine pure_by has63 ?_
  generalize hp : std = p
  (generalize cq0 : Frm.ds = cy0, cq1 : Tm.ds = cy1, cq2 : opI = cy2; cbv <;> subst cq0 cq1 cq2)
  refine callA.pure hqq rfl ?_
  (generalize cq0 : Frm.ds = cy0, cq1 : Tm.ds = cy1, cq2 : opI = cy2; cbv <;> subst cq0 cq1 cq2)
  simp only [not_f hp]
  (generalize cq0 : Frm.ds = cy0, cq1 : Tm.ds = cy1, cq2 : opI = cy2; cbv <;> subst cq0 cq1 cq2)
  refine drawA.mk _ ⟨_, _, _, rfl, h1, rfl, rfl⟩ ?_
  (generalize cq0 : Frm.ds = cy0, cq1 : Tm.ds = cy1, cq2 : opI = cy2; cbv <;> subst cq0 cq1 cq2)
  refine drawA.mk _ ⟨_, _, _, rfl, h2, rfl, rfl⟩ ?_
  (generalize cq0 : Frm.ds = cy0, cq1 : Tm.ds = cy1, cq2 : opI = cy2; cbv <;> subst cq0 cq1 cq2)
end Go.Ly.Tr
end
section
namespace Go.Ly
open Classical
def keepV (T : List Nat) : AV → AV
  | .own t sz es ep => match memN t T with | true => .own t sz es ep | false => .d ep (.row sz es)
  | v => wk v
def keepF (T : List Nat) : Fm → Fm
  | [] => []
  | v :: vs => keepV T v :: keepF T vs
def endT {Ω : Type} (T : List Nat) (A : Fm) (K : XK Ω) (j : Option Ex) (σ : Sto) (ω : Ω) : Prop :=
  match j with
  | none => K .norm (keepF T A) (demoteS T σ) ω
  | some x => K x (keepF T A) (demoteS T σ) ω
noncomputable def hideβ (T : List Nat) (β : Nat → Option Nat) : Nat → Option Nat := fun u => if ∃ t, u = 2 * t ∧ memN t T = true then none else β u
noncomputable def backβ (T : List Nat) (β β' : Nat → Option Nat) : Nat → Option Nat := fun u => if ∃ t, u = 2 * t ∧ memN t T = true then β u else β' u
theorem hideβ_some {T : List Nat} {β : Nat → Option Nat} {u b : Nat} (h : hideβ T β u = some b) : β u = some b ∧ ¬ ∃ t, u = 2 * t ∧ memN t T = true := by
  unfold hideβ at h
  split at h
  · cases h
  · exact ⟨h, by assumption⟩
theorem rawOk_hide {T : List Nat} {β : Nat → Option Nat} {u : Nat} (h : rawOk T [] u) : hideβ T β u = β u := by
  unfold hideβ
  rw [if_neg]
  rintro ⟨t, rfl, ht⟩
  rw [h.1 t rfl] at ht
  cases ht
theorem rawOk_back {T : List Nat} {β β' : Nat → Option Nat} {u : Nat} (h : rawOk T [] u) : backβ T β β' u = β' u := by
  unfold backβ
  rw [if_neg]
  rintro ⟨t, rfl, ht⟩
  rw [h.1 t rfl] at ht
  cases ht
theorem hideβ_odd {T : List Nat} {β : Nat → Option Nat} (t : Nat) : hideβ T β (2 * t + 1) = β (2 * t + 1) := by
  unfold hideβ
  rw [if_neg]
  rintro ⟨u, h, _⟩
  omega
theorem backβ_odd {T : List Nat} {β β' : Nat → Option Nat} (t : Nat) : backβ T β β' (2 * t + 1) = β' (2 * t + 1) := by
  unfold backβ
  rw [if_neg]
  rintro ⟨u, h, _⟩
  omega
theorem wkL_wkL : ∀ cs : List AV, wkL (wkL cs) = wkL cs
  | [] => rfl
  | c :: cs => by simp only [wkL, wkL_wkL cs]; congr 1; cases c <;> rfl
theorem wk_wk (v : AV) : wk (wk v) = wk v := by
  cases v with
  | agg cs =>
    simp only [wk, mkAgg]
    cases h : toDs (wkL cs) with
    | none => simp only [wk, wkL_wkL, mkAgg, h]
    | some p => rfl
  | _ => rfl
theorem wkF_wkF : ∀ A : Fm, wkF (wkF A) = wkF A
  | [] => rfl
  | v :: A => by simp only [wkF, wk_wk, wkF_wkF A]
theorem wkF_demoteA (T : List Nat) : ∀ A : Fm, wkF (demoteA T A) = wkF A
  | [] => rfl
  | v :: A => by
    simp only [demoteA, wkF, wk_dem, wkF_demoteA T A]
section
variable {E : Env} {O : Outer E} {S S' S0 : St} {w w' w1 : World} {A : Fm} {σ : Sto} {ω : O.Ω} {a : Act}
theorem keeps_hide (R : Rep E S w σ) (T : List Nat) (D : Nat) : Keeps T [] S w { S with β := hideβ T S.β, D := D } w := by
  refine ⟨⟨fun _ _ h => h, rfl, rfl, fun _ => Nat.le_refl _, Nat.le_refl _, .refl _ _, fun r b hr hb => ⟨?_, rfl, rfl⟩, fun t _ h => ?_, fun _ _ => rfl⟩, fun b h1 h2 h3 h4 => ⟨⟨h1, h2, h3, fun t ht => h4 t (hideβ_some ht).1⟩, rfl⟩⟩
  · simp only [rawOk_hide hr]; exact hb
  · simp only [hideβ_odd]; exact h
theorem rep_hide (R : Rep E S w σ) (T : List Nat) (D : Nat) : Rep E { S with β := hideβ T S.β, D := D } w (demoteS T σ) := by
  have K := keeps_hide R T D
  refine ⟨by rw [demoteS_len]; exact R.len, R.nodup, ?_, R.θlt, R.θX, fun t b h => R.βlt t b (hideβ_some h).1, fun t b h => R.βown t b (hideβ_some h).1, fun t t' b h h' => R.βinj t t' b (hideβ_some h).1 (hideβ_some h').1, R.Gnew, R.E, R.n0, trivial,
    fun b hb => ⟨(R.X b hb).1, fun t ht => (R.X b hb).2 t (hideβ_some ht).1⟩⟩
  intro id c x hc hx
  rw [demoteS_get, Option.map_eq_some_iff] at hx
  obtain ⟨y, hy, rfl⟩ := hx
  exact RepE_keep K rfl (R.box id c y hc hy)
theorem keepF_sound {φ : Nat → FuncId} {S4 : St} {w4 : World} {T : List Nat} (hold : ∀ t b, memN t T = true → S.β (2 * t) = some b → S4.β (2 * t) = some b ∧ w4.heap[b]? = w.heap[b]? ∧ S4.G b = S.G b) (hE : S4.E = S.E) : ∀ {A : Fm} {vs : List Value}, RdF φ S w A vs → RdF φ S4 w4 (wkF A) vs → RdF φ S4 w4 (keepF T A) vs
  | [], _, h, _ => h
  | x :: A, vs, h, h' => by
    obtain ⟨v, rest, e, h1, h2⟩ := h
    obtain ⟨v', rest', e', g1, g2⟩ := h'
    rw [e] at e'
    cases e'
    refine ⟨v, rest, e, ?_, keepF_sound hold hE h2 g2⟩
    cases x with
    | own t sz es ep =>
      simp only [keepV]
      cases hm : memN t T with
      | false => exact g1
      | true =>
        have g1' : RdD w4 S4.G (epB S4.E ep) (.row sz es) v := g1
        rcases h1 with ⟨hp, _⟩ | ⟨b, o, cap, ws, cs, Ty, hb, hv, hh, hc, hsz, he, hg, hcv, hr⟩
        · exact .inl ⟨hp, g1'⟩
        · obtain ⟨k1, k2, k3⟩ := hold t b hm hb
          simp only [RdD] at g1'
          rcases g1' with ⟨_, hes⟩ | ⟨b', o', cap', ws', hv', _, _, _, hcv', hr'⟩
          · subst hes
            exact .inr ⟨b, o, cap, [], cs, Ty, k1, hv, by rw [k2]; exact hh, hc, hsz, by rw [hE]; exact he, by rw [k3]; exact hg, fun i v hi => by simp at hi, rfl⟩
          · rw [hv] at hv'
            cases hv'
            exact .inr ⟨b, o, cap, ws', cs, Ty, k1, hv, by rw [k2]; exact hh, hc, hsz, by rw [hE]; exact he, by rw [k3]; exact hg, hcv', hr'⟩
    | _ => exact g1
theorem rf_keep (T : List Nat) {f : AO} {ps : List Nat} {a1 b1 : AC} {K : XK O.Ω} {k : Nat} {first cap : List AV} {items : List (List AV)} (hf : f.ev A = .fn k first cap) (hp1 : pureL first = true) (hp2 : pureL cap = true)
    (hI : IterOK E k (oldL first) (oldL cap) items) (hi : ∀ x ∈ items, allD x = true ∧ len x = ps.length) (h : rangeItems E O a1 b1 ps (wkF A) (items.map unkL) (demoteS T σ) ω (endT T A K)) : rfA E O f ps a1 b1 K A σ ω := by
  refine .mk ?_
  intro hs ro c S w a hc hr H
  cases c with
  | rangeFunc g ps' ca cb =>
    simp only [compC] at hc
    split at hc
    · rename_i f1 x1 y1 hg hca hcb
      simp only [Option.some.injEq, AC.rf.injEq] at hc
      obtain ⟨rfl, rfl, rfl, rfl⟩ := hc
      refine wpIn_rangeFunc fun fn hfn => ?_
      obtain ⟨l, mark, w1, df, hent, L⟩ := enter_laid (P := E.P) hr fn a.tmps ps' ca cb
      have hF := opnd_sound hg H.fr
      rw [hf] at hF
      simp only [RdA] at hF
      obtain ⟨va, vc, hfe, r1, r2⟩ := hF
      have H1 : Here E O S w1 ω σ A a := here_foreign H L.os L.size fun b hb => .inl (L.old b hb)
      have hlt : l < w1.heap.size := heap_lt L.rc
      obtain ⟨Sh, hSh⟩ : ∃ Sh : St, Sh = { S with β := hideβ T S.β, D := w1.heap.size } := ⟨_, rfl⟩
      have Rh : Rep E Sh w1 (demoteS T σ) := by rw [hSh]; exact rep_hide H1.rep T _
      have Fh : RdF E.φ Sh w1 (wkF A) a.tmps.toList := by
        rw [← wkF_demoteA T, hSh]
        exact wkF_sound (RdF_keep (keeps_hide H1.rep T _) _ _ H1.fr)
      have Jh : O.J ω Sh w1 := O.stable H1.out (.refl _) (by rw [hSh]) (by rw [hSh]) (Nat.le_refl _) (fun b _ _ => ⟨rfl, by rw [hSh]⟩) (.refl _ _) (fun b => by rw [hSh]; exact Nat.le_refl _) Rh.Gnew
      have Gh : Sh.G = S.G := by rw [hSh]
      have Eh : Sh.E = S.E := by rw [hSh]
      have θh : Sh.θ = S.θ := by rw [hSh]
      have Xh : Sh.X = S.X := by rw [hSh]
      have βh : ∀ t b, Sh.β t = some b → S.β t = some b ∧ ¬ ∃ u, t = 2 * u ∧ memN u T = true := fun t b h => by rw [hSh] at h; exact hideβ_some h
      have n0h : Sh.n0 = S.n0 := by rw [hSh]
      have Dh : Sh.D = w1.heap.size := by rw [hSh]
      have Lh : Sh.L = S.L := by rw [hSh]
      have xvh : Sh.xv = S.xv := by rw [hSh]
      obtain ⟨R, hR⟩ : ∃ R : Rng, R = { hs := hs, l := l, ca := ca, cb := cb, a1 := x1, b1 := y1, ps := ps', A := wkF A, tmps := a.tmps, fn := fn, df := df, S0 := Sh, w0 := w1 } := ⟨_, rfl⟩
      have hok : R.ok E O := by
        subst hR
        exact ⟨hca, hcb, calmF_wkF A, hlt, fun hm => by rw [θh] at hm; have := (H.rep.θlt l hm).1; have := L.ge; omega, fun t ht => by have := (H.rep.βlt t l (βh t l ht).1).1; have := L.ge; omega, fun hX => by rw [Xh] at hX; have := (H.rep.X l hX).1; have := L.ge; omega, by rw [n0h]; exact Nat.le_trans H.rep.n0 L.ge⟩
      have hback : R.back w1 = w1 := by
        subst hR
        exact put_self L.rc
      have hJ : R.J O ⟨none, demoteS T σ, ω⟩ { θ := [], β := fun _ => none, ln := S.ln, G := S.G, E := w1.heap.size, D := w1.heap.size, L := fun _ => False, n0 := w1.heap.size, X := fun b => b < w1.heap.size, xv := [.func (.yield l) #[] #[]] } w1 := by
        refine ⟨Sh, Rh, ?_, Jh, ?_, ?_, Gh, ?_, ?_, fun b hb => (Rh.θlt b hb).1, fun t b hb => (Rh.βlt t b hb).1, fun b hb => (Rh.X b hb).1⟩
        · subst hR; exact Fh
        · rw [hback]; subst hR; exact Ev.refl Sh w1
        · subst hR; exact L.rc
        · subst hR; rfl
        · subst hR; exact fun b hb => hb
      have V : SeesP S { θ := [], β := fun _ => none, ln := S.ln, G := S.G, E := w1.heap.size, D := w1.heap.size, L := fun _ => False, n0 := w1.heap.size, X := fun b => b < w1.heap.size, xv := [.func (.yield l) #[] #[]] } w1 := ⟨rfl, fun _ => Nat.le_refl _⟩
      have hF1 := opnd_sound hg H1.fr
      rw [hf] at hF1
      simp only [RdA] at hF1
      obtain ⟨va', vc', hfe', q1, q2⟩ := hF1
      rw [hfe] at hfe'
      cases hfe'
      have hB : Begins E { θ := [], β := fun _ => none, ln := S.ln, G := S.G, E := w1.heap.size, D := w1.heap.size, L := fun _ => False, n0 := w1.heap.size, X := fun b => b < w1.heap.size, xv := [.func (.yield l) #[] #[]] } w1 []
          (appendL (oldL first) (.ext 0 :: oldL cap)) (va ++ .func (.yield l) #[] #[] :: vc) := by
        refine ⟨⟨rfl, List.nodup_nil, fun id b s hb _ => (by simp at hb), fun b hb => (by simp at hb), fun b hb => (by simp at hb), fun t b hb => (by cases hb), fun t b hb => (by cases hb), fun t t' b hb => (by cases hb), H1.rep.Gnew, Nat.le_refl _, Nat.le_refl _, trivial, fun b hb => ⟨hb, fun t => by simp⟩⟩,
          fun _ => rfl, rfl, rfl, rfl, ?_⟩
        rw [appendL_eq]
        refine RdNs_append (pureNs_sees V first va hp1 q1) ?_
        simp only [RdNs]
        exact ⟨_, _, rfl, rfl, by simp only [RdA]; exact ⟨rfl, _, _, _, rfl⟩, pureNs_sees V cap vc hp2 q2⟩
      have hys := ys_of hok items (demoteS T σ) ω (K := endT T A K) (by subst hR; exact hi) (by subst hR; exact h)
      obtain ⟨hb, hcall⟩ := hI (roundOuter E O R hok) 0 ⟨none, demoteS T σ, ω⟩ (fun rs => endT T A K rs.j rs.σ rs.ω) hys
      have hcalls := hcall _ w1 _ hB hJ
      have hround : (fence ro).round = ro := rfl
      refine ⟨l, mark, w1, { target := .fn (.func (E.φ k)) ⟨vc⟩, args := ⟨va⟩ ++ #[.func (.yield l) #[] #[]] }, w1, E.φ k, ⟨va ++ .func (.yield l) #[] #[] :: vc⟩, w1, by rw [hround]; exact hent, ?_, fun _ _ => trivial, ?_, fun h => (by cases h), ?_⟩
      · simp only [resolve, rangeCall, hfe]
        simp [Deferred.ofValue, Sem.run_pure, Act.eval]
      · simp only [invoke]
        rw [run_callFunc hb]
        congr 2
        apply Array.ext'
        simp
      · refine (calls_fence (ro := ro) hcalls).mono ?_
        rintro e w3 ⟨v, r, σ', rs', S', rfl, hK, hJ', hL⟩
        obtain ⟨Sc, Rc, Fc, Jc, Vc, hl, eG, exv, x0, xθ, xβ, xX⟩ := hJ'
        obtain ⟨a1', a2', a3', a4', a5'⟩ := Rng.apart hok Vc
        have el : R.l = l := by subst hR; rfl
        rw [el] at hl a1' a2' a3' a4' a5'
        have hnb : (R.entry false rs'.j).state ≠ .busy := by
          simp only [Rng.entry]
          cases rs'.j <;> simp
        have hpend : (R.entry false rs'.j).pending = pend rs'.j := rfl
        obtain ⟨w4, hw4⟩ : ∃ w4, w4 = w3.putObj l (.loop { R.entry false rs'.j with state := .exhausted }) := ⟨_, rfl⟩
        have o4 : ∀ b, b ≠ l → w4.heap[b]? = w3.heap[b]? := fun b hb => by rw [hw4]; exact World.putObj_heap_other hb
        have s4 : w4.heap.size = w3.heap.size := by rw [hw4, World.putObj_size]
        have ob : ∀ b, b ≠ l → (R.back w3).heap[b]? = w4.heap[b]? := fun b hb => by rw [o4 b hb]; exact back_other (by rw [el]; exact hb)
        have hfo : Foreign Sc w3 l := ⟨a1', a2', a3', a4', noC_loop hl⟩
        obtain ⟨K4, R4, hx4⟩ := foreign_step (w' := w4) Rc (by omega) fun b hb => by
          by_cases hbl : b = l
          · exact .inr (hbl ▸ hfo)
          · exact .inl (o4 b hbl)
        have e1 : R.S0 = Sh := by subst hR; rfl
        have e2 : R.w0 = w1 := by subst hR; rfl
        have e3 : R.A = wkF A := by subst hR; rfl
        have e4 : R.tmps = a.tmps := by subst hR; rfl
        rw [e1, e2] at Vc
        rw [e3, e4] at Fc
        have F4 : RdF E.φ Sc w4 (wkF A) a.tmps.toList := by
          have := RdF_keep K4 _ _ Fc
          rwa [demoteA_nil] at this
        have J4 : O.J rs'.ω Sc w4 := O.stable Jc (by rw [hw4]; exact .putObj hl fun _ _ _ e => by cases e) rfl rfl (by omega) hx4 K4.imm (fun _ => Nat.le_refl _) R4.Gnew
        have M1 : Marks S w1 (mark ++ a.defers) := by
          obtain ⟨ms, hds, hnd, hms⟩ := H.marks
          have old : ∀ r ∈ ms, w1.heap[r]? = some (.deferred (some [])) ∧ r ∉ S.θ ∧ (∀ t, S.β t ≠ some r) ∧ ¬ S.X r ∧ S.n0 ≤ r := fun r hr => by
            obtain ⟨g1, g2⟩ := hms r hr
            exact ⟨(L.old r (heap_lt g1)).trans g1, g2⟩
          rcases L.mark with hm | ⟨d, hm, hd, hh⟩
          · rw [hm, List.nil_append]
            exact ⟨ms, hds, hnd, old⟩
          · refine ⟨d :: ms, by rw [hm, hds]; rfl, List.nodup_cons.2 ⟨fun h => by have := heap_lt (hms d h).1; omega, hnd⟩, fun r hr => ?_⟩
            simp only [List.mem_cons] at hr
            rcases hr with rfl | hr
            · exact ⟨hh, fun hm => by have := (H.rep.θlt _ hm).1; omega, fun t ht => by have := (H.rep.βlt t _ ht).1; omega, fun hX => by have := (H.rep.X _ hX).1; omega, Nat.le_trans H.rep.n0 hd⟩
            · exact old r hr
        have M1h : Marks Sh w1 (mark ++ a.defers) := by
          obtain ⟨ms, hds, hnd, hms⟩ := M1
          refine ⟨ms, hds, hnd, fun r hr => ?_⟩
          obtain ⟨g1, g2, g3, g4, g5⟩ := hms r hr
          exact ⟨g1, by rw [θh]; exact g2, fun t ht => g3 t (βh t r ht).1, by rw [Xh]; exact g4, by rw [n0h]; exact g5⟩
        have M4 : Marks Sc w4 (mark ++ a.defers) := by
          obtain ⟨ms, hds, hnd, hms⟩ := M1h.ev Vc
          refine ⟨ms, hds, hnd, fun r hr => ?_⟩
          obtain ⟨g1, g2⟩ := hms r hr
          have hne : r ≠ l := fun e => by
            subst e
            have hx : (R.back w3).heap[r]? = some (.loop (R.entry false none)) := by
              have := back_l (R := R) (w := w3) (by rw [el]; exact a5')
              rwa [el] at this
            rw [hx] at g1
            cases g1
          exact ⟨(ob r hne).symm.trans g1, g2⟩
        have sz3 : w1.heap.size ≤ w3.heap.size := by
          have := Vc.size
          rwa [back_size] at this
        have hinT : ∀ t b, memN t T = true → S.β (2 * t) = some b → b < w1.heap.size ∧ b ∉ Sh.θ ∧ (∀ u, Sh.β u ≠ some b) ∧ ¬ Sh.X b := fun t b hm hb => by
          refine ⟨(H1.rep.βlt _ b hb).1, by rw [θh]; exact (H1.rep.βlt _ b hb).2.2, fun u hu => ?_, fun hX => by rw [Xh] at hX; exact (H1.rep.X b hX).2 _ hb⟩
          obtain ⟨g1, g2⟩ := βh u b hu
          exact g2 ⟨t, H1.rep.βinj u _ b g1 hb, hm⟩
        have hnewc : ∀ t b, memN t T = true → S.β (2 * t) = some b → b ∉ Sc.θ ∧ (∀ u, Sc.β u ≠ some b) ∧ ¬ Sc.X b := fun t b hm hb => by
          obtain ⟨g0, g1, g2, g3⟩ := hinT t b hm hb
          exact ⟨fun h => (Vc.newθ b h).elim g1 fun h => by omega, fun u h => (Vc.newβ u b h).elim (fun ⟨u', h'⟩ => g2 u' h') fun h => by omega, fun h => (Vc.newX b h).elim g3 fun h => by omega⟩
        have hfrm : ∀ t b, memN t T = true → S.β (2 * t) = some b → w4.heap[b]? = w1.heap[b]? ∧ Sc.G b = S.G b := fun t b hm hb => by
          obtain ⟨g0, g1, g2, g3⟩ := hinT t b hm hb
          obtain ⟨k1, k2⟩ := Vc.frame b g0 g1 g2 g3 (.inl (by rw [Dh]; exact g0))
          have hbl : b ≠ l := fun e => by
            subst e
            have := (H.rep.βlt _ b hb).1
            have := L.ge
            omega
          exact ⟨(ob b hbl).symm.trans k1, by rw [k2, Gh]⟩
        obtain ⟨S4, hS4⟩ : ∃ S4 : St, S4 = { Sc with β := backβ T S.β Sc.β, D := S.D } := ⟨_, rfl⟩
        have β4 : ∀ u b, S4.β u = some b → (∃ t, u = 2 * t ∧ memN t T = true ∧ S.β (2 * t) = some b) ∨ ((¬ ∃ t, u = 2 * t ∧ memN t T = true) ∧ Sc.β u = some b) := fun u b h => by
          rw [hS4] at h
          simp only [backβ] at h
          split at h
          · rename_i hu
            obtain ⟨t, rfl, ht⟩ := hu
            exact .inl ⟨t, rfl, ht, h⟩
          · exact .inr ⟨by assumption, h⟩
        have K5 : Keeps T [] Sc w4 S4 w4 := by
          rw [hS4]
          refine ⟨⟨fun _ _ h => h, rfl, rfl, fun _ => Nat.le_refl _, Nat.le_refl _, .refl _ _, fun r b hr hb => ⟨by simp only [rawOk_back hr]; exact hb, rfl, rfl⟩, fun t _ h => by simp only [backβ_odd]; exact h, fun _ _ => rfl⟩, fun b h1 h2 h3 h4 => ⟨⟨h1, h2, h3, fun u hu => ?_⟩, rfl⟩⟩
          rcases β4 u b (by rw [hS4]; exact hu) with ⟨t, rfl, ht, hb⟩ | ⟨_, h⟩
          · have := H.rep.βown t b hb
            rw [Vc.n0.1, n0h] at h1
            omega
          · exact h4 u h
        have R5 : Rep E S4 w4 (demoteS T rs'.σ) := by
          refine ⟨by rw [demoteS_len, hS4]; exact R4.len, by rw [hS4]; exact R4.nodup, ?_, by rw [hS4]; exact R4.θlt, by rw [hS4]; exact R4.θX, fun u b h => ?_, fun u b h => ?_, fun u u' b h h' => ?_, by rw [hS4]; exact R4.Gnew, by rw [hS4]; exact R4.E, by rw [hS4]; exact R4.n0, trivial, fun b hb => ?_⟩
          · intro id c x hc hx
            rw [demoteS_get, Option.map_eq_some_iff] at hx
            obtain ⟨y, hy, rfl⟩ := hx
            exact RepE_keep K5 rfl (R4.box id c y (by rw [hS4] at hc; exact hc) hy)
          · rcases β4 u b h with ⟨t, rfl, ht, hb⟩ | ⟨_, h⟩
            · have h1 := H1.rep.βlt _ b hb
              exact ⟨by have := h1.1; omega, by rw [hS4]; simp only; rw [Vc.n0.1, n0h, Vc.n0.2.2, Lh]; exact h1.2.1, by rw [hS4]; exact (hnewc t b ht hb).1⟩
            · have h1 := R4.βlt _ b h
              rw [hS4]
              exact h1
          · rcases β4 _ b h with ⟨t, ht0, ht, hb⟩ | ⟨_, h⟩
            · rw [hS4]
              simp only
              rw [Vc.n0.1, n0h]
              exact H.rep.βown t b hb
            · rw [hS4]
              exact R4.βown _ b h
          · rcases β4 u b h with ⟨t, rfl, ht, hb⟩ | ⟨hu, hc⟩ <;> rcases β4 u' b h' with ⟨t', rfl, ht', hb'⟩ | ⟨hu', hc'⟩
            · exact H.rep.βinj _ _ b hb hb'
            · exact absurd hc' ((hnewc t b ht hb).2.1 u')
            · exact absurd hc ((hnewc t' b ht' hb').2.1 u)
            · exact R4.βinj _ _ b hc hc'
          · have hX : Sc.X b := by rw [hS4] at hb; exact hb
            refine ⟨(R4.X b hX).1, fun u hu => ?_⟩
            rcases β4 u b hu with ⟨t, rfl, ht, hb⟩ | ⟨_, h⟩
            · exact (hnewc t b ht hb).2.2 hX
            · exact (R4.X b hX).2 u h
        have F5 : RdF E.φ S4 w4 (wkF A) a.tmps.toList := by
          have h1 := RdF_keep K5 _ _ F4
          have h2 := wkF_sound h1
          rwa [wkF_demoteA, wkF_wkF] at h2
        have F6 : RdF E.φ S4 w4 (keepF T A) a.tmps.toList := by
          refine keepF_sound (S := S) (w := w1) (fun t b hm hb => ?_) (by rw [hS4]; simp only; rw [Vc.E, Eh]) H1.fr F5
          obtain ⟨g1, g2⟩ := hfrm t b hm hb
          refine ⟨?_, g1, by rw [hS4]; exact g2⟩
          rw [hS4]
          simp only [backβ]
          rw [if_pos ⟨t, rfl, hm⟩]
          exact hb
        have J5 : O.J rs'.ω S4 w4 := O.stable J4 (.refl _) (by rw [hS4]) (by rw [hS4]) (Nat.le_refl _) (fun b _ _ => ⟨rfl, by rw [hS4]⟩) (.refl _ _) (fun b => by rw [hS4]; exact Nat.le_refl _) R5.Gnew
        have M5 : Marks S4 w4 (mark ++ a.defers) := by
          obtain ⟨ms, hds, hnd, hms⟩ := M4
          refine ⟨ms, hds, hnd, fun r hr => ?_⟩
          obtain ⟨g1, g2, g3, g4, g5⟩ := hms r hr
          refine ⟨g1, by rw [hS4]; exact g2, fun u hu => ?_, by rw [hS4]; exact g4, by rw [hS4]; exact g5⟩
          rcases β4 u r hu with ⟨t, rfl, ht, hb⟩ | ⟨_, h⟩
          · obtain ⟨ms1, hds1, _, hms1⟩ := M1
            have hr1 : r ∈ ms1 := by
              have : ms = ms1 := by
                have e := hds.symm.trans hds1
                exact List.map_inj_right (f := markOf) (fun a b h => by simpa [markOf] using h) |>.1 e
              rw [← this]; exact hr
            exact (hms1 r hr1).2.2.1 _ hb
          · exact g3 u h
        have H4 : Here E O S4 w4 rs'.ω (demoteS T rs'.σ) (keepF T A) { a with defers := mark ++ a.defers } := ⟨R5, F6, M5, J5⟩
        have V4 : Ev S w S4 w4 := by
          have hlt1 : ∀ b, b < w.heap.size → b ≠ l := fun b hb e => by have := L.ge; omega
          refine ⟨by rw [hS4, ← θh]; exact Vc.θ, by rw [hS4]; exact ⟨Vc.n0.1.trans n0h, rfl, Vc.n0.2.2.trans Lh⟩, by rw [hS4, ← Xh]; exact Vc.X, by rw [hS4]; exact Vc.E.trans Eh, by rw [hS4]; exact Vc.xv.trans xvh, by have := L.size; omega, fun b hb g1 g2 g3 _ => ?_, fun b hb => ?_, ?_, fun b hb => ?_, fun t b hb => ?_,
            fun b hb => ?_, L.os.trans (SameOs.trans Vc.os (.turn (b := l) (by rw [hw4]; rfl) (by rw [hw4]; rfl) (by have := back_l (R := R) (w := w3) (by rw [el]; exact a5'); rwa [el] at this) (by rw [hw4]; exact World.putObj_heap_same a5') (fun _ _ _ e => by cases e) fun c _ hc => (ob c hc).symm))⟩
          · have hb1 := Nat.lt_of_lt_of_le hb L.size
            obtain ⟨k1, k2⟩ := Vc.frame b hb1 (by rw [θh]; exact g1) (fun t ht => g2 t (βh t b ht).1) (by rw [Xh]; exact g3) (.inl (by rw [Dh]; exact hb1))
            exact ⟨(ob b (hlt1 b hb)).symm.trans (k1.trans (L.old b hb)), by rw [hS4]; simp only; rw [k2, Gh]⟩
          · rw [hS4]
            simp only
            rcases Nat.lt_or_ge b w1.heap.size with h | h
            · have := Vc.G b (by rw [Dh]; exact h)
              rwa [Gh] at this
            · rw [H1.rep.Gnew b h]; exact Nat.zero_le _
          · have i1 : Imm (· < w1.heap.size) w S.G w1 := imm_old L.old
            have i2 : Imm (· < w1.heap.size) w S.G (R.back w3) := i1.trans (by have := Vc.imm; rw [Dh, Gh] at this; exact this) fun b _ => Nat.le_refl _
            refine ⟨fun b i v _ hi hc => ?_, fun b es k' _ hi hc => ?_⟩
            · have hbl := hlt1 b (cell_lt hc)
              have := i2.cell b i v (Nat.lt_of_lt_of_le (cell_lt hc) L.size) hi hc
              rw [cell_same (ob b hbl).symm]
              exact this
            · have hbl := hlt1 b (heap_lt hc)
              have := i2.map b es k' (Nat.lt_of_lt_of_le (heap_lt hc) L.size) hi hc
              rw [← ob b hbl]
              exact this
          · rw [hS4] at hb
            have := Vc.newθ b hb
            rw [θh] at this
            exact this.imp id fun h => Nat.le_trans L.size h
          · rcases β4 t b hb with ⟨u, rfl, _, h⟩ | ⟨_, h⟩
            · exact .inl ⟨_, h⟩
            · exact (Vc.newβ t b h).imp (fun ⟨t', h'⟩ => ⟨t', (βh t' b h').1⟩) fun h => Nat.le_trans L.size h
          · rw [hS4] at hb
            have := Vc.newX b hb
            rw [Xh] at this
            exact this.imp id fun h => Nat.le_trans L.size h
        refine ⟨pend rs'.j, w4, ?_, ?_⟩
        · rw [hw4, ← hpend]
          exact run_endLoop hl hnb
        · generalize rs'.j = j at hK
          cases j with
          | none => exact ⟨.norm, keepF T A, demoteS T rs'.σ, rs'.ω, S4, rfl, hK, H4, V4⟩
          | some x =>
            cases x with
            | norm => exact ⟨.norm, keepF T A, demoteS T rs'.σ, rs'.ω, S4, rfl, hK, H4, V4⟩
            | ret => exact wpIn_ret ⟨.ret, keepF T A, demoteS T rs'.σ, rs'.ω, S4, rfl, hK, H4, V4⟩
            | exit id => exact wpIn_exit ⟨.exit id, keepF T A, demoteS T rs'.σ, rs'.ω, S4, rfl, hK, H4, V4⟩
    · cases hc
  | region id ops d =>
    simp only [compC, compRegion] at hc
    repeat' split at hc
    all_goals simp at hc
  | _ =>
    simp only [compC] at hc
    repeat' split at hc
    all_goals simp at hc
end
end Go.Ly
end
