/- One operation compiled. -/
import Derived.Test.YtmbnogellhoheaaGreatDoorEvXg
namespace Go.Proofs.YtmbnogellhoheaaGreatDoor.Ev
open Go
variable {ρ : Rho}

noncomputable def x1 (G : Ctx) (E : Env) (n : Nat) (x : Operand) (k : X → OC) : Option OC := (opX G E n x).map k
noncomputable def x2 (G : Ctx) (E : Env) (n : Nat) (x y : Operand) (k : X → X → OC) : Option OC :=
  match opX G E n x with
  | some f => (opX G E n y).map (k f)
  | none => none
noncomputable def x3 (G : Ctx) (E : Env) (n : Nat) (x y z : Operand) (k : X → X → X → OC) : Option OC :=
  match opX G E n x with
  | some f => x2 G E n y z (k f)
  | none => none
theorem x1_some {G : Ctx} {E : Env} {n : Nat} {x : Operand} {k : X → OC} {c : OC} (h : x1 G E n x k = some c) : ∃ f, opX G E n x = some f ∧ c = k f := by
  obtain ⟨f, h1, h2⟩ := Option.map_eq_some_iff.1 h; exact ⟨f, h1, h2.symm⟩
theorem x2_some {G : Ctx} {E : Env} {n : Nat} {x y : Operand} {k : X → X → OC} {c : OC} (h : x2 G E n x y k = some c) : ∃ f g, opX G E n x = some f ∧ opX G E n y = some g ∧ c = k f g := by
  unfold x2 at h
  split at h
  · rename_i f hf
    obtain ⟨g, h1, h2⟩ := Option.map_eq_some_iff.1 h
    exact ⟨f, g, hf, h1, h2.symm⟩
  · cases h
theorem x3_some {G : Ctx} {E : Env} {n : Nat} {x y z : Operand} {k : X → X → X → OC} {c : OC} (h : x3 G E n x y z k = some c) : ∃ f g e, opX G E n x = some f ∧ opX G E n y = some g ∧ opX G E n z = some e ∧ c = k f g e := by
  unfold x3 at h
  split at h
  · rename_i f hf
    obtain ⟨g, e, h1, h2, h3⟩ := x2_some h
    exact ⟨f, g, e, hf, h1, h2, h3⟩
  · cases h
noncomputable def xo (G : Ctx) (E : Env) (n : Nat) : Option Operand → Option (Option X)
  | none => some none
  | some x => (opX G E n x).map some
noncomputable def evo (f : Option X) (L : List V) (T : TS) : Option V := Option.casesOn f none fun f => some (f L T)
theorem xo_snd {G : Ctx} {E : Env} {n : Nat} {L : List V} {T : TS} {a : Act} {x : Option Operand} {f : Option X} (hn : L.length = n) (he : ER G ρ E L T a) (h : xo G E n x = some f) : optR ρ (evo f L T) (x.map a.eval) := by
  cases x with
  | none => injection h with h; subst h; trivial
  | some x =>
    obtain ⟨g, h1, rfl⟩ := Option.map_eq_some_iff.1 h
    exact opX_snd hn he h1

noncomputable def rcA (r : Option AR) : RC := Option.casesOn r .fail fun q => AR.casesOn q fun v nx bs => .mk v nx bs
noncomputable def callV (F : CallF) (f : V) (as : List V) (nx : Pos) (bs : TB) : RC := asF f .fail .fail fun fid cs => F fid (catL as cs) nx bs
theorem callV_some {F : CallF} {f v : V} {as : List V} {nx nx' : Pos} {bs bs' : TB} (h : callV F f as nx bs = .mk v nx' bs') : ∃ fid cs, f = .f fid cs ∧ F fid (as ++ cs) nx bs = .mk v nx' bs' := by
  cases f <;> first | (rename_i fid cs; refine ⟨fid, cs, rfl, ?_⟩; rw [← catL_eq]; exact h) | (have h : RC.fail = .mk v nx' bs' := h; cases h)

theorem rcA_some {r : Option AR} {v : V} {nx : Pos} {bs : TB} (h : rcA r = .mk v nx bs) : r = some (.mk v nx bs) := by
  cases r with
  | none => cases h
  | some q => cases q; injection h with e1 e2 e3; subst e1; subst e2; subst e3; rfl
section
variable {P : Program} {G : Ctx} {E : Env} {n : Nat} {o : Oper} {c : OC}
noncomputable def un1 (Y : TI) (G : Ctx) (E : Env) (n : Nat) (o : Op) : Option OC := match unG Y o with
  | some (x, g) => x1 G E n x fun f => .pu fun L T => g (f L T)
  | none => none
theorem un1_snd (h : un1 (tiOf P) G E n o.op = some c) : OCS P G E n o c := by
  unfold un1 at h
  split at h
  case h_2 => cases h
  rename_i x g hg
  obtain ⟨f, h1, rfl⟩ := x1_some h
  intro ρ L T a v w hn he hf
  obtain ⟨y, k1, k2⟩ := unG_snd P hg ρ a w (opX_snd hn he h1) hf
  exact ⟨y, .inl k1, k2⟩
noncomputable def tw1 (Y : TI) (G : Ctx) (E : Env) (n : Nat) (o : Op) : Option OC := match twG Y o with
  | some (x, y, g) => x2 G E n x y fun f e => .pu fun L T => g (f L T) (e L T)
  | none => none
theorem tw1_snd (h : tw1 (tiOf P) G E n o.op = some c) : OCS P G E n o c := by
  unfold tw1 at h
  split at h
  case h_2 => cases h
  rename_i x y g hg
  obtain ⟨f, e, h1, h2, rfl⟩ := x2_some h
  intro ρ L T a v w hn he hf
  obtain ⟨z, k1, k2⟩ := twG_snd P hg ρ a w (opX_snd hn he h1) (opX_snd hn he h2) hf
  exact ⟨z, .inl k1, k2⟩
noncomputable def rd1 (Y : TI) (G : Ctx) (E : Env) (n : Nat) (o : Op) : Option OC := match rdG Y o with
  | some (x, g) => x1 G E n x fun f => .ld fun L T bs => g bs (f L T)
  | none => none
theorem rd1_snd (h : rd1 (tiOf P) G E n o.op = some c) : OCS P G E n o c := by
  unfold rd1 at h
  split at h
  case h_2 => cases h
  rename_i x g hg
  obtain ⟨f, h1, rfl⟩ := x1_some h
  intro ρ L T a nx bs v w hn he hh hf
  obtain ⟨y, k1, k2⟩ := rdG_snd P hg ρ a hh (opX_snd hn he h1) hf
  exact ⟨y, .inl k1, k2⟩
noncomputable def cs1 (Y : TI) (G : Ctx) (E : Env) (n : Nat) (o : Op) : Option OC := match csG Y o with
  | some (x, .both lo hi g) => x3 G E n x lo hi fun f e d => .pu fun L T => g (f L T) (e L T) (d L T)
  | some (x, .one b g) => x2 G E n x b fun f e => .pu fun L T => g (f L T) (e L T)
  | none => none
theorem cs1_snd (h : cs1 (tiOf P) G E n o.op = some c) : OCS P G E n o c := by
  unfold cs1 at h
  split at h
  · rename_i x lo hi g hg
    obtain ⟨f, e, d, h1, h2, h3, rfl⟩ := x3_some h
    intro ρ L T a v w hn he hf
    obtain ⟨y, k1, k2⟩ := csG_snd P hg ρ a w (opX_snd hn he h1) (r := v) ⟨_, _, opX_snd hn he h2, opX_snd hn he h3, hf⟩
    exact ⟨y, .inl k1, k2⟩
  · rename_i x b g hg
    obtain ⟨f, e, h1, h2, rfl⟩ := x2_some h
    intro ρ L T a v w hn he hf
    obtain ⟨y, k1, k2⟩ := csG_snd P hg ρ a w (opX_snd hn he h1) (r := v) ⟨_, opX_snd hn he h2, hf⟩
    exact ⟨y, .inl k1, k2⟩
  · cases h
noncomputable def nw1 (Y : TI) (G : Ctx) (E : Env) (n : Nat) (o : Op) : Option OC := match nwG Y o with
  | some (.c m) => some (.al fun _ _ => some m)
  | some (.one x g) => x1 G E n x fun f => .al fun L T => g (f L T)
  | some (.two x y g) => x2 G E n x y fun f e => .al fun L T => g (f L T) (e L T)
  | none => none
theorem nw1_snd (h : nw1 (tiOf P) G E n o.op = some c) : OCS P G E n o c := by
  unfold nw1 at h
  split at h
  · rename_i m hg
    injection h with h; subst h
    intro ρ L T a v w hn he hf
    injection hf with hf; subst hf
    obtain ⟨res, k1, k2⟩ := nwG_snd P hg ρ a w (m := m) rfl
    exact ⟨res, k1, fun y w' e => .inl (k2 y w' e)⟩
  · rename_i x g hg
    obtain ⟨f, h1, rfl⟩ := x1_some h
    intro ρ L T a v w hn he hf
    obtain ⟨res, k1, k2⟩ := nwG_snd P hg ρ a w (m := v) ⟨_, opX_snd hn he h1, hf⟩
    exact ⟨res, k1, fun y w' e => .inl (k2 y w' e)⟩
  · rename_i x y g hg
    obtain ⟨f, e, h1, h2, rfl⟩ := x2_some h
    intro ρ L T a v w hn he hf
    obtain ⟨res, k1, k2⟩ := nwG_snd P hg ρ a w (m := v) ⟨_, _, opX_snd hn he h1, opX_snd hn he h2, hf⟩
    exact ⟨res, k1, fun y w' e => .inl (k2 y w' e)⟩
  · cases h
noncomputable def ef1 (Y : TI) (G : Ctx) (E : Env) (n : Nat) (o : Op) : Option OC := match efG Y o with
  | some (x, y, g) => x2 G E n x y fun f e => .ef fun _ L T nx bs => rcA (g (f L T) (e L T) nx bs)
  | none => none
theorem ef1_snd (h : ef1 (tiOf P) G E n o.op = some c) : OCS P G E n o c := by
  unfold ef1 at h
  split at h
  case h_2 => cases h
  rename_i x y g hg
  obtain ⟨f, e, h1, h2, rfl⟩ := x2_some h
  intro F hF ρ L T a nx nx' bs bs' v w hn he hh hf next Q hq
  obtain ⟨z, w', ρ', k1, k2, k3, k4⟩ := efG_snd P hg ρ a hh (opX_snd hn he h1) (opX_snd hn he h2) (rcA_some hf)
  exact k1.wp (hq ρ' z w' k2 k3 k4)
end
noncomputable def orE (c d : Option OC) : Option OC := match c with
  | some c => some c
  | none => d
theorem orE_some {c d : Option OC} {e : OC} (h : orE c d = some e) : c = some e ∨ d = some e := by
  cases c with
  | some c => exact .inl h
  | none => exact .inr h

/-! ### the others: moves, picks, what is built, cuts of slices, functions made, builtins, calls -/
theorem thru_val {P : Program} {o : Oper} {s : Sem Value} {a : Act} {w w' : World} {y : Value} (he : execOp a.eval o = (do pure (Next.value (← s)))) (hr : s.run P w = .ok y w') : Thru P o a w y w' := .inl (by rw [he]; exact run_value hr)
theorem map_eval_toList (a : Act) (xs : Array Operand) {l : List Operand} (h : xs.toList = l) : xs.map a.eval = (l.map a.eval).toArray := by
  apply Array.ext'; simp [h]
noncomputable def copBuild (Y : TI) (G : Ctx) (E : Env) (n : Nat) (t : TypeId) (ps : List (Nat × Operand)) : Option OC :=
  match bplan Y t with
  | some (zs, places) => (opPs (fun i => places[i]?) zs.length G E n ps).map fun fs => .pu fun L T => Option.casesOn (fillV (evp fs L T) zs) none fun cs => some (.g cs)
  | none => none
theorem copBuild_snd {P : Program} {G : Ctx} {E : Env} {n : Nat} {o : Oper} {t : TypeId} {parts : Array (Nat × Operand)} (ho : o.op = .build t parts) {c : OC} (h : copBuild (tiOf P) G E n t parts.toList = some c) : OCS P G E n o c := by
  unfold copBuild at h
  split at h
  case h_2 => cases h
  rename_i zs places hb
  obtain ⟨fs, h1, rfl⟩ := Option.map_eq_some_iff.1 h
  intro ρ L T a v w hn he hf
  have hp := opPs_snd hn he h1
  cases hfl : fillV (evp fs L T) zs with
  | none => simp only [hfl] at hf; cases hf
  | some cs =>
    simp only [hfl] at hf
    injection hf with hf; subst hf
    obtain ⟨ys, k1, k2⟩ := built_of hb hp hfl
    refine ⟨.agg ys, thru_val (s := Instr.build t (parts.map fun (i, x) => (i, a.eval x))) (by unfold execOp; rw [ho]) (run_build w t _ ys ?_), VR_g k2⟩
    rw [Array.toList_map]; exact k1
noncomputable def copBsl (Y : TI) (G : Ctx) (E : Env) (n : Nat) (t : TypeId) (len : Nat) (ps : List (Nat × Operand)) : Option OC :=
  match splan Y t len with
  | some (es, zs) => (opPs (fun i => some (i * (es % 65536), es % 65536)) zs.length G E n ps).map fun fs => .al fun L T => bslV es len zs (evp fs L T)
  | none => none

theorem parts_bsl {es top : Nat} {ps : List (Nat × Nat × V)} {qs : List (Nat × Value)} (hp : F2 (fun p q => some (q.1 * (es % 65536), es % 65536) = some (p.1, p.2.1) ∧ p.1 + p.2.1 ≤ top ∧ VR ρ p.2.2 q.2) ps qs) :
    F2 (fun p q => p.1 = q.1 * (es % 65536) ∧ p.2.1 = es % 65536 ∧ p.1 + p.2.1 ≤ top ∧ VR ρ p.2.2 q.2) ps qs := by
  refine hp.imp fun p q hpq => ?_
  obtain ⟨h1, h2, h3⟩ := hpq
  rw [Option.some.injEq, Prod.mk.injEq] at h1
  exact ⟨h1.1.symm, h1.2.symm, h2, h3⟩
theorem exec_bsl (a : Act) {o : Oper} {t : TypeId} {len : Nat} {parts : Array (Nat × Operand)} (ho : o.op = .buildSlice t len parts) :
    execOp a.eval o = (do pure (Next.value (← Instr.buildSlice t len (parts.map fun (i, x) => (i, a.eval x))))) := by
  obtain ⟨dst, op, ty, ps, after, guard⟩ := o
  simp only at ho
  subst ho
  rfl
theorem copBsl_some {P : Program} {G : Ctx} {E : Env} {n : Nat} {t : TypeId} {len : Nat} {ps : List (Nat × Operand)} {c : OC} (h : copBsl (tiOf P) G E n t len ps = some c) :
    ∃ es zs fs, splan (tiOf P) t len = some (es, zs) ∧ opPs (fun i => some (i * (es % 65536), es % 65536)) zs.length G E n ps = some fs ∧ c = .al fun L T => bslV es len zs (evp fs L T) := by
  unfold copBsl at h
  generalize splan (tiOf P) t len = r at h
  cases r with
  | none => cases h
  | some p =>
    obtain ⟨es, zs⟩ := p
    obtain ⟨fs, h1, h2⟩ := Option.map_eq_some_iff.1 h
    exact ⟨es, zs, fs, rfl, h1, h2.symm⟩
theorem copBsl_snd {P : Program} {G : Ctx} {E : Env} {n : Nat} {o : Oper} {t : TypeId} {len : Nat} {parts : Array (Nat × Operand)} (ho : o.op = .buildSlice t len parts) {c : OC} (h : copBsl (tiOf P) G E n t len parts.toList = some c) : OCS P G E n o c := by
  obtain ⟨es, zs, fs, hb, h1, rfl⟩ := copBsl_some h
  intro ρ L T a v w hn he hf
  have hp2 := parts_bsl (opPs_snd hn he h1)
  have hq : (parts.map fun (i, x) => (i, a.eval x)).toList = parts.toList.map fun (i, x) => (i, a.eval x) := Array.toList_map ..
  rw [← hq] at hp2
  have hs := snd_bslV P hb w hp2 hf
  exact ⟨_, hs, fun y w' e => thru_val (exec_bsl a ho) e⟩
noncomputable def copSliceN (Y : TI) (G : Ctx) (E : Env) (n : Nat) (t : TypeId) (x : Operand) (lo hi mx : Option Operand) : Option OC :=
  match Y.und t with
  | some (.slice e) => match Y.inf e with
    | some i => if i.size < 65536 ∧ (mx.isSome = true → hi.isSome = true) then (match opX G E n x, xo G E n lo, xo G E n hi, xo G E n mx with
      | some f, some l, some h, some m => some (.ld fun L T bs => slL (e * 65536 + i.size) i.size bs (f L T) (evo l L T) (evo h L T) (evo m L T))
      | _, _, _, _ => none) else none
    | none => none
  | _ => none
theorem copSliceN_snd {P : Program} {G : Ctx} {E : Env} {n : Nat} {o : Oper} {t : TypeId} {x : Operand} {lo hi mx : Option Operand} (ho : o.op = .slice t x lo hi mx) {c : OC} (h : copSliceN (tiOf P) G E n t x lo hi mx = some c) : OCS P G E n o c := by
  unfold copSliceN at h
  split at h
  case h_2 => cases h
  rename_i e ht
  split at h
  case h_2 => cases h
  rename_i i hi'
  split at h
  case isFalse => cases h
  rename_i hc
  split at h
  case h_2 => cases h
  rename_i f l hh m h1 h2 h3 h4
  injection h with h; subst h
  intro ρ L T a nx bs v w hn he hH hf
  obtain ⟨y, k1, k2⟩ := snd_slL P ht hi' hH (opX_snd hn he h1) (xo_snd hn he h2) (xo_snd hn he h3) (xo_snd hn he h4) (by
    intro hm hn
    cases mx with
    | none => exact hm rfl
    | some z => cases hi with
      | none => exact absurd (hc.2 rfl) (by simp)
      | some u => cases hn) (ec := e * 65536 + i.size) (ty_mod hc.1) hf
  exact ⟨y, thru_val (s := Instr.sliceAt t (a.eval x) (lo.map a.eval) (hi.map a.eval) (mx.map a.eval)) (by unfold execOp; rw [ho]) k1, k2⟩
noncomputable def copSlice (Y : TI) (G : Ctx) (E : Env) (n : Nat) (t : TypeId) (x : Operand) (lo hi mx : Option Operand) : Option OC :=
  match lo, hi, mx with
  | none, some h, none => match Y.und t with
    | some (.slice e) => match Y.inf e with
      | some _ => x2 G E n x h fun f g => .pu fun L T => slH (f L T) (g L T)
      | none => none
    | _ => none
  | lo, hi, mx => copSliceN Y G E n t x lo hi mx
theorem copSlice_snd {P : Program} {G : Ctx} {E : Env} {n : Nat} {o : Oper} {t : TypeId} {x : Operand} {lo hi mx : Option Operand} (ho : o.op = .slice t x lo hi mx) {c : OC} (h : copSlice (tiOf P) G E n t x lo hi mx = some c) : OCS P G E n o c := by
  unfold copSlice at h
  split at h
  · rename_i h'
    split at h
    case h_2 => cases h
    rename_i e ht
    split at h
    case h_2 => cases h
    rename_i i hi'
    obtain ⟨f, g, h1, h2, rfl⟩ := x2_some h
    intro ρ L T a v w hn he hf
    obtain ⟨y, k1, k2⟩ := snd_slH P ht hi' ρ _ _ _ _ v w (opX_snd hn he h1) (opX_snd hn he h2) hf
    exact ⟨y, thru_val (s := Instr.sliceAt t (a.eval x) none (some (a.eval h')) none) (by unfold execOp; rw [ho]; rfl) k1, k2⟩
  · exact copSliceN_snd ho h
noncomputable def copMf (G : Ctx) (E : Env) (n : Nat) (fn : Fn) (first caps : List Operand) : Option OC :=
  match fn with
  | .func j => match first with
    | [] => (opXs G E n caps).map fun fs => .pu fun L T => some (.f (pos j) (evs fs L T))
    | _ => none
  | _ => none
theorem copMf_snd {P : Program} {G : Ctx} {E : Env} {n : Nat} {o : Oper} {fn : Fn} {first caps : Array Operand} (ho : o.op = .makeFunc fn first caps) {c : OC} (h : copMf G E n fn first.toList caps.toList = some c) : OCS P G E n o c := by
  unfold copMf at h
  split at h
  case h_2 => cases h
  rename_i j
  split at h
  case h_2 => cases h
  rename_i hfst
  obtain ⟨fs, h1, rfl⟩ := Option.map_eq_some_iff.1 h
  intro ρ L T a v w hn he hf
  injection hf with hf; subst hf
  have e0 : first = #[] := Array.ext' (by simpa using hfst)
  subst e0
  refine ⟨.func (.func j) #[] (caps.map a.eval), thru_val (s := Instr.makeFunc (.func j) (#[].map a.eval) (caps.map a.eval)) (by unfold execOp; rw [ho]) (by simp [Instr.makeFunc]), ?_⟩
  unfold VR
  exact ⟨j, rfl, rfl, rfl, by rw [Array.toList_map]; exact opXs_snd hn he h1⟩
noncomputable def copArr (Y : TI) (G : Ctx) (E : Env) (n : Nat) (t : TypeId) (x y : Operand) : Option OC :=
  match Y.und t with
  | some (.array len e) => match Y.inf e with
    | some i => if len ≤ 1099511627776 then x2 G E n x y fun f e => .pu fun L T => iaddA len i.size (f L T) (e L T) else none
    | none => none
  | _ => none
theorem copArr_snd {P : Program} {G : Ctx} {E : Env} {n : Nat} {o : Oper} {t : TypeId} {x y : Operand} (ho : o.op = .indexAddr t x y) {c : OC} (h : copArr (tiOf P) G E n t x y = some c) : OCS P G E n o c := by
  unfold copArr at h
  split at h
  case h_2 => cases h
  rename_i len e ht
  split at h
  case h_2 => cases h
  rename_i i hi'
  split at h
  case isFalse => cases h
  rename_i hc
  obtain ⟨f, g, h1, h2, rfl⟩ := x2_some h
  intro ρ L T a v w hn he hf
  obtain ⟨z, k1, k2⟩ := snd_iaddA P ht hc hi' ρ _ _ _ _ v w (opX_snd hn he h1) (opX_snd hn he h2) hf
  exact ⟨z, thru_val (s := Instr.indexAt t (a.eval x) (a.eval y)) (by unfold execOp; rw [ho]) k1, k2⟩
noncomputable def copBl (Y : TI) (G : Ctx) (E : Env) (n : Nat) (b : Builtin) (args : List Operand) (ts : List TypeId) : Option OC :=
  match args, ts with
  | [x], [t] => match blG Y b t with
    | some g => x1 G E n x fun f => .pu fun L T => g (f L T)
    | none => none
  | [x, y], [_, _] => match b with
    | .min => x2 G E n x y fun f e => .pu fun L T => minN (f L T) (e L T)
    | .max => x2 G E n x y fun f e => .pu fun L T => maxN (f L T) (e L T)
    | _ => none
  | _, _ => none
theorem copBl_snd {P : Program} {G : Ctx} {E : Env} {n : Nat} {o : Oper} {b : Builtin} {args : Array Operand} {ts : Array TypeId} (ho : o.op = .call { callee := .builtin b, args := args, argTypes := ts }) {c : OC} (h : copBl (tiOf P) G E n b args.toList ts.toList = some c) : OCS P G E n o c := by
  unfold copBl at h
  split at h
  · rename_i x t ha hts
    split at h
    case h_2 => cases h
    rename_i g hg
    obtain ⟨f, h1, rfl⟩ := x1_some h
    have ea : args = #[x] := Array.ext' (by simpa using ha)
    have et : ts = #[t] := Array.ext' (by simpa using hts)
    subst ea; subst et
    intro ρ L T a v w hn he hf
    obtain ⟨z, k1, k2⟩ := blG_snd P ho hg ρ a w (opX_snd hn he h1) hf
    exact ⟨z, .inl k1, k2⟩
  · rename_i x y t t2 ha hts
    have ea : args = #[x, y] := Array.ext' (by simpa using ha)
    have et : ts = #[t, t2] := Array.ext' (by simpa using hts)
    subst ea; subst et
    split at h
    · obtain ⟨f, e, h1, h2, rfl⟩ := x2_some h
      intro ρ L T a v w hn he hf
      obtain ⟨dst, op, ty, ps, after, guard⟩ := o
      simp only at ho
      subst ho
      obtain ⟨consts, hex⟩ := exec_builtin2 a .min x y t t2 dst ty ps after guard
      obtain ⟨z, k1, k2⟩ := snd_minN P #[t, t2] ty ρ _ _ _ _ v w (opX_snd hn he h1) (opX_snd hn he h2) hf
      exact ⟨z, thru_val (s := Builtin.min_ #[t, t2] ty #[a.eval x, a.eval y]) (by rw [hex]; rfl) k1, k2⟩
    · obtain ⟨f, e, h1, h2, rfl⟩ := x2_some h
      intro ρ L T a v w hn he hf
      obtain ⟨dst, op, ty, ps, after, guard⟩ := o
      simp only at ho
      subst ho
      obtain ⟨consts, hex⟩ := exec_builtin2 a .max x y t t2 dst ty ps after guard
      obtain ⟨z, k1, k2⟩ := snd_maxN P #[t, t2] ty ρ _ _ _ _ v w (opX_snd hn he h1) (opX_snd hn he h2) hf
      exact ⟨z, thru_val (s := Builtin.max_ #[t, t2] ty #[a.eval x, a.eval y]) (by rw [hex]; rfl) k1, k2⟩
    · cases h
  · cases h
noncomputable def copX (G : Ctx) (E : Env) (n : Nat) (k : XK) (args : List Operand) : Option OC :=
  match k, args with
  | .same, [y] => x1 G E n y fun f => .pu fun L T => some (f L T)
  | .cnt, [y, z] => x2 G E n y z fun f e => .pu fun L T => cntS (f L T) (e L T)
  | .ixb, [y, z] => x2 G E n y z fun f e => .pu fun L T => ixbS (f L T) (e L T)
  | .mnz ec, [y] => x1 G E n y fun f => .al fun L T => mnzV ec (f L T)
  | _, _ => none
theorem copX_snd {P : Program} {G : Ctx} {E : Env} {n : Nat} {o : Oper} {f0 : FuncId} {k : XK} (hok : XOk P f0 k) {args : Array Operand} {ts : Array TypeId} (ho : o.op = .call { callee := .value (.func f0), args := args, argTypes := ts }) {c : OC} (h : copX G E n k args.toList = some c) : OCS P G E n o c := by
  have thru : ∀ {a : Act} {e : Array Value → Sem Value} {w w' : World} {y : Value}, XRun P f0 e → (e (args.map a.eval)).run P w = .ok y w' → Thru P o a w y w' := by
    intro a e w w' y hx hr
    refine .inl ?_
    rw [exec_call a ho (j := f0) (xs := #[]) rfl, hx.run, Array.append_empty, hr]
    rfl
  unfold copX at h
  split at h
  · rename_i y ha
    obtain ⟨f, h1, rfl⟩ := x1_some h
    intro ρ L T a v w hn he hf
    injection hf with hf; subst hf
    refine ⟨a.eval y, thru hok ?_, opX_snd hn he h1⟩
    rw [map_eval_toList a args ha]; rfl
  · rename_i y z ha
    obtain ⟨f, e, h1, h2, rfl⟩ := x2_some h
    intro ρ L T a v w hn he hf
    obtain ⟨u, k1, k2⟩ := snd_cntS P ρ _ _ _ _ v w (opX_snd hn he h1) (opX_snd hn he h2) hf
    refine ⟨u, thru hok ?_, k2⟩
    rw [map_eval_toList a args ha]; exact k1
  · rename_i y z ha
    obtain ⟨f, e, h1, h2, rfl⟩ := x2_some h
    intro ρ L T a v w hn he hf
    obtain ⟨u, k1, k2⟩ := snd_ixbS P ρ _ _ _ _ v w (opX_snd hn he h1) (opX_snd hn he h2) hf
    refine ⟨u, thru hok ?_, k2⟩
    rw [map_eval_toList a args ha]; exact k1
  · rename_i ec y ha
    obtain ⟨f, h1, rfl⟩ := x1_some h
    obtain ⟨ps', t, e, hr, ht, rfl⟩ := hok
    intro ρ L T a v w hn he hf
    have hs := snd_mnzV P ps' ht w (opX_snd hn he h1) hf
    refine ⟨_, hs, fun u w' e => thru hr ?_⟩
    rw [map_eval_toList a args ha]; exact e
  · cases h
noncomputable def copF (G : Ctx) (E : Env) (n : Nat) (x : Operand) (args : List Operand) : Option OC :=
  match opX G E n x, opXs G E n args with
  | some f, some fs => some (.ef fun F L T nx bs => callV F (f L T) (evs fs L T) nx bs)
  | _, _ => none
theorem copF_snd {P : Program} {G : Ctx} {E : Env} {n : Nat} {o : Oper} {x : Operand} {args : Array Operand} {ts : Array TypeId} (ho : o.op = .call { callee := .value x, args := args, argTypes := ts }) {c : OC} (h : copF G E n x args.toList = some c) : OCS P G E n o c := by
  unfold copF at h
  split at h
  case h_2 => cases h
  rename_i f fs h1 h2
  injection h with h; subst h
  intro F hF ρ L T a nx nx' bs bs' v w hn he hH hf next Q hq
  obtain ⟨fid, cs, hfv, hcall⟩ := callV_some hf
  have hv := opX_snd hn he h1
  rw [hfv] at hv
  obtain ⟨j, xs, rfl, hx, hxs⟩ := hv.f
  have hargs := opXs_snd hn he h2
  have hall : VRs ρ (evs fs L T ++ cs) ((args.map a.eval ++ xs).toList) := by
    rw [Array.toList_append, Array.toList_map]
    exact hargs.append hxs
  obtain ⟨k1, k2⟩ := hF ρ j _ _ nx nx' bs bs' v w he.glob hall hH hcall
  unfold Oper.wp
  rw [exec_call a ho hx, k1, Oper.upon_enter]
  refine k2.mono ?_
  rintro e w' ⟨y, ρ', rfl, q1, q2, q3⟩
  exact hq ρ' y w' q1 q2 q3
noncomputable def copCall (Y : TI) (XT : Nat → Option XK) (G : Ctx) (E : Env) (n : Nat) (c : Call) : Option OC :=
  match c.callee with
  | .builtin b => copBl Y G E n b c.args.toList c.argTypes.toList
  | .value x => match x with
    | .func f => match XT f with
      | some k => copX G E n k c.args.toList
      | none => copF G E n (.func f) c.args.toList
    | x => copF G E n x c.args.toList
  | _ => none
theorem copCall_snd {P : Program} {XT : Nat → Option XK} (hX : ∀ f k, XT f = some k → XOk P f k) {G : Ctx} {E : Env} {n : Nat} {o : Oper} {cl : Call} (ho : o.op = .call cl) {c : OC} (h : copCall (tiOf P) XT G E n cl = some c) : OCS P G E n o c := by
  obtain ⟨callee, args, argTypes⟩ := cl
  unfold copCall at h
  simp only at h
  split at h
  · exact copBl_snd ho h
  · split at h
    · split at h
      · rename_i k hk
        exact copX_snd (hX _ _ hk) ho h
      · exact copF_snd ho h
    · exact copF_snd ho h
  · cases h
noncomputable def orB (Y : TI) (G : Ctx) (E : Env) (n : Nat) (op : BinOp) (t : TypeId) (x y : Operand) : Option OC := match op with
  | .or => match Y.und t with
    | some (.int .u8) => x2 G E n x y fun f e => .pu fun L T => orY (f L T) (e L T)
    | _ => none
  | _ => none
theorem orB_snd {P : Program} {G : Ctx} {E : Env} {n : Nat} {o : Oper} {op : BinOp} {t ty : TypeId} {x y : Operand} (ho : o.op = .binOp op t x y ty) {c : OC} (h : orB (tiOf P) G E n op t x y = some c) : OCS P G E n o c := by
  unfold orB at h
  split at h
  case h_2 => cases h
  split at h
  case h_2 => cases h
  obtain ⟨f, e, h1, h2, rfl⟩ := x2_some h
  intro ρ L T a v w hn he hf
  obtain ⟨z, k1, k2⟩ := snd_orY P t x y ρ _ _ _ _ v w (opX_snd hn he h1) (opX_snd hn he h2) hf
  exact ⟨z, thru_val (s := cbin .or t x y (a.eval x) (a.eval y)) (by unfold execOp; rw [ho]; rfl) k1, k2⟩
noncomputable def inB (Y : TI) (G : Ctx) (E : Env) (n : Nat) (op : UnOp) (t : TypeId) (x : Operand) : Option OC := match op with
  | .xor => x1 G E n x fun f => .pu fun L T => invN (f L T)
  | op => un1 Y G E n (.unOp op t x)
noncomputable def copN (Y : TI) (XT : Nat → Option XK) (G : Ctx) (E : Env) (n : Nat) (o : Op) : Option OC :=
  match o with
  | .move x => x1 G E n x fun f => .pu fun L T => some (f L T)
  | .assign x => x1 G E n x fun f => .pu fun L T => some (f L T)
  | .load t x => rd1 Y G E n (.load t x)
  | .store t x y => ef1 Y G E n (.store t x y)
  | .call c => orE (ef1 Y G E n (.call c)) (copCall Y XT G E n c)
  | .binOp op t x y ty => orE (tw1 Y G E n (.binOp op t x y ty)) (orB Y G E n op t x y)
  | .fieldAddr t x k => un1 Y G E n (.fieldAddr t x k)
  | .field t x k => un1 Y G E n (.field t x k)
  | .nilCheck x => un1 Y G E n (.nilCheck x)
  | .extract x k => un1 Y G E n (.extract x k)
  | .unOp op t x => inB Y G E n op t x
  | .indexAddr t x y => orE (tw1 Y G E n (.indexAddr t x y)) (copArr Y G E n t x y)
  | .index t x y => tw1 Y G E n (.index t x y)
  | .pick c x y => x3 G E n c x y fun f e d => .pu fun L T => pickB (f L T) (e L T) (d L T)
  | .alloc t => nw1 Y G E n (.alloc t)
  | .box t x => nw1 Y G E n (.box t x)
  | .makeSlice t x y => nw1 Y G E n (.makeSlice t x y)
  | .convert s d x => orE (un1 Y G E n (.convert s d x)) (orE (rd1 Y G E n (.convert s d x)) (nw1 Y G E n (.convert s d x)))
  | .build t ps => copBuild Y G E n t ps.toList
  | .buildSlice t len ps => copBsl Y G E n t len ps.toList
  | .slice t x lo hi mx => orE (cs1 Y G E n (.slice t x lo hi mx)) (copSlice Y G E n t x lo hi mx)
  | .makeFunc fn first caps => copMf G E n fn first.toList caps.toList
  | _ => none
theorem copN_snd {P : Program} {XT : Nat → Option XK} (hX : ∀ f k, XT f = some k → XOk P f k) {G : Ctx} {E : Env} {n : Nat} {o : Oper} {c : OC} (h : copN (tiOf P) XT G E n o.op = some c) : OCS P G E n o c := by
  unfold copN at h
  split at h
  · rename_i x ho
    obtain ⟨f, h1, rfl⟩ := x1_some h
    intro ρ L T a v w hn he hf
    injection hf with hf; subst hf
    exact ⟨a.eval x, .inl (by unfold execOp; rw [ho]; rfl), opX_snd hn he h1⟩
  · rename_i x ho
    obtain ⟨f, h1, rfl⟩ := x1_some h
    intro ρ L T a v w hn he hf
    injection hf with hf; subst hf
    exact ⟨a.eval x, .inl (by unfold execOp; rw [ho]; rfl), opX_snd hn he h1⟩
  · rename_i ho; rw [← ho] at h; exact rd1_snd h
  · rename_i ho; rw [← ho] at h; exact ef1_snd h
  · rename_i ho
    rcases orE_some h with h | h
    · rw [← ho] at h; exact ef1_snd h
    · exact copCall_snd hX ho h
  · rename_i ho
    rcases orE_some h with h | h
    · rw [← ho] at h; exact tw1_snd h
    · exact orB_snd ho h
  · rename_i ho; rw [← ho] at h; exact un1_snd h
  · rename_i ho; rw [← ho] at h; exact un1_snd h
  · rename_i ho; rw [← ho] at h; exact un1_snd h
  · rename_i ho; rw [← ho] at h; exact un1_snd h
  · rename_i op t x ho
    unfold inB at h
    split at h
    · obtain ⟨f, h1, rfl⟩ := x1_some h
      intro ρ L T a v w hn he hf
      obtain ⟨z, k1, k2⟩ := snd_invN P ρ _ _ v w (opX_snd hn he h1) hf
      exact ⟨z, thru_val (s := Op.unary .xor (a.eval x)) (by unfold execOp; rw [ho]) k1, k2⟩
    · rw [← ho] at h; exact un1_snd h
  · rename_i ho
    rcases orE_some h with h | h
    · rw [← ho] at h; exact tw1_snd h
    · exact copArr_snd ho h
  · rename_i ho; rw [← ho] at h; exact tw1_snd h
  · rename_i c' x y ho
    obtain ⟨f, e, d, h1, h2, h3, rfl⟩ := x3_some h
    intro ρ L T a v w hn he hf
    obtain ⟨z, k1, k2⟩ := pick_snd P ho ρ a w (opX_snd hn he h1) (opX_snd hn he h2) (opX_snd hn he h3) hf
    exact ⟨z, .inl k1, k2⟩
  · rename_i ho; rw [← ho] at h; exact nw1_snd h
  · rename_i ho; rw [← ho] at h; exact nw1_snd h
  · rename_i ho; rw [← ho] at h; exact nw1_snd h
  · rename_i ho
    rw [← ho] at h
    rcases orE_some h with h | h
    · exact un1_snd h
    · rcases orE_some h with h | h
      · exact rd1_snd h
      · exact nw1_snd h
  · rename_i ho; exact copBuild_snd ho h
  · rename_i ho; exact copBsl_snd ho h
  · rename_i ho
    rcases orE_some h with h | h
    · rw [← ho] at h; exact cs1_snd h
    · exact copSlice_snd ho h
  · rename_i ho; exact copMf_snd ho h
  · cases h

/-! ### atoms -/
noncomputable def isA (v : V) : Bool := asA v false fun _ _ => true
noncomputable def atB (tab : ATab) (op : BinOp) (x y : V) : Option V := cond (or (isA x) (isA y)) (tab.bin op x y) none
noncomputable def atC (tab : ATab) (k : IntKind) (x : V) : Option V := cond (isA x) (tab.cvt k x) none
noncomputable def atL (x : V) : Option V := asA x none fun k id => cond (Nat.beq k 1) (some (.a 0 id)) none
theorem atB_snd {P : Program} {G : Ctx} (hg : GR G ρ) {op : BinOp} {t : TypeId} {ox oy : Operand} {v v' r : V} {x x' : Value} {w : World} (hv : VR ρ v x) (hv' : VR ρ v' x') (hf : atB G.tab op v v' = some r) : ∃ y, (cbin op t ox oy x x').run P w = .ok y w ∧ VR ρ r y :=
  hg.ok.bin ρ hg.valR op v v' r (cond_some hf).2 P t ox oy w x x' hv hv'
theorem atL_snd (P : Program) {t ty e : TypeId} (ht : P.underlying t = some (.slice e)) {v r : V} {x : Value} {w : World} (hv : VR ρ v x) (hf : atL v = some r) : ∃ y, (Builtin.len_ #[t] ty #[x]).run P w = .ok y w ∧ VR ρ r y := by
  obtain ⟨k, id, ea, h1⟩ := asA_some hf
  obtain ⟨hk, h2⟩ := cond_some h1
  have hk := Nat.eq_of_beq_eq_true hk
  injection h2 with h2; subst h2
  subst ea; subst hk
  obtain ⟨q, hq, hat⟩ := hv.a
  unfold AtR at hat
  split at hat
  · rename_i he; cases he
  · rename_i a len cap he
    obtain ⟨rfl, hle, -⟩ := hat
    refine ⟨.int .i64 q.n, ?_, ?_⟩
    · unfold Builtin.len_
      simp [run_underlying P w ht, goInt]
    · unfold VR
      refine ⟨q, hq, ?_⟩
      show IntKind.i64 = IntKind.i64 ∧ q.n < 18446744073709551616 ∧ (q.n : Int) = IntKind.i64.wrap q.n
      refine ⟨rfl, by omega, ?_⟩
      rw [wrap_n q.n (by omega), if_pos (by omega)]
  · rename_i he; cases he
  · rename_i he; omega
  · exact hat.elim
theorem atL_some {v r : V} (hf : atL v = some r) : ∃ id, v = .a 1 id := by
  obtain ⟨k, id, ea, h1⟩ := asA_some hf
  obtain ⟨hk, -⟩ := cond_some h1
  have hk := Nat.eq_of_beq_eq_true hk
  subst hk
  exact ⟨id, ea⟩
noncomputable def atBW (A : ATab) (op : BinOp) (x y : V) : Option V := cond (or (isA x) (isA y)) (A.bin op x y) (binW A op x y)
theorem atBW_snd {P : Program} {G : Ctx} (hg : GR G ρ) {op : BinOp} {t : TypeId} {ox oy : Operand} {v v' r : V} {x x' : Value} {w : World} (hv : VR ρ v x) (hv' : VR ρ v' x') (hf : atBW G.tab op v v' = some r) : ∃ y, (cbin op t ox oy x x').run P w = .ok y w ∧ VR ρ r y := by
  unfold atBW at hf
  cases e : or (isA v) (isA v') with
  | true => rw [e, cond_true] at hf; exact hg.ok.bin ρ hg.valR op v v' r hf P t ox oy w x x' hv hv'
  | false => rw [e, cond_false] at hf; exact binW_snd hg.ok hg.valR hv hv' hf
/-- Texts with unknown bytes stay what they are. -/
noncomputable def idW (x : V) : Option V := asW x none fun cs => some (.w cs)
theorem snd_idW (P : Program) {src dst : TypeId} {ds : TypeDesc} (hs : P.underlying src = some ds) (hd : P.underlying dst = some .string) : Snd1 P idW (convert src dst) := by
  intro ρ v x r w hv hf
  obtain ⟨cs, rfl, h1⟩ := asW_some hf
  injection h1 with h1; subst h1
  obtain ⟨l, rfl, h2⟩ := wOf_snd (v := .w cs) (cs := cs) rfl hv
  obtain ⟨y, k1, k2⟩ := snd_cvSS P hs hd ρ _ _ _ w (VR_str (ρ := ρ) l) rfl
  rw [k2.str] at k1
  exact ⟨_, k1, hv⟩
abbrev F3 := List V → TS → Option V
noncomputable def no3 : F3 := fun _ _ => none
noncomputable def u3 (G : Ctx) (E : Env) (n : Nat) (x : Operand) (g : V → Option V) : F3 := match opX G E n x with
  | some f => fun L T => g (f L T)
  | none => no3
noncomputable def b3 (G : Ctx) (E : Env) (n : Nat) (x y : Operand) (g : V → V → Option V) : F3 := match opX G E n x, opX G E n y with
  | some f, some e => fun L T => g (f L T) (e L T)
  | _, _ => no3
noncomputable def t3 (G : Ctx) (E : Env) (n : Nat) (x y z : Operand) (g : V → V → V → Option V) : F3 := match opX G E n x, opX G E n y, opX G E n z with
  | some f, some e, some d => fun L T => g (f L T) (e L T) (d L T)
  | _, _, _ => no3
noncomputable def cop3 (Y : TI) (XT : Nat → Option XK) (G : Ctx) (E : Env) (n : Nat) (o : Op) : F3 :=
  match o with
  | .binOp op t x y _ => match Y.und t with
    | some (.struct fs) => if Y.sih t = false ∧ Y.egt t = false then (match eplan Y fs.toList with
      | some ps => b3 G E n x y (eqGA G.tab ps op)
      | none => no3) else no3
    | _ => b3 G E n x y (atBW G.tab op)
  | .index t x y => match Y.und t with
    | some .string => b3 G E n x y idxW
    | _ => no3
  | .slice t x lo hi mx => match Y.und t with
    | some .string => match lo, hi, mx with
      | some l, some h, none => t3 G E n x l h slW
      | some l, none, none => b3 G E n x l slW1
      | none, some h, none => b3 G E n x h slW2
      | _, _, _ => no3
    | _ => no3
  | .call c => match c.callee with
    | .builtin b => match b, c.args.toList, c.argTypes.toList with
      | .len, [x], [t] => match Y.und t with
        | some (.slice _) => u3 G E n x atL
        | some .string => u3 G E n x lenW
        | _ => no3
      | _, _, _ => no3
    | .value (.func f) => match XT f, c.args.toList with
      | some .cnt, [y, z] => b3 G E n y z (cntW G.tab)
      | some .ixb, [y, z] => b3 G E n y z (ixbW G.tab)
      | _, _ => no3
    | _ => no3
  | .convert src dst x => match Y.und src, Y.und dst with
    | some (.int _), some (.int k) => u3 G E n x (atC G.tab k)
    | some .string, some .string => u3 G E n x idW
    | _, _ => no3
  | _ => no3
theorem no3_snd {P : Program} {G : Ctx} {E : Env} {n : Nat} {o : Oper} : OCS P G E n o (.pu no3) := by
  intro ρ L T a v w hn he hf; cases hf
theorem u3_snd {P : Program} {G : Ctx} {E : Env} {n : Nat} {o : Oper} {x : Operand} {g : V → Option V} (h : ∀ (ρ : Rho) (a : Act) (w : World) (v r : V), GR G ρ → VR ρ v (a.eval x) → g v = some r → ∃ y, Thru P o a w y w ∧ VR ρ r y) : OCS P G E n o (.pu (u3 G E n x g)) := by
  unfold u3
  split
  · rename_i f h1
    intro ρ L T a v w hn he hf
    exact h ρ a w _ v he.glob (opX_snd hn he h1) hf
  · exact no3_snd
theorem b3_snd {P : Program} {G : Ctx} {E : Env} {n : Nat} {o : Oper} {x y : Operand} {g : V → V → Option V} (h : ∀ (ρ : Rho) (a : Act) (w : World) (v v' r : V), GR G ρ → VR ρ v (a.eval x) → VR ρ v' (a.eval y) → g v v' = some r → ∃ z, Thru P o a w z w ∧ VR ρ r z) : OCS P G E n o (.pu (b3 G E n x y g)) := by
  unfold b3
  split
  · rename_i f e h1 h2
    intro ρ L T a v w hn he hf
    exact h ρ a w _ _ v he.glob (opX_snd hn he h1) (opX_snd hn he h2) hf
  · exact no3_snd
theorem t3_snd {P : Program} {G : Ctx} {E : Env} {n : Nat} {o : Oper} {x y z : Operand} {g : V → V → V → Option V} (h : ∀ (ρ : Rho) (a : Act) (w : World) (v v' v2 r : V), GR G ρ → VR ρ v (a.eval x) → VR ρ v' (a.eval y) → VR ρ v2 (a.eval z) → g v v' v2 = some r → ∃ u, Thru P o a w u w ∧ VR ρ r u) : OCS P G E n o (.pu (t3 G E n x y z g)) := by
  unfold t3
  split
  · rename_i f e d h1 h2 h3
    intro ρ L T a v w hn he hf
    exact h ρ a w _ _ _ v he.glob (opX_snd hn he h1) (opX_snd hn he h2) (opX_snd hn he h3) hf
  · exact no3_snd
theorem cop3_snd {P : Program} {XT : Nat → Option XK} (hX : ∀ f k, XT f = some k → XOk P f k) {G : Ctx} {E : Env} {n : Nat} {o : Oper} : OCS P G E n o (.pu (cop3 (tiOf P) XT G E n o.op)) := by
  unfold cop3
  split
  · rename_i op t x y ty ho
    split
    · rename_i fs hu
      have hu : P.underlying t = some (.struct fs) := hu
      have hf : P.fieldsOf t = fs := by unfold Program.fieldsOf; rw [hu]
      have hu' : P.underlying t = some (.struct (P.fieldsOf t)) := by rw [hf]; exact hu
      split
      · rename_i hc
        split
        · rename_i ps hp
          rw [← hf] at hp
          refine b3_snd fun ρ a w v v' r hg hv hv' hr => ?_
          obtain ⟨z, k1, k2⟩ := eqGA_snd hg.ok hg.valR P (ox := x) (oy := y) (w := w) hu' hc.1 hc.2 hp hv hv' hr
          exact ⟨z, thru_val (s := cbin op t x y (a.eval x) (a.eval y)) (by unfold execOp; rw [ho]; rfl) k1, k2⟩
        · exact no3_snd
      · exact no3_snd
    · refine b3_snd fun ρ a w v v' r hg hv hv' hr => ?_
      obtain ⟨z, k1, k2⟩ := atBW_snd (P := P) (t := t) (ox := x) (oy := y) (w := w) hg hv hv' hr
      exact ⟨z, thru_val (s := cbin op t x y (a.eval x) (a.eval y)) (by unfold execOp; rw [ho]; rfl) k1, k2⟩
  · rename_i t x y ho
    split
    · rename_i hu
      refine b3_snd fun ρ a w v v' r hg hv hv' hr => ?_
      obtain ⟨z, k1, k2⟩ := snd_idxW P hu ρ _ _ _ _ r w hv hv' hr
      exact ⟨z, thru_val (s := Instr.index t (a.eval x) (a.eval y)) (by unfold execOp; rw [ho]) k1, k2⟩
    · exact no3_snd
  · rename_i t x lo hi mx ho
    split
    · rename_i hu
      split
      · refine t3_snd fun ρ a w v v' v2 r hg hv hv' hv2 hr => ?_
        obtain ⟨z, k1, k2⟩ := snd_slW P hu (w := w) hv hv' hv2 hr
        exact ⟨z, thru_val (by unfold execOp; rw [ho]; rfl) k1, k2⟩
      · refine b3_snd fun ρ a w v v' r hg hv hv' hr => ?_
        obtain ⟨z, k1, k2⟩ := snd_slW1 P hu (w := w) hv hv' hr
        exact ⟨z, thru_val (by unfold execOp; rw [ho]; rfl) k1, k2⟩
      · refine b3_snd fun ρ a w v v' r hg hv hv' hr => ?_
        obtain ⟨z, k1, k2⟩ := snd_slW2 P hu (w := w) hv hv' hr
        exact ⟨z, thru_val (by unfold execOp; rw [ho]; rfl) k1, k2⟩
      · exact no3_snd
    · exact no3_snd
  · rename_i c ho
    obtain ⟨callee, args, argTypes⟩ := c
    simp only
    split
    · rename_i b
      split
      · rename_i x t ha hts
        have ea : args = #[x] := Array.ext' (by simpa using ha)
        have et : argTypes = #[t] := Array.ext' (by simpa using hts)
        subst ea; subst et
        obtain ⟨dst, op, ty, ps, after, guard⟩ := o
        simp only at ho
        subst ho
        split
        · rename_i e ht
          refine u3_snd fun ρ a w v r hg hv hr => ?_
          obtain ⟨consts, hex⟩ := exec_builtin1 a .len x t dst ty ps after guard
          obtain ⟨z, k1, k2⟩ := atL_snd P (ty := ty) (w := w) ht hv hr
          exact ⟨z, thru_val (s := Builtin.len_ #[t] ty #[a.eval x]) (by rw [hex]; rfl) k1, k2⟩
        · rename_i ht
          refine u3_snd fun ρ a w v r hg hv hr => ?_
          obtain ⟨consts, hex⟩ := exec_builtin1 a .len x t dst ty ps after guard
          obtain ⟨z, k1, k2⟩ := snd_lenW P (ty := ty) ht ρ _ _ r w hv hr
          exact ⟨z, thru_val (s := Builtin.len_ #[t] ty #[a.eval x]) (by rw [hex]; rfl) k1, k2⟩
        · exact no3_snd
      · exact no3_snd
    · rename_i f
      have thru : ∀ {a : Act} {e : Array Value → Sem Value} {w w' : World} {y : Value}, XRun P f e → (e (args.map a.eval)).run P w = .ok y w' → Thru P o a w y w' := by
        intro a e w w' y hx hr
        refine .inl ?_
        rw [exec_call a ho (j := f) (xs := #[]) rfl, hx.run, Array.append_empty, hr]
        rfl
      split
      · rename_i y z hxt ha
        refine b3_snd fun ρ a w v v' r hg hv hv' hr => ?_
        obtain ⟨u, k1, k2⟩ := snd_cntW (P := P) (w := w) hg.ok hg.valR hv hv' hr
        refine ⟨u, thru (hX _ _ hxt) ?_, k2⟩
        rw [map_eval_toList a args ha]; exact k1
      · rename_i y z hxt ha
        refine b3_snd fun ρ a w v v' r hg hv hv' hr => ?_
        obtain ⟨u, k1, k2⟩ := snd_ixbW (P := P) (w := w) hg.ok hg.valR hv hv' hr
        refine ⟨u, thru (hX _ _ hxt) ?_, k2⟩
        rw [map_eval_toList a args ha]; exact k1
      · exact no3_snd
    · exact no3_snd
  · rename_i src dst x ho
    split
    · rename_i ks k hs hd
      refine u3_snd fun ρ a w v r hg hv hr => ?_
      obtain ⟨j, z, hx, hr2⟩ := hg.ok.cvt ρ hg.valR k _ r (cond_some hr).2 _ hv
      refine ⟨_, thru_val (s := convert src dst (a.eval x)) (by unfold execOp; rw [ho]) ?_, hr2⟩
      rw [hx]
      exact run_convert_int P w hs hd
    · rename_i hs hd
      refine u3_snd fun ρ a w v r hg hv hr => ?_
      obtain ⟨z, k1, k2⟩ := snd_idW P hs hd ρ _ _ r w hv hr
      exact ⟨z, thru_val (s := convert src dst (a.eval x)) (by unfold execOp; rw [ho]) k1, k2⟩
    · exact no3_snd
  · exact no3_snd
noncomputable def orP (c : OC) (f : List V → TS → Option V) : OC := match c with
  | .pu g => .pu fun L T => Option.casesOn (g L T) (f L T) some
  | c => c
theorem orP_snd {P : Program} {G : Ctx} {E : Env} {n : Nat} {o : Oper} {c : OC} {f : List V → TS → Option V} (hc : OCS P G E n o c) (hf : OCS P G E n o (.pu f)) : OCS P G E n o (orP c f) := by
  cases c with
  | pu g =>
    intro ρ L T a v w hn he hr
    cases hg : g L T with
    | none => simp only [hg] at hr; exact hf ρ L T a v w hn he hr
    | some v' => simp only [hg] at hr; injection hr with hr; subst hr; exact hc ρ L T a v' w hn he hg
  | _ => exact hc
/-- What nothing is known of ends the run. -/
noncomputable def failO : OC := .pu fun _ _ => none
theorem failO_snd {P : Program} {G : Ctx} {E : Env} {n : Nat} {o : Oper} : OCS P G E n o failO := by
  intro ρ L T a v w hn he hf; cases hf
noncomputable def cop (Y : TI) (XT : Nat → Option XK) (G : Ctx) (E : Env) (n : Nat) (o : Op) : OC :=
  match G.at_, copN Y XT G E n o with
  | false, some c => c
  | false, none => failO
  | true, some c => orP c (cop3 Y XT G E n o)
  | true, none => .pu (cop3 Y XT G E n o)
theorem cop_snd {P : Program} {XT : Nat → Option XK} (hX : ∀ f k, XT f = some k → XOk P f k) {G : Ctx} {E : Env} {n : Nat} {o : Oper} : OCS P G E n o (cop (tiOf P) XT G E n o.op) := by
  unfold cop
  split
  · rename_i c _ hc; exact copN_snd hX hc
  · exact failO_snd
  · rename_i c _ hc; exact orP_snd (copN_snd hX hc) (cop3_snd hX)
  · exact cop3_snd hX

end Go.Proofs.YtmbnogellhoheaaGreatDoor.Ev
