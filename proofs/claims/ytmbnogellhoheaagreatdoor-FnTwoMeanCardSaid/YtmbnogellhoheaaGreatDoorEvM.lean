/- Further comparisons: nil interfaces, structs, the same pointer. -/
import Derived.Test.YtmbnogellhoheaaGreatDoorEvK
import Derived.Laws.StructEq
import Derived.LaidEql
import Derived.Laws.IdiomStrings
namespace Go.Proofs.YtmbnogellhoheaaGreatDoor.Ev
open Go
variable {ρ : Rho}

/-! ### nil interfaces -/
noncomputable def eqlI (x y : V) : Option V := asI x none (asI y none (some (.b true)))
noncomputable def neqI (x y : V) : Option V := asI x none (asI y none (some (.b false)))
def isCon : Operand → Bool
  | .const _ => true
  | _ => false
theorem run_eqGuard_nil (P : Program) (w : World) (op : BinOp) (t : TypeId) {ox oy : Operand} (h : (isCon ox || isCon oy) = true) : (eqGuard op t ox oy .nilIface .nilIface).run P w = .ok () w := by
  unfold eqGuard
  cases ox <;> cases oy <;> simp [isCon] at h <;> cases op <;> simp
theorem run_eql_nilI (P : Program) (w : World) {t : TypeId} {ms : Array (String × TypeId)} (ht : P.underlying t = some (.interface ms)) : (Op.equal t .nilIface .nilIface).run P w = .ok true w := by
  unfold Op.equal Op.maxDepth Op.equalIn
  simp [run_underlying P w ht]
theorem snd_eqlI (P : Program) {t : TypeId} {ms : Array (String × TypeId)} {ox oy : Operand} (hc : (isCon ox || isCon oy) = true) (ht : P.underlying t = some (.interface ms)) : Snd2 P eqlI (cbin .eql t ox oy) := by
  intro ρ v v' x x' r w hv hv' hf
  obtain ⟨ea, h1⟩ := asI_some hf
  obtain ⟨eb, h2⟩ := asI_some h1
  subst ea; subst eb
  have := hv.i0; subst this
  have := hv'.i0; subst this
  injection h2 with h2; subst h2
  exact ⟨_, run_cbin_eql P w t ox oy _ _ _ (run_eqGuard_nil P w _ t hc) rfl (run_eql_nilI P w ht), VR_b rfl⟩
theorem snd_neqI (P : Program) {t : TypeId} {ms : Array (String × TypeId)} {ox oy : Operand} (hc : (isCon ox || isCon oy) = true) (ht : P.underlying t = some (.interface ms)) : Snd2 P neqI (cbin .neq t ox oy) := by
  intro ρ v v' x x' r w hv hv' hf
  obtain ⟨ea, h1⟩ := asI_some hf
  obtain ⟨eb, h2⟩ := asI_some h1
  subst ea; subst eb
  have := hv.i0; subst this
  have := hv'.i0; subst this
  injection h2 with h2; subst h2
  exact ⟨_, run_cbin_neq P w t ox oy _ _ _ (run_eqGuard_nil P w _ t hc) rfl (run_eql_nilI P w ht), VR_b rfl⟩

/-! ### structs of numbers and strings -/
/-- The fields to compare: their places, and whether they are strings. -/
noncomputable def eqF (ps : List (Nat × Bool)) (xs ys : List V) : Option Bool :=
  List.rec (motive := fun _ => Option Bool) (some true) (fun p _ ih => Option.casesOn (nthO p.1 xs) none fun a => Option.casesOn (nthO p.1 ys) none fun b =>
    Bool.rec (asN a none fun m => asN b none fun n => cond (Nat.beq m n) ih (some false)) (asS a none fun l m => asS b none fun l' m' => cond (and (Nat.beq l l') (Nat.beq m m')) ih (some false)) p.2) ps
noncomputable def eqlG (ps : List (Nat × Bool)) (x y : V) : Option V := asG x none fun xs => asG y none fun ys => Option.casesOn (eqF ps xs ys) none fun c => some (.b c)
noncomputable def neqG (ps : List (Nat × Bool)) (x y : V) : Option V := asG x none fun xs => asG y none fun ys => Option.casesOn (eqF ps xs ys) none fun c => some (.b (not c))
/-- The plan of a struct's fields. -/
def eplan (Y : TI) : List Field → Option (List (Nat × Bool))
  | [] => some []
  | f :: fs => if f.name = "_" then none else match Y.und f.type with
    | some (.int .i64) => (eplan Y fs).map ((f.offset, false) :: ·)
    | some .string => (eplan Y fs).map ((f.offset, true) :: ·)
    | _ => none
theorem eqF_cons (p : Nat × Bool) (ps : List (Nat × Bool)) (xs ys : List V) : eqF (p :: ps) xs ys = Option.casesOn (nthO p.1 xs) none fun a => Option.casesOn (nthO p.1 ys) none fun b =>
    Bool.rec (asN a none fun m => asN b none fun n => cond (Nat.beq m n) (eqF ps xs ys) (some false)) (asS a none fun l m => asS b none fun l' m' => cond (and (Nat.beq l l') (Nat.beq m m')) (eqF ps xs ys) (some false)) p.2 := rfl
theorem wrap_inj {m n : Nat} (hm : m < 18446744073709551616) (hn : n < 18446744073709551616) (h : IntKind.i64.wrap m = IntKind.i64.wrap n) : m = n := by
  rw [wrap_n m hm, wrap_n n hn] at h
  split at h <;> split at h <;> omega
theorem eqF_snd (P : Program) (w : World) (d : Nat) : ∀ (fs : List Field) (ps : List (Nat × Bool)) (cs ds : List V) (xs ys : Array Value) (c : Bool), eplan (tiOf P) fs = some ps → VRs ρ cs xs.toList → VRs ρ ds ys.toList → eqF ps cs ds = some c →
    (Op.eqFields (d + 1) xs ys fs).run P w = .ok c w
  | [], ps, cs, ds, xs, ys, c, hp, hx, hy, hf => by
    simp only [eplan] at hp; injection hp with hp; subst hp
    have hf : some true = some c := hf
    injection hf with hf; subst hf
    simp [Op.eqFields]
  | f :: fs, ps, cs, ds, xs, ys, c, hp, hx, hy, hf => by
    simp only [eplan] at hp
    split at hp
    · simp at hp
    rename_i hname
    have step : ∀ (b : Bool) (ps' : List (Nat × Bool)), ps = (f.offset, b) :: ps' → ∃ a a' y y', nthO f.offset cs = some a ∧ nthO f.offset ds = some a' ∧ xs[f.offset]? = some y ∧ ys[f.offset]? = some y' ∧ VR ρ a y ∧ VR ρ a' y' ∧
        (Bool.rec (asN a none fun m => asN a' none fun n => cond (Nat.beq m n) (eqF ps' cs ds) (some false)) (asS a none fun l m => asS a' none fun l' m' => cond (and (Nat.beq l l') (Nat.beq m m')) (eqF ps' cs ds) (some false)) b : Option Bool) = some c := by
      rintro b ps' rfl
      rw [eqF_cons] at hf
      cases h1 : nthO f.offset cs with
      | none => simp only [h1] at hf; cases hf
      | some a =>
        cases h2 : nthO f.offset ds with
        | none => simp only [h1, h2] at hf; cases hf
        | some a' =>
          simp only [h1, h2] at hf
          rw [nthO_eq] at h1 h2
          obtain ⟨y, hy1, hy2⟩ := hx.get _ _ h1
          obtain ⟨y', hy1', hy2'⟩ := hy.get _ _ h2
          exact ⟨a, a', y, y', rfl, rfl, by simpa using hy1, by simpa using hy1', hy2, hy2', hf⟩
    split at hp
    · rename_i hu
      obtain ⟨ps', hp', e⟩ := Option.map_eq_some_iff.1 hp
      obtain ⟨a, a', y, y', -, -, hy1, hy1', hv, hv', hf0⟩ := step _ _ e.symm
      have hf' : (asN a none fun m => asN a' none fun n => cond (Nat.beq m n) (eqF ps' cs ds) (some false)) = some c := hf0
      clear hf0
      obtain ⟨m, em, h4⟩ := asN_some hf'
      obtain ⟨n, en, h3⟩ := asN_some h4
      clear h4 hf'
      subst em; subst en
      obtain ⟨hm, rfl⟩ := hv.n
      obtain ⟨hn, rfl⟩ := hv'.n
      have hs : scal (tiOf P) f.type = true := by unfold scal; dsimp only [tiOf]; rw [hu]
      have hname' : f.name ≠ "_" := hname
      have r3 := run_equalIn_int (P := P) w d f.type .i64 .i64 (IntKind.i64.wrap m) (IntKind.i64.wrap n) hu
      by_cases hmn : m = n
      · rw [beq_yes hmn, cond_true] at h3
        have ih := eqF_snd P w d fs ps' cs ds xs ys c hp' hx hy h3
        subst hmn
        simp [Op.eqFields, hname', run_part_scal P w hs xs _ _ hy1, run_part_scal P w hs ys _ _ hy1', r3, ih]
      · rw [beq_no hmn, cond_false] at h3
        injection h3 with h3; subst h3
        have hne : ¬ (IntKind.i64.wrap (m : Int) = IntKind.i64.wrap (n : Int)) := fun h => hmn (wrap_inj hm hn h)
        simp [Op.eqFields, hname', run_part_scal P w hs xs _ _ hy1, run_part_scal P w hs ys _ _ hy1', r3, hne]
    · rename_i hu
      obtain ⟨ps', hp', e⟩ := Option.map_eq_some_iff.1 hp
      obtain ⟨a, a', y, y', -, -, hy1, hy1', hv, hv', hf0⟩ := step _ _ e.symm
      have hf' : (asS a none fun l m => asS a' none fun l' m' => cond (and (Nat.beq l l') (Nat.beq m m')) (eqF ps' cs ds) (some false)) = some c := hf0
      clear hf0
      obtain ⟨l, m, em, h4⟩ := asS_some hf'
      obtain ⟨l', m', en, h3⟩ := asS_some h4
      clear h4 hf'
      subst em; subst en
      obtain ⟨s, rfl, hl, hm⟩ := hv.s
      obtain ⟨s', rfl, hl', hm'⟩ := hv'.s
      have hs : scal (tiOf P) f.type = true := by unfold scal; dsimp only [tiOf]; rw [hu]
      have hname' : f.name ≠ "_" := hname
      have r3 := run_equalIn_string (P := P) w d f.type s s' hu
      have e2 : (s.toList == s'.toList) = and (Nat.beq l l') (Nat.beq m m') := by
        rw [ByteArray.toList_eq, ByteArray.toList_eq, list_eq_dec, hl, hl', hm, hm']
      rw [e2] at r3
      cases hc : and (Nat.beq l l') (Nat.beq m m') with
      | true =>
        rw [hc, cond_true] at h3
        rw [hc] at r3
        have ih := eqF_snd P w d fs ps' cs ds xs ys c hp' hx hy h3
        simp [Op.eqFields, hname', run_part_scal P w hs xs _ _ hy1, run_part_scal P w hs ys _ _ hy1', r3, ih]
      | false =>
        rw [hc, cond_false] at h3
        rw [hc] at r3
        injection h3 with h3; subst h3
        simp [Op.eqFields, hname', run_part_scal P w hs xs _ _ hy1, run_part_scal P w hs ys _ _ hy1', r3]
    · simp at hp

theorem snd_eqlG (P : Program) {t : TypeId} {ps : List (Nat × Bool)} (ox oy : Operand) (ht : P.underlying t = some (.struct (P.fieldsOf t))) (hst : P.stoodInHeld t = false) (hg : P.eqGuardType P.depth t = false) (hp : eplan (tiOf P) (P.fieldsOf t).toList = some ps) :
    Snd2 P (eqlG ps) (cbin .eql t ox oy) := by
  intro ρ v v' x x' r w hv hv' hf
  obtain ⟨cs, ea, h1⟩ := asG_some hf
  obtain ⟨ds, eb, h2⟩ := asG_some h1
  subst ea; subst eb
  obtain ⟨xs, rfl, hx⟩ := hv.g
  obtain ⟨ys, rfl, hy⟩ := hv'.g
  cases hc : eqF ps cs ds with
  | none => simp only [hc] at h2; cases h2
  | some c =>
    simp only [hc] at h2
    injection h2 with h2; subst h2
    have r := eqF_snd P w 9998 _ _ _ _ _ _ _ hp hx hy hc
    refine ⟨.bool c, ?_, VR_b rfl⟩
    unfold cbin
    rw [Sem.run_bind, run_eqGuard_agg w _ _ _ _ _ _ hg, Result.andThen_ok, run_eql_struct, run_equalIn_struct w 9999 t xs ys ht hst, r]
    rfl
theorem snd_neqG (P : Program) {t : TypeId} {ps : List (Nat × Bool)} (ox oy : Operand) (ht : P.underlying t = some (.struct (P.fieldsOf t))) (hst : P.stoodInHeld t = false) (hg : P.eqGuardType P.depth t = false) (hp : eplan (tiOf P) (P.fieldsOf t).toList = some ps) :
    Snd2 P (neqG ps) (cbin .neq t ox oy) := by
  intro ρ v v' x x' r w hv hv' hf
  obtain ⟨cs, ea, h1⟩ := asG_some hf
  obtain ⟨ds, eb, h2⟩ := asG_some h1
  subst ea; subst eb
  obtain ⟨xs, rfl, hx⟩ := hv.g
  obtain ⟨ys, rfl, hy⟩ := hv'.g
  cases hc : eqF ps cs ds with
  | none => simp only [hc] at h2; cases h2
  | some c =>
    simp only [hc] at h2
    injection h2 with h2; subst h2
    have r := eqF_snd P w 9998 _ _ _ _ _ _ _ hp hx hy hc
    refine ⟨.bool (!c), ?_, VR_b rfl⟩
    unfold cbin
    rw [Sem.run_bind, run_eqGuard_agg w _ _ _ _ _ _ hg, Result.andThen_ok, run_neq_struct, run_equalIn_struct w 9999 t xs ys ht hst, r]
    rfl

/-! ### the same pointer -/
/-- Pointers to one place; or one of the two is none. -/
noncomputable def samP (f : Bool → V) (x y : V) : Option V := asPs x none (asPs y none (some (f true)) fun _ _ => some (f false)) fun i o => asPs y none (some (f false)) fun i' o' => cond (Nat.beq i.val i'.val) (cond (Nat.beq o o') (some (f true)) none) none
theorem samP_cases (P : Program) (w : World) {t e : TypeId} {i : TypeInfo} (ht : P.underlying t = some (.pointer e)) (hi : P.info? e = some i) {f : Bool → V} {x y r : V} (h : samP f x y = some r) {a b : Value} (hx : VR ρ x a) (hy : VR ρ y b) :
    ∃ p q c, a = .pointer p ∧ b = .pointer q ∧ (Op.equal t a b).run P w = .ok c w ∧ r = f c := by
  rcases asPs_some h with ⟨ea, h1⟩ | ⟨i1, o1, ea, h1⟩ <;> subst ea <;> rcases asPs_some h1 with ⟨eb, h2⟩ | ⟨i2, o2, eb, h2⟩ <;> subst eb
  · have := hx.p0; have := hy.p0; subst_vars; injection h2 with h2; exact ⟨none, none, true, rfl, rfl, run_eql_nilP P w ht none none (.inl rfl), h2.symm⟩
  · have := hx.p0; obtain ⟨_, _, e⟩ := hy.p; subst_vars; injection h2 with h2; exact ⟨none, some _, false, rfl, rfl, run_eql_nilP P w ht none (some _) (.inl rfl), h2.symm⟩
  · have := hy.p0; obtain ⟨_, _, e⟩ := hx.p; subst_vars; injection h2 with h2; exact ⟨some _, none, false, rfl, rfl, run_eql_nilP P w ht (some _) none (.inr rfl), h2.symm⟩
  · obtain ⟨g1, h3⟩ := cond_some h2
    obtain ⟨g2, h4⟩ := cond_some h3
    clear h3 h2 h1
    have e1 := Pos.val_inj _ _ (Nat.eq_of_beq_eq_true g1)
    have e2 := Nat.eq_of_beq_eq_true g2
    injection h4 with h3
    obtain ⟨q1, hq1, rfl⟩ := hx.p
    obtain ⟨q2, hq2, rfl⟩ := hy.p
    subst e1; subst e2
    rw [hq1] at hq2; injection hq2 with hq2; subst hq2
    refine ⟨some _, some _, true, rfl, rfl, ?_, h3.symm⟩
    unfold Op.equal Op.maxDepth Op.equalIn
    simp [run_underlying P w ht, run_sizeOf P w hi, run_sameAddr_same]
theorem snd_eqlPP (P : Program) {t e : TypeId} {i : TypeInfo} (ox oy : Operand) (ht : P.underlying t = some (.pointer e)) (hi : P.info? e = some i) : Snd2 P (samP fun c => .b c) (cbin .eql t ox oy) := by
  intro ρ v v' x x' r w hv hv' hf
  obtain ⟨p, q, c, rfl, rfl, h, rfl⟩ := samP_cases P w ht hi hf hv hv'
  exact ⟨_, run_cbin_eql P w t ox oy _ _ _ (eqGuard_pointer P w ..) rfl h, VR_b rfl⟩
theorem snd_neqPP (P : Program) {t e : TypeId} {i : TypeInfo} (ox oy : Operand) (ht : P.underlying t = some (.pointer e)) (hi : P.info? e = some i) : Snd2 P (samP fun c => .b (not c)) (cbin .neq t ox oy) := by
  intro ρ v v' x x' r w hv hv' hf
  obtain ⟨p, q, c, rfl, rfl, h, rfl⟩ := samP_cases P w ht hi hf hv hv'
  exact ⟨_, run_cbin_neq P w t ox oy _ _ _ (eqGuard_pointer P w ..) rfl h, VR_b rfl⟩

end Go.Proofs.YtmbnogellhoheaaGreatDoor.Ev

/- Texts and bytes: append of a text, conversions, copies. -/
namespace Go.Proofs.YtmbnogellhoheaaGreatDoor.Ev
open Go
variable {ρ : Rho}

/-! ### the bytes of a text as cells -/
theorem strV_succ (l m : Nat) : strV (l + 1) m = .y (Nat.mod m 256) :: strV l (Nat.div m 256) := rfl
theorem strV_VRs : ∀ (bs : List UInt8), VRs ρ (strV bs.length (enc bs)) (bs.map byteVal)
  | [] => by simp [strV, VRs]
  | b :: r => by
    rw [List.length_cons, strV_succ]
    have hb : b.toNat < 256 := b.toNat_lt
    have e1 : Nat.mod (enc (b :: r)) 256 = b.toNat := by show (b.toNat + 256 * enc r) % 256 = b.toNat; omega
    have e2 : Nat.div (enc (b :: r)) 256 = enc r := by show (b.toNat + 256 * enc r) / 256 = enc r; omega
    rw [e1, e2]
    simp only [List.map_cons, VRs]
    exact ⟨VR_y hb, strV_VRs r⟩
theorem strV_len (l : Nat) : ∀ m, (strV l m).length = l := by
  induction l with
  | zero => intro m; rfl
  | succ l ih => intro m; rw [strV_succ, List.length_cons, ih]

theorem extract_all (s : ByteArray) : (s.extract 0 s.size).data = s.data := by
  rw [ByteArray.data_extract]
  apply Array.ext'
  simp
  have : s.data.toList.length = s.size := data_len s
  rw [← this, List.take_length]
theorem src_string (P : Program) (w : World) {t2 : TypeId} (ht2 : P.underlying t2 = some .string) (s : ByteArray) : Src P w t2 (.string s) 1 s.data.toList.length (s.data.toList.map byteVal) := by
  have hc : (Builtin.firstCells 1 s.data.toList.length (.string s)) = pure ((s.data.toList.map byteVal).toArray) := by
    rw [data_len]
    show (pure ((s.extract 0 s.size).data.map fun b => Value.int .u8 b.toNat) : Sem (Array Value)) = _
    rw [extract_all]
    congr 1
    apply Array.ext'
    simp [byteVal]
  refine ⟨⟨_, ht2, .inr rfl⟩, ?_, by simp, ?_, ?_⟩
  · rw [data_len]; rfl
  · rw [hc]; rfl
  · rw [hc]; rfl
theorem snd_appY (P : Program) {t t2 ty e : TypeId} {i : TypeInfo} {z : Value} (ok : AppOk P t e i z) (h1 : i.size = 1) (ht2 : P.underlying t2 = some .string) {nx nx' : Pos} {bs bs' : TB} {w : World} (hh : HR ρ nx bs w) {v v' r : V} {x x' : Value} (hv : VR ρ v x) (hv' : VR ρ v' x')
    (hf : appY (e * 65536 + 1) nx bs v v' = some (.mk r nx' bs')) :
    ∃ y w' ρ', (Builtin.append_ #[t, t2] ty #[x, x']).run P w = .ok y w' ∧ VR ρ' r y ∧ HR ρ' nx' bs' w' ∧ Ext ρ nx bs w ρ' nx' bs' w' := by
  obtain ⟨l, m, ev, h2⟩ := asS_some hf
  subst ev
  obtain ⟨s, rfl, hl, hm⟩ := hv'.s
  have hsrc := src_string P w ht2 s
  rw [hl, ← h1] at hsrc
  cases hl0 : Nat.beq l 0 with
  | true =>
    rw [hl0, cond_true] at h2
    have := Nat.eq_of_beq_eq_true hl0; subst this
    have e0 : s.data.toList = [] := List.length_eq_zero_iff.1 hl
    rw [e0] at hsrc
    exact snd_app0 P ok hh hv hsrc h2
  | false =>
    rw [hl0, cond_false] at h2
    have hl0 : l ≠ 0 := fun h => by rw [beq_yes h] at hl0; simp at hl0
    obtain ⟨g, h2⟩ := cond_some h2
    have g : l ≤ 1048576 := Nat.le_of_ble_eq_true g
    have hs := strV_VRs (ρ := ρ) s.data.toList
    rw [hl, hm] at hs
    refine snd_appC P ok hh hv (b := 0) (ds := into (strV l m) .e 1) hsrc hl0 (fun j hj => ?_) (by rw [h1]; exact h2)
    rw [h1, Nat.mul_one] at hj
    have hjl : j < (strV l m).length := by rw [strV_len]; exact hj
    obtain ⟨x, hx, hxv⟩ := hs.get j _ (List.getElem?_eq_getElem hjl)
    refine ⟨x, hx, ?_⟩
    rw [Nat.zero_add, into_at' (strV l m) j _ (List.getElem?_eq_getElem hjl) (by rw [strV_len]; omega)]
    exact hxv

/-! ### a text's bytes as a new slice -/
noncomputable def cvSL (ec : Nat) (x : V) : Option NV := asS x none fun l m => cond (Nat.ble l 1048576) (some (.l ec l 0 (strV l m))) none
theorem snd_cvSL (P : Program) {src dst e : TypeId} (hs : P.underlying src = some .string) (hd : P.underlying dst = some (.slice e)) (he : P.underlying e = some (.int .u8)) (w : World) {v : V} {x : Value} (hv : VR ρ v x) {n : NV}
    (hf : cvSL (e * 65536 + 1) v = some n) : NSnd ρ w n ((convert src dst x).run P w) := by
  obtain ⟨l, m, ev, h2⟩ := asS_some hf
  subst ev
  obtain ⟨s, rfl, hl, hm⟩ := hv.s
  obtain ⟨g, h2⟩ := cond_some h2
  have g : l ≤ 1048576 := Nat.le_of_ble_eq_true g
  injection h2 with h2; subst h2
  have hge := grownCap_ge w s.size 0 e
  have hsl : s.size = l := by rw [← data_len]; exact hl
  have hsz : (bytesRow s (grownCap w s.size 0 e)).size = grownCap w s.size 0 e := by
    unfold bytesRow
    simp
    have : s.data.size = s.size := rfl
    omega
  have hstr := strV_VRs (ρ := ρ) s.data.toList
  rw [hl, hm] at hstr
  refine ⟨_, _, bytesRow s (grownCap w s.size 0 e), ((bytesRow s (grownCap w s.size 0 e)).size, (bytesRow s (grownCap w s.size 0 e)).size + 1), run_bytes_of_string w src dst e s hs hd he, ⟨rfl, rfl⟩, ?_, ?_, fun k c hk => ?_, fun k hk h => by omega, fun ρ' id hid => ?_⟩
  · have e7 : (e * 65536 + 1) / 65536 = e := (ty_div (by decide : 1 < 65536)).symm
    show w.heap.push _ = w.heap.push (.cells _ ((e * 65536 + 1) / 65536) _)
    rw [e7]
  · show (strV l m).length ≤ _; rw [strV_len]; omega
  · obtain ⟨x, hx, hxv⟩ := hstr.get k c hk
    refine ⟨x, ?_, hxv⟩
    have hkl : k < s.data.size := by
      have := (List.getElem?_eq_some_iff.1 hx).1
      simpa using this
    unfold bytesRow
    rw [Array.getElem?_append_left (by simpa using hkl)]
    simpa [byteVal] using hx
  · show VR ρ' (.l id 0 l 0) _
    unfold VR
    refine ⟨hsl, by omega, fun h => absurd rfl h, _, 0, hid, rfl, .inr rfl, fun _ => .inr ?_⟩
    show 0 + _ * ((e * 65536 + 1) % 65536) ≤ _
    rw [ty_mod (by decide : 1 < 65536), hsz, Nat.mul_one, Nat.zero_add]; exact Nat.le_refl _

/-! ### a slice's bytes as a text -/
noncomputable def bytesV (L : List V) : Option Nat := List.rec (motive := fun _ => Option Nat) (some 0) (fun c _ ih => asY c none fun m => Option.casesOn ih none fun t => some (Nat.add m (Nat.mul 256 t))) L
noncomputable def cvLS (bs : TB) (x : V) : Option V := asL x none (some (.s 0 0)) fun i o l _ => cond (Nat.beq l 0) (some (.s 0 0))
  (bk bs i fun _ sz cs => cond (Nat.ble (Nat.add o l) sz) (Option.casesOn (bytesV (cs.take l (Nat.succ o))) none fun m => some (.s l m)) none)
theorem bytesV_spec : ∀ (cs : List V) (xs : List Value) (t : Nat), VRs ρ cs xs → bytesV cs = some t → ∃ bs : List UInt8, xs = bs.map byteVal ∧ enc bs = t
  | [], [], t, _, h => ⟨[], rfl, by injection h⟩
  | [], _ :: _, t, hv, _ => by simp [VRs] at hv
  | _ :: _, [], t, hv, _ => by simp [VRs] at hv
  | c :: cs, x :: xs, t, hv, h => by
    simp only [VRs] at hv
    have h : (asY c none fun m => Option.casesOn (bytesV cs) none fun t => some (Nat.add m (Nat.mul 256 t))) = some t := h
    obtain ⟨m, ec, h2⟩ := asY_some h
    cases hb : bytesV cs with
    | none => simp only [hb] at h2; cases h2
    | some t' =>
      simp only [hb] at h2
      injection h2 with h2
      obtain ⟨bs, e1, e2⟩ := bytesV_spec cs xs t' hv.2 hb
      have hy := hv.1
      subst ec
      obtain ⟨hm, rfl⟩ := hy.y
      refine ⟨UInt8.ofNat m :: bs, ?_, ?_⟩
      · rw [List.map_cons, e1]; unfold byteVal; simp; omega
      · show (UInt8.ofNat m).toNat + 256 * enc bs = t
        rw [e2, ← h2]
        have : (UInt8.ofNat m).toNat = m := by simp; omega
        rw [this]; rfl
theorem snd_cvLS (P : Program) {src dst e : TypeId} (hs : P.underlying src = some (.slice e)) (he : P.underlying e = some (.int .u8)) (hd : P.underlying dst = some .string) {nx : Pos} {bs : TB} {w : World} (hh : HR ρ nx bs w) {v r : V} {x : Value} (hv : VR ρ v x)
    (hf : cvLS bs v = some r) : ∃ y, (convert src dst x).run P w = .ok y w ∧ VR ρ r y := by
  have zero : ∀ (a : Option Addr) (c : Nat), ∃ y, (convert src dst (.slice a 0 c)).run P w = .ok y w ∧ VR ρ (.s 0 0) y := fun a c => by
    refine ⟨.string ByteArray.empty, ?_, VR_s rfl rfl⟩
    cases a with
    | none => rw [run_convert_bytes_string w src dst e none 0 c hs he hd]; rfl
    | some a =>
      have := run_convert_bytes_back (P := P) w src dst e a c [] hs he hd (fun j hj => by simp at hj)
      exact this
  rcases asL_some hf with ⟨ev, h1⟩ | ⟨id, o, l, c, ev, h1⟩
  · subst ev
    have := hv.l0; subst this
    injection h1 with h1; subst h1
    exact zero none 0
  · subst ev
    obtain ⟨q, z, cap, hq, rfl, hlc, -, hz, -⟩ := hv.l
    cases hl0 : Nat.beq l 0 with
    | true =>
      rw [hl0, cond_true] at h1
      have := Nat.eq_of_beq_eq_true hl0; subst this
      injection h1 with h1; subst h1
      exact zero _ _
    | false =>
      rw [hl0, cond_false] at h1
      have hl0 : l ≠ 0 := fun h => by rw [beq_yes h] at hl0; simp at hl0
      have hz : z = q.o + o := hz.resolve_left (by omega)
      obtain ⟨es, sz, cs, hl, h1⟩ := bk_some h1
      obtain ⟨g, h1⟩ := cond_some h1
      have g : o + l ≤ sz := Nat.le_of_ble_eq_true g
      obtain ⟨q', hq', -, hbr⟩ := hh.live _ _ _ _ hl
      rw [hq] at hq'; injection hq' with hq'; subst hq'
      obtain ⟨vs, hvl, hvc, hvv⟩ := row_of hbr g
      have hvs : VRs ρ (cs.take l (o + 1)) vs := VRs.mk (by rw [TV.take_length, hvl]) fun k cv y hc hy => by
        have hk : k < l := by
          rcases Nat.lt_or_ge k l with hh | hh
          · exact hh
          · rw [List.getElem?_eq_none (by rw [TV.take_length]; exact hh)] at hc; simp at hc
        rw [TV.take_get cs _ _ k hk] at hc
        injection hc with hc; subst hc
        obtain ⟨y', hy', hyv⟩ := hvv k hk
        rw [hy] at hy'; injection hy' with hy'; subst hy'
        rw [show o + 1 + k = o + k + 1 by omega]; exact hyv
      have h1 : (Option.casesOn (bytesV (cs.take l (o + 1))) none fun m => some (V.s l m) : Option V) = some r := h1
      cases hb : bytesV (cs.take l (o + 1)) with
      | none => rw [hb] at h1; cases h1
      | some t =>
        rw [hb] at h1
        have h1 : some (V.s l t) = some r := h1
        injection h1 with h1; subst h1
        obtain ⟨by', e1, e2⟩ := bytesV_spec _ _ _ hvs hb
        have hbl : by'.length = l := by rw [← hvl, e1]; simp
        refine ⟨.string ⟨by'.toArray⟩, ?_, VR_s (by simpa using hbl) (by simpa using e2)⟩
        have := run_convert_bytes_back (P := P) w src dst e ⟨q.r, z, none⟩ cap by' hs he hd (fun j hj => by
          rw [hz]
          refine hvc j _ ?_
          rw [e1, List.getElem?_map, List.getElem?_eq_getElem hj]; rfl)
        rw [hbl] at this
        exact this

end Go.Proofs.YtmbnogellhoheaaGreatDoor.Ev
