/- Further comparisons: nil interfaces, structs, the same pointer. -/
import Derived.Test.YtmbnogellhoheaaGreatDoorEvH
import Derived.Laws.StructEq
import Derived.LaidEql
import Derived.Laws.IdiomStrings
import Derived.Lib.UnsafeStr
import Derived.Lib.Builder
import Derived.Lib.MakeNoZero
import Derived.Lib.Bytealg
import Derived.Orders
namespace Go.Proofs.YtmbnogellhoheaaGreatDoor.Ev
open Go
variable {ρ : Rho}

/-! ### nil interfaces -/
noncomputable def eqlI (x y : V) : Option V := asI x none (asI y none (some (.b true)))
noncomputable def neqI (x y : V) : Option V := asI x none (asI y none (some (.b false)))
def isCon : Operand → Bool
  | .const _ => true
  | _ => false
theorem run_eqGuard_nil (P : Program) (w : World) (op : BinOp) (t : TypeId) {ox oy : Operand} (h : (isCon ox || isCon oy) = true) : (eqGuard op t ox oy .nilIface .nilIface).run P w = .ok () w := by
  unfold eqGuard
  cases ox <;> cases oy <;> simp [isCon] at h <;> cases op <;> simp
theorem run_eql_nilI (P : Program) (w : World) {t : TypeId} {ms : Array (String × TypeId)} (ht : P.underlying t = some (.interface ms)) : (Op.equal t .nilIface .nilIface).run P w = .ok true w := by
  unfold Op.equal Op.maxDepth Op.equalIn
  simp [run_underlying P w ht]
theorem snd_eqlI (P : Program) {t : TypeId} {ms : Array (String × TypeId)} {ox oy : Operand} (hc : (isCon ox || isCon oy) = true) (ht : P.underlying t = some (.interface ms)) : Snd2 P eqlI (cbin .eql t ox oy) := by
  intro ρ v v' x x' r w hv hv' hf
  obtain ⟨ea, h1⟩ := asI_some hf
  obtain ⟨eb, h2⟩ := asI_some h1
  subst ea; subst eb
  have := hv.i0; subst this
  have := hv'.i0; subst this
  injection h2 with h2; subst h2
  exact ⟨_, run_cbin_eql P w t ox oy _ _ _ (run_eqGuard_nil P w _ t hc) rfl (run_eql_nilI P w ht), VR_b rfl⟩
theorem snd_neqI (P : Program) {t : TypeId} {ms : Array (String × TypeId)} {ox oy : Operand} (hc : (isCon ox || isCon oy) = true) (ht : P.underlying t = some (.interface ms)) : Snd2 P neqI (cbin .neq t ox oy) := by
  intro ρ v v' x x' r w hv hv' hf
  obtain ⟨ea, h1⟩ := asI_some hf
  obtain ⟨eb, h2⟩ := asI_some h1
  subst ea; subst eb
  have := hv.i0; subst this
  have := hv'.i0; subst this
  injection h2 with h2; subst h2
  exact ⟨_, run_cbin_neq P w t ox oy _ _ _ (run_eqGuard_nil P w _ t hc) rfl (run_eql_nilI P w ht), VR_b rfl⟩

/-! ### structs of numbers and strings -/
/-- The fields to compare: their places, and whether they are strings. -/
noncomputable def eqF (ps : List (Nat × Bool)) (xs ys : List V) : Option Bool :=
  List.rec (motive := fun _ => Option Bool) (some true) (fun p _ ih => Option.casesOn (nthO p.1 xs) none fun a => Option.casesOn (nthO p.1 ys) none fun b =>
    Bool.rec (asN a none fun m => asN b none fun n => cond (Nat.beq m n) ih (some false)) (asS a none fun l m => asS b none fun l' m' => cond (and (Nat.beq l l') (Nat.beq m m')) ih (some false)) p.2) ps
noncomputable def eqlG (ps : List (Nat × Bool)) (x y : V) : Option V := asG x none fun xs => asG y none fun ys => Option.casesOn (eqF ps xs ys) none fun c => some (.b c)
noncomputable def neqG (ps : List (Nat × Bool)) (x y : V) : Option V := asG x none fun xs => asG y none fun ys => Option.casesOn (eqF ps xs ys) none fun c => some (.b (not c))
/-- The plan of a struct's fields. -/
def eplan (Y : TI) : List Field → Option (List (Nat × Bool))
  | [] => some []
  | f :: fs => if f.name = "_" then none else match Y.und f.type with
    | some (.int .i64) => (eplan Y fs).map ((f.offset, false) :: ·)
    | some .string => (eplan Y fs).map ((f.offset, true) :: ·)
    | _ => none
theorem eqF_cons (p : Nat × Bool) (ps : List (Nat × Bool)) (xs ys : List V) : eqF (p :: ps) xs ys = Option.casesOn (nthO p.1 xs) none fun a => Option.casesOn (nthO p.1 ys) none fun b =>
    Bool.rec (asN a none fun m => asN b none fun n => cond (Nat.beq m n) (eqF ps xs ys) (some false)) (asS a none fun l m => asS b none fun l' m' => cond (and (Nat.beq l l') (Nat.beq m m')) (eqF ps xs ys) (some false)) p.2 := rfl
theorem wrap_inj {m n : Nat} (hm : m < 18446744073709551616) (hn : n < 18446744073709551616) (h : IntKind.i64.wrap m = IntKind.i64.wrap n) : m = n := by
  rw [wrap_n m hm, wrap_n n hn] at h
  split at h <;> split at h <;> omega
theorem eqF_snd (P : Program) (w : World) (d : Nat) : ∀ (fs : List Field) (ps : List (Nat × Bool)) (cs ds : List V) (xs ys : Array Value) (c : Bool), eplan (tiOf P) fs = some ps → VRs ρ cs xs.toList → VRs ρ ds ys.toList → eqF ps cs ds = some c →
    (Op.eqFields (d + 1) xs ys fs).run P w = .ok c w
  | [], ps, cs, ds, xs, ys, c, hp, hx, hy, hf => by
    simp only [eplan] at hp; injection hp with hp; subst hp
    have hf : some true = some c := hf
    injection hf with hf; subst hf
    simp [Op.eqFields]
  | f :: fs, ps, cs, ds, xs, ys, c, hp, hx, hy, hf => by
    simp only [eplan] at hp
    split at hp
    · simp at hp
    rename_i hname
    have step : ∀ (b : Bool) (ps' : List (Nat × Bool)), ps = (f.offset, b) :: ps' → ∃ a a' y y', nthO f.offset cs = some a ∧ nthO f.offset ds = some a' ∧ xs[f.offset]? = some y ∧ ys[f.offset]? = some y' ∧ VR ρ a y ∧ VR ρ a' y' ∧
        (Bool.rec (asN a none fun m => asN a' none fun n => cond (Nat.beq m n) (eqF ps' cs ds) (some false)) (asS a none fun l m => asS a' none fun l' m' => cond (and (Nat.beq l l') (Nat.beq m m')) (eqF ps' cs ds) (some false)) b : Option Bool) = some c := by
      rintro b ps' rfl
      rw [eqF_cons] at hf
      cases h1 : nthO f.offset cs with
      | none => simp only [h1] at hf; cases hf
      | some a =>
        cases h2 : nthO f.offset ds with
        | none => simp only [h1, h2] at hf; cases hf
        | some a' =>
          simp only [h1, h2] at hf
          rw [nthO_eq] at h1 h2
          obtain ⟨y, hy1, hy2⟩ := hx.get _ _ h1
          obtain ⟨y', hy1', hy2'⟩ := hy.get _ _ h2
          exact ⟨a, a', y, y', rfl, rfl, by simpa using hy1, by simpa using hy1', hy2, hy2', hf⟩
    split at hp
    · rename_i hu
      obtain ⟨ps', hp', e⟩ := Option.map_eq_some_iff.1 hp
      obtain ⟨a, a', y, y', -, -, hy1, hy1', hv, hv', hf0⟩ := step _ _ e.symm
      have hf' : (asN a none fun m => asN a' none fun n => cond (Nat.beq m n) (eqF ps' cs ds) (some false)) = some c := hf0
      clear hf0
      obtain ⟨m, em, h4⟩ := asN_some hf'
      obtain ⟨n, en, h3⟩ := asN_some h4
      clear h4 hf'
      subst em; subst en
      obtain ⟨hm, rfl⟩ := hv.n
      obtain ⟨hn, rfl⟩ := hv'.n
      have hs : scal (tiOf P) f.type = true := by unfold scal; dsimp only [tiOf]; rw [hu]
      have hname' : f.name ≠ "_" := hname
      have r3 := run_equalIn_int (P := P) w d f.type .i64 .i64 (IntKind.i64.wrap m) (IntKind.i64.wrap n) hu
      by_cases hmn : m = n
      · rw [beq_yes hmn, cond_true] at h3
        have ih := eqF_snd P w d fs ps' cs ds xs ys c hp' hx hy h3
        subst hmn
        simp [Op.eqFields, hname', run_part_scal P w hs xs _ _ hy1, run_part_scal P w hs ys _ _ hy1', r3, ih]
      · rw [beq_no hmn, cond_false] at h3
        injection h3 with h3; subst h3
        have hne : ¬ (IntKind.i64.wrap (m : Int) = IntKind.i64.wrap (n : Int)) := fun h => hmn (wrap_inj hm hn h)
        simp [Op.eqFields, hname', run_part_scal P w hs xs _ _ hy1, run_part_scal P w hs ys _ _ hy1', r3, hne]
    · rename_i hu
      obtain ⟨ps', hp', e⟩ := Option.map_eq_some_iff.1 hp
      obtain ⟨a, a', y, y', -, -, hy1, hy1', hv, hv', hf0⟩ := step _ _ e.symm
      have hf' : (asS a none fun l m => asS a' none fun l' m' => cond (and (Nat.beq l l') (Nat.beq m m')) (eqF ps' cs ds) (some false)) = some c := hf0
      clear hf0
      obtain ⟨l, m, em, h4⟩ := asS_some hf'
      obtain ⟨l', m', en, h3⟩ := asS_some h4
      clear h4 hf'
      subst em; subst en
      obtain ⟨s, rfl, hl, hm⟩ := hv.s
      obtain ⟨s', rfl, hl', hm'⟩ := hv'.s
      have hs : scal (tiOf P) f.type = true := by unfold scal; dsimp only [tiOf]; rw [hu]
      have hname' : f.name ≠ "_" := hname
      have r3 := run_equalIn_string (P := P) w d f.type s s' hu
      have e2 : (s.toList == s'.toList) = and (Nat.beq l l') (Nat.beq m m') := by
        rw [ByteArray.toList_eq, ByteArray.toList_eq, list_eq_dec, hl, hl', hm, hm']
      rw [e2] at r3
      cases hc : and (Nat.beq l l') (Nat.beq m m') with
      | true =>
        rw [hc, cond_true] at h3
        rw [hc] at r3
        have ih := eqF_snd P w d fs ps' cs ds xs ys c hp' hx hy h3
        simp [Op.eqFields, hname', run_part_scal P w hs xs _ _ hy1, run_part_scal P w hs ys _ _ hy1', r3, ih]
      | false =>
        rw [hc, cond_false] at h3
        rw [hc] at r3
        injection h3 with h3; subst h3
        simp [Op.eqFields, hname', run_part_scal P w hs xs _ _ hy1, run_part_scal P w hs ys _ _ hy1', r3]
    · simp at hp

theorem snd_eqlG (P : Program) {t : TypeId} {ps : List (Nat × Bool)} (ox oy : Operand) (ht : P.underlying t = some (.struct (P.fieldsOf t))) (hst : P.stoodInHeld t = false) (hg : P.eqGuardType P.depth t = false) (hp : eplan (tiOf P) (P.fieldsOf t).toList = some ps) :
    Snd2 P (eqlG ps) (cbin .eql t ox oy) := by
  intro ρ v v' x x' r w hv hv' hf
  obtain ⟨cs, ea, h1⟩ := asG_some hf
  obtain ⟨ds, eb, h2⟩ := asG_some h1
  subst ea; subst eb
  obtain ⟨xs, rfl, hx⟩ := hv.g
  obtain ⟨ys, rfl, hy⟩ := hv'.g
  cases hc : eqF ps cs ds with
  | none => simp only [hc] at h2; cases h2
  | some c =>
    simp only [hc] at h2
    injection h2 with h2; subst h2
    have r := eqF_snd P w 9998 _ _ _ _ _ _ _ hp hx hy hc
    refine ⟨.bool c, ?_, VR_b rfl⟩
    unfold cbin
    rw [Sem.run_bind, run_eqGuard_agg w _ _ _ _ _ _ hg, Result.andThen_ok, run_eql_struct, run_equalIn_struct w 9999 t xs ys ht hst, r]
    rfl
theorem snd_neqG (P : Program) {t : TypeId} {ps : List (Nat × Bool)} (ox oy : Operand) (ht : P.underlying t = some (.struct (P.fieldsOf t))) (hst : P.stoodInHeld t = false) (hg : P.eqGuardType P.depth t = false) (hp : eplan (tiOf P) (P.fieldsOf t).toList = some ps) :
    Snd2 P (neqG ps) (cbin .neq t ox oy) := by
  intro ρ v v' x x' r w hv hv' hf
  obtain ⟨cs, ea, h1⟩ := asG_some hf
  obtain ⟨ds, eb, h2⟩ := asG_some h1
  subst ea; subst eb
  obtain ⟨xs, rfl, hx⟩ := hv.g
  obtain ⟨ys, rfl, hy⟩ := hv'.g
  cases hc : eqF ps cs ds with
  | none => simp only [hc] at h2; cases h2
  | some c =>
    simp only [hc] at h2
    injection h2 with h2; subst h2
    have r := eqF_snd P w 9998 _ _ _ _ _ _ _ hp hx hy hc
    refine ⟨.bool (!c), ?_, VR_b rfl⟩
    unfold cbin
    rw [Sem.run_bind, run_eqGuard_agg w _ _ _ _ _ _ hg, Result.andThen_ok, run_neq_struct, run_equalIn_struct w 9999 t xs ys ht hst, r]
    rfl

/-! ### the same pointer -/
/-- Pointers to one place; or one of the two is none. -/
noncomputable def samP (f : Bool → V) (x y : V) : Option V := asPs x none (asPs y none (some (f true)) fun _ _ => some (f false)) fun i o => asPs y none (some (f false)) fun i' o' => cond (Nat.beq i.val i'.val) (cond (Nat.beq o o') (some (f true)) none) none
theorem samP_cases (P : Program) (w : World) {t e : TypeId} {i : TypeInfo} (ht : P.underlying t = some (.pointer e)) (hi : P.info? e = some i) {f : Bool → V} {x y r : V} (h : samP f x y = some r) {a b : Value} (hx : VR ρ x a) (hy : VR ρ y b) :
    ∃ p q c, a = .pointer p ∧ b = .pointer q ∧ (Op.equal t a b).run P w = .ok c w ∧ r = f c := by
  rcases asPs_some h with ⟨ea, h1⟩ | ⟨i1, o1, ea, h1⟩ <;> subst ea <;> rcases asPs_some h1 with ⟨eb, h2⟩ | ⟨i2, o2, eb, h2⟩ <;> subst eb
  · have := hx.p0; have := hy.p0; subst_vars; injection h2 with h2; exact ⟨none, none, true, rfl, rfl, run_eql_nilP P w ht none none (.inl rfl), h2.symm⟩
  · have := hx.p0; obtain ⟨_, _, e⟩ := hy.p; subst_vars; injection h2 with h2; exact ⟨none, some _, false, rfl, rfl, run_eql_nilP P w ht none (some _) (.inl rfl), h2.symm⟩
  · have := hy.p0; obtain ⟨_, _, e⟩ := hx.p; subst_vars; injection h2 with h2; exact ⟨some _, none, false, rfl, rfl, run_eql_nilP P w ht (some _) none (.inr rfl), h2.symm⟩
  · obtain ⟨g1, h3⟩ := cond_some h2
    obtain ⟨g2, h4⟩ := cond_some h3
    clear h3 h2 h1
    have e1 := Pos.val_inj _ _ (Nat.eq_of_beq_eq_true g1)
    have e2 := Nat.eq_of_beq_eq_true g2
    injection h4 with h3
    obtain ⟨q1, hq1, rfl⟩ := hx.p
    obtain ⟨q2, hq2, rfl⟩ := hy.p
    subst e1; subst e2
    rw [hq1] at hq2; injection hq2 with hq2; subst hq2
    refine ⟨some _, some _, true, rfl, rfl, ?_, h3.symm⟩
    unfold Op.equal Op.maxDepth Op.equalIn
    simp [run_underlying P w ht, run_sizeOf P w hi, run_sameAddr_same]
theorem snd_eqlPP (P : Program) {t e : TypeId} {i : TypeInfo} (ox oy : Operand) (ht : P.underlying t = some (.pointer e)) (hi : P.info? e = some i) : Snd2 P (samP fun c => .b c) (cbin .eql t ox oy) := by
  intro ρ v v' x x' r w hv hv' hf
  obtain ⟨p, q, c, rfl, rfl, h, rfl⟩ := samP_cases P w ht hi hf hv hv'
  exact ⟨_, run_cbin_eql P w t ox oy _ _ _ (eqGuard_pointer P w ..) rfl h, VR_b rfl⟩
theorem snd_neqPP (P : Program) {t e : TypeId} {i : TypeInfo} (ox oy : Operand) (ht : P.underlying t = some (.pointer e)) (hi : P.info? e = some i) : Snd2 P (samP fun c => .b (not c)) (cbin .neq t ox oy) := by
  intro ρ v v' x x' r w hv hv' hf
  obtain ⟨p, q, c, rfl, rfl, h, rfl⟩ := samP_cases P w ht hi hf hv hv'
  exact ⟨_, run_cbin_neq P w t ox oy _ _ _ (eqGuard_pointer P w ..) rfl h, VR_b rfl⟩

end Go.Proofs.YtmbnogellhoheaaGreatDoor.Ev

/- Texts and bytes: append of a text, conversions, copies. -/
namespace Go.Proofs.YtmbnogellhoheaaGreatDoor.Ev
open Go
variable {ρ : Rho}

/-! ### the bytes of a text as cells -/
theorem strV_succ (l m : Nat) : strV (l + 1) m = .y (Nat.mod m 256) :: strV l (Nat.div m 256) := rfl
theorem strV_VRs : ∀ (bs : List UInt8), VRs ρ (strV bs.length (enc bs)) (bs.map byteVal)
  | [] => by simp [strV, VRs]
  | b :: r => by
    rw [List.length_cons, strV_succ]
    have hb : b.toNat < 256 := b.toNat_lt
    have e1 : Nat.mod (enc (b :: r)) 256 = b.toNat := by show (b.toNat + 256 * enc r) % 256 = b.toNat; omega
    have e2 : Nat.div (enc (b :: r)) 256 = enc r := by show (b.toNat + 256 * enc r) / 256 = enc r; omega
    rw [e1, e2]
    simp only [List.map_cons, VRs]
    exact ⟨VR_y hb, strV_VRs r⟩
theorem strV_len (l : Nat) : ∀ m, (strV l m).length = l := by
  induction l with
  | zero => intro m; rfl
  | succ l ih => intro m; rw [strV_succ, List.length_cons, ih]

theorem extract_all (s : ByteArray) : (s.extract 0 s.size).data = s.data := by
  rw [ByteArray.data_extract]
  apply Array.ext'
  simp
  have : s.data.toList.length = s.size := data_len s
  rw [← this, List.take_length]
theorem src_string (P : Program) (w : World) {t2 : TypeId} (ht2 : P.underlying t2 = some .string) (s : ByteArray) : Src P w t2 (.string s) 1 s.data.toList.length (s.data.toList.map byteVal) := by
  have hc : (Builtin.firstCells 1 s.data.toList.length (.string s)) = pure ((s.data.toList.map byteVal).toArray) := by
    rw [data_len]
    show (pure ((s.extract 0 s.size).data.map fun b => Value.int .u8 b.toNat) : Sem (Array Value)) = _
    rw [extract_all]
    congr 1
    apply Array.ext'
    simp [byteVal]
  refine ⟨⟨_, ht2, .inr rfl⟩, ?_, by simp, ?_, ?_⟩
  · rw [data_len]; rfl
  · rw [hc]; rfl
  · rw [hc]; rfl
theorem snd_appY (P : Program) {t t2 ty e : TypeId} {i : TypeInfo} {z : Value} (ok : AppOk P t e i z) (h1 : i.size = 1) (ht2 : P.underlying t2 = some .string) {nx nx' : Pos} {bs bs' : TB} {w : World} (hh : HR ρ nx bs w) {v v' r : V} {x x' : Value} (hv : VR ρ v x) (hv' : VR ρ v' x')
    (hf : appY (e * 65536 + 1) nx bs v v' = some (.mk r nx' bs')) :
    ∃ y w' ρ', (Builtin.append_ #[t, t2] ty #[x, x']).run P w = .ok y w' ∧ VR ρ' r y ∧ HR ρ' nx' bs' w' ∧ Ext ρ nx bs w ρ' nx' bs' w' := by
  obtain ⟨l, m, ev, h2⟩ := asS_some hf
  subst ev
  obtain ⟨s, rfl, hl, hm⟩ := hv'.s
  have hsrc := src_string P w ht2 s
  rw [hl, ← h1] at hsrc
  cases hl0 : Nat.beq l 0 with
  | true =>
    rw [hl0, cond_true] at h2
    have := Nat.eq_of_beq_eq_true hl0; subst this
    have e0 : s.data.toList = [] := List.length_eq_zero_iff.1 hl
    rw [e0] at hsrc
    exact snd_app0 P ok hh hv hsrc h2
  | false =>
    rw [hl0, cond_false] at h2
    have hl0 : l ≠ 0 := fun h => by rw [beq_yes h] at hl0; simp at hl0
    obtain ⟨g, h2⟩ := cond_some h2
    have g : l ≤ 1048576 := Nat.le_of_ble_eq_true g
    have hs := strV_VRs (ρ := ρ) s.data.toList
    rw [hl, hm] at hs
    refine snd_appC P ok hh hv (b := 0) (ds := into (strV l m) .e 1) hsrc hl0 (fun j hj => ?_) (by rw [h1]; exact h2)
    rw [h1, Nat.mul_one] at hj
    have hjl : j < (strV l m).length := by rw [strV_len]; exact hj
    obtain ⟨x, hx, hxv⟩ := hs.get j _ (List.getElem?_eq_getElem hjl)
    refine ⟨x, hx, ?_⟩
    rw [Nat.zero_add, into_at' (strV l m) j _ (List.getElem?_eq_getElem hjl) (by rw [strV_len]; omega)]
    exact hxv

/-! ### a text's bytes as a new slice -/
noncomputable def cvSL (ec : Nat) (x : V) : Option NV := asS x none fun l m => cond (Nat.ble l 1048576) (some (.l ec l 0 (strV l m))) none
theorem snd_cvSL (P : Program) {src dst e : TypeId} (hs : P.underlying src = some .string) (hd : P.underlying dst = some (.slice e)) (he : P.underlying e = some (.int .u8)) (w : World) {v : V} {x : Value} (hv : VR ρ v x) {n : NV}
    (hf : cvSL (e * 65536 + 1) v = some n) : NSnd ρ w n ((convert src dst x).run P w) := by
  obtain ⟨l, m, ev, h2⟩ := asS_some hf
  subst ev
  obtain ⟨s, rfl, hl, hm⟩ := hv.s
  obtain ⟨g, h2⟩ := cond_some h2
  have g : l ≤ 1048576 := Nat.le_of_ble_eq_true g
  injection h2 with h2; subst h2
  have hge := grownCap_ge w s.size 0 e
  have hsl : s.size = l := by rw [← data_len]; exact hl
  have hsz : (bytesRow s (grownCap w s.size 0 e)).size = grownCap w s.size 0 e := by
    unfold bytesRow
    simp
    have : s.data.size = s.size := rfl
    omega
  have hstr := strV_VRs (ρ := ρ) s.data.toList
  rw [hl, hm] at hstr
  refine ⟨_, _, bytesRow s (grownCap w s.size 0 e), ((bytesRow s (grownCap w s.size 0 e)).size, (bytesRow s (grownCap w s.size 0 e)).size + 1), run_bytes_of_string w src dst e s hs hd he, ⟨rfl, rfl⟩, ?_, ?_, fun k c hk => ?_, fun k hk h => by omega, fun ρ' id hid => ?_⟩
  · have e7 : (e * 65536 + 1) / 65536 = e := (ty_div (by decide : 1 < 65536)).symm
    show w.heap.push _ = w.heap.push (.cells _ ((e * 65536 + 1) / 65536) _)
    rw [e7]
  · show (strV l m).length ≤ _; rw [strV_len]; omega
  · obtain ⟨x, hx, hxv⟩ := hstr.get k c hk
    refine ⟨x, ?_, hxv⟩
    have hkl : k < s.data.size := by
      have := (List.getElem?_eq_some_iff.1 hx).1
      simpa using this
    unfold bytesRow
    rw [Array.getElem?_append_left (by simpa using hkl)]
    simpa [byteVal] using hx
  · show VR ρ' (.l id 0 l 0) _
    unfold VR
    refine ⟨hsl, by omega, fun h => absurd rfl h, _, 0, hid, rfl, .inr rfl, fun _ => .inr ?_⟩
    show 0 + _ * ((e * 65536 + 1) % 65536) ≤ _
    rw [ty_mod (by decide : 1 < 65536), hsz, Nat.mul_one, Nat.zero_add]; exact Nat.le_refl _

/-! ### a slice's bytes as a text -/
noncomputable def bytesV (L : List V) : Option Nat := List.rec (motive := fun _ => Option Nat) (some 0) (fun c _ ih => asY c none fun m => Option.casesOn ih none fun t => some (Nat.add m (Nat.mul 256 t))) L
noncomputable def cvLS (bs : TB) (x : V) : Option V := asL x none (some (.s 0 0)) fun i o l _ => cond (Nat.beq l 0) (some (.s 0 0))
  (bk bs i fun _ sz cs => cond (Nat.ble (Nat.add o l) sz) (Option.casesOn (bytesV (cs.take l (Nat.succ o))) none fun m => some (.s l m)) none)
theorem bytesV_spec : ∀ (cs : List V) (xs : List Value) (t : Nat), VRs ρ cs xs → bytesV cs = some t → ∃ bs : List UInt8, xs = bs.map byteVal ∧ enc bs = t
  | [], [], t, _, h => ⟨[], rfl, by injection h⟩
  | [], _ :: _, t, hv, _ => by simp [VRs] at hv
  | _ :: _, [], t, hv, _ => by simp [VRs] at hv
  | c :: cs, x :: xs, t, hv, h => by
    simp only [VRs] at hv
    have h : (asY c none fun m => Option.casesOn (bytesV cs) none fun t => some (Nat.add m (Nat.mul 256 t))) = some t := h
    obtain ⟨m, ec, h2⟩ := asY_some h
    cases hb : bytesV cs with
    | none => simp only [hb] at h2; cases h2
    | some t' =>
      simp only [hb] at h2
      injection h2 with h2
      obtain ⟨bs, e1, e2⟩ := bytesV_spec cs xs t' hv.2 hb
      have hy := hv.1
      subst ec
      obtain ⟨hm, rfl⟩ := hy.y
      refine ⟨UInt8.ofNat m :: bs, ?_, ?_⟩
      · rw [List.map_cons, e1]; unfold byteVal; simp; omega
      · show (UInt8.ofNat m).toNat + 256 * enc bs = t
        rw [e2, ← h2]
        have : (UInt8.ofNat m).toNat = m := by simp; omega
        rw [this]; rfl
theorem snd_cvLS (P : Program) {src dst e : TypeId} (hs : P.underlying src = some (.slice e)) (he : P.underlying e = some (.int .u8)) (hd : P.underlying dst = some .string) {nx : Pos} {bs : TB} {w : World} (hh : HR ρ nx bs w) {v r : V} {x : Value} (hv : VR ρ v x)
    (hf : cvLS bs v = some r) : ∃ y, (convert src dst x).run P w = .ok y w ∧ VR ρ r y := by
  have zero : ∀ (a : Option Addr) (c : Nat), ∃ y, (convert src dst (.slice a 0 c)).run P w = .ok y w ∧ VR ρ (.s 0 0) y := fun a c => by
    refine ⟨.string ByteArray.empty, ?_, VR_s rfl rfl⟩
    cases a with
    | none => rw [run_convert_bytes_string w src dst e none 0 c hs he hd]; rfl
    | some a =>
      have := run_convert_bytes_back (P := P) w src dst e a c [] hs he hd (fun j hj => by simp at hj)
      exact this
  rcases asL_some hf with ⟨ev, h1⟩ | ⟨id, o, l, c, ev, h1⟩
  · subst ev
    have := hv.l0; subst this
    injection h1 with h1; subst h1
    exact zero none 0
  · subst ev
    obtain ⟨q, z, cap, hq, rfl, hlc, -, hz, -⟩ := hv.l
    cases hl0 : Nat.beq l 0 with
    | true =>
      rw [hl0, cond_true] at h1
      have := Nat.eq_of_beq_eq_true hl0; subst this
      injection h1 with h1; subst h1
      exact zero _ _
    | false =>
      rw [hl0, cond_false] at h1
      have hl0 : l ≠ 0 := fun h => by rw [beq_yes h] at hl0; simp at hl0
      have hz : z = q.o + o := hz.resolve_left (by omega)
      obtain ⟨es, sz, cs, hl, h1⟩ := bk_some h1
      obtain ⟨g, h1⟩ := cond_some h1
      have g : o + l ≤ sz := Nat.le_of_ble_eq_true g
      obtain ⟨q', hq', -, hbr⟩ := hh.live _ _ _ _ hl
      rw [hq] at hq'; injection hq' with hq'; subst hq'
      obtain ⟨vs, hvl, hvc, hvv⟩ := row_of hbr g
      have hvs : VRs ρ (cs.take l (o + 1)) vs := VRs.mk (by rw [TV.take_length, hvl]) fun k cv y hc hy => by
        have hk : k < l := by
          rcases Nat.lt_or_ge k l with hh | hh
          · exact hh
          · rw [List.getElem?_eq_none (by rw [TV.take_length]; exact hh)] at hc; simp at hc
        rw [TV.take_get cs _ _ k hk] at hc
        injection hc with hc; subst hc
        obtain ⟨y', hy', hyv⟩ := hvv k hk
        rw [hy] at hy'; injection hy' with hy'; subst hy'
        rw [show o + 1 + k = o + k + 1 by omega]; exact hyv
      have h1 : (Option.casesOn (bytesV (cs.take l (o + 1))) none fun m => some (V.s l m) : Option V) = some r := h1
      cases hb : bytesV (cs.take l (o + 1)) with
      | none => rw [hb] at h1; cases h1
      | some t =>
        rw [hb] at h1
        have h1 : some (V.s l t) = some r := h1
        injection h1 with h1; subst h1
        obtain ⟨by', e1, e2⟩ := bytesV_spec _ _ _ hvs hb
        have hbl : by'.length = l := by rw [← hvl, e1]; simp
        refine ⟨.string ⟨by'.toArray⟩, ?_, VR_s (by simpa using hbl) (by simpa using e2)⟩
        have := run_convert_bytes_back (P := P) w src dst e ⟨q.r, z, none⟩ cap by' hs he hd (fun j hj => by
          rw [hz]
          refine hvc j _ ?_
          rw [e1, List.getElem?_map, List.getElem?_eq_getElem hj]; rfl)
        rw [hbl] at this
        exact this

end Go.Proofs.YtmbnogellhoheaaGreatDoor.Ev

/- What strings.Builder asks of package unsafe; the library's entries that the model has. -/
namespace Go.Proofs.YtmbnogellhoheaaGreatDoor.Ev
open Go
variable {ρ : Rho}

theorem shape_of {w : World} {r : Nat} {C : Array Value} {E : TypeId} {fz : Nat × Nat} (h : w.heap[r]? = some (.cells C E fz)) : w.shape? r = some (E, C.size) := by
  unfold World.shape?; rw [h]

/-! ### pointers seen as unsafe.Pointer, and back -/
noncomputable def toU (bs : TB) (x : V) : Option V := asP x none fun i o => bk bs i fun _ sz _ => cond (Nat.ble (Nat.succ o) sz) (some (.p i o)) none
noncomputable def fromU (u s : Nat) (bs : TB) (x : V) : Option V := asP x none fun i o => bk bs i fun es sz _ => cond (Nat.beq o 0) (cond (Nat.beq es (Nat.mul u 65536)) (cond (Nat.ble s sz) (some (.p i 0)) none) none) none
theorem snd_toU (P : Program) {src dst t : TypeId} {j : TypeInfo} (hs : P.underlying src = some (.pointer t)) (hd : P.underlying dst = some .unsafePointer) (ht : P.info? t = some j) (hj : j.size ≠ 0) {nx : Pos} {bs : TB} {w : World} (hh : HR ρ nx bs w)
    {v r : V} {x : Value} (hv : VR ρ v x) (hf : toU bs v = some r) : ∃ y, (convert src dst x).run P w = .ok y w ∧ VR ρ r y := by
  obtain ⟨i, o, ev, h1⟩ := asP_some hf
  subst ev
  obtain ⟨es, sz, cs, hl, h2⟩ := bk_some h1
  obtain ⟨g, h3⟩ := cond_some h2
  have g : o + 1 ≤ sz := Nat.le_of_ble_eq_true g
  injection h3 with h3; subst h3
  obtain ⟨q, hq, rfl⟩ := hv.p
  obtain ⟨q', hq', -, hbr⟩ := hh.live _ _ _ _ hl
  rw [hq] at hq'; injection hq' with hq'; subst hq'
  have hsz := hbr.size_le (by omega)
  obtain ⟨C, fz, g1, g0, -⟩ := hbr
  exact ⟨_, Lib.run_to_unsafe w ⟨q.r, q.o + o, none⟩ hs hd ht hj (shape_of g1) (by show q.o + o < C.size; omega), hv⟩
theorem liesAt_own {P : Program} {e : TypeId} (hc : P.cellsOf e ≠ 0) {count : Nat} (hn : 1 ≤ count) : liesAt P P.depth e count 0 e 1 = true := by
  have hd : P.depth = (2 * (P.types.size + Made.depth) + 1) + 1 := rfl
  rw [hd]
  simp only [liesAt, Bool.or_eq_true]
  left
  rw [hd]
  simp [rowAt, hc, hn, sameLayout]
theorem snd_fromU (P : Program) {src dst u : TypeId} {j : TypeInfo} {s : Nat} (hs : P.underlying src = some .unsafePointer) (hd : P.underlying dst = some (.pointer u)) (hu : P.info? u = some j) (hc : P.cellsOf u = s) (h0 : s ≠ 0) {nx : Pos} {bs : TB} {w : World}
    (hh : HR ρ nx bs w) {v r : V} {x : Value} (hv : VR ρ v x) (hf : fromU u s bs v = some r) : ∃ y, (convert src dst x).run P w = .ok y w ∧ VR ρ r y := by
  obtain ⟨i, o, ev, h1⟩ := asP_some hf
  subst ev
  obtain ⟨es, sz, cs, hl, h2⟩ := bk_some h1
  obtain ⟨g, h3⟩ := cond_some h2
  obtain ⟨g2, h4⟩ := cond_some h3
  obtain ⟨g3, h5⟩ := cond_some h4
  have g := Nat.eq_of_beq_eq_true g
  have g2 : es = u * 65536 := Nat.eq_of_beq_eq_true g2
  have g3 : s ≤ sz := Nat.le_of_ble_eq_true g3
  injection h5 with h5
  clear h4 h3 h2 h1 hf
  subst g; subst h5
  obtain ⟨q, hq, rfl⟩ := hv.p
  obtain ⟨q', hq', hes, hbr⟩ := hh.live _ _ _ _ hl
  rw [hq] at hq'; injection hq' with hq'; subst hq'
  have hsz := hbr.size_le (by omega)
  obtain ⟨C, fz, g1, g0, -⟩ := hbr
  have hqo : q.o = 0 := hes.2 (by rw [g2]; exact Nat.mul_mod_left u 65536)
  have hE : q.s / 65536 = u := by rw [hes.1, g2]; exact ty_div0.symm
  rw [hE] at g1
  refine ⟨_, Lib.run_from_unsafe w ⟨q.r, q.o + 0, none⟩ hs hd hu (shape_of g1) ?_, hv⟩
  show liesAt P P.depth u (C.size / P.cellsOf u) (q.o + 0) u 1 = true
  rw [hqo, hc]
  exact liesAt_own (by rw [hc]; exact h0) (by rw [g0]; exact (Nat.le_div_iff_mul_le (by omega)).2 (by omega))

/-! ### the row of a slice; the text of a row -/
noncomputable def sdtL (x : V) : Option V := asL x none (some .p0) fun i o l _ => cond (Nat.beq l 0) none (some (.p i o))
theorem snd_sdtL (P : Program) (ts : Array TypeId) (ty : TypeId) : Snd1 P sdtL (fun x => Builtin.unsafeSliceData_ ts ty #[x]) := by
  intro ρ v x r w hv hf
  rcases asL_some hf with ⟨ev, h1⟩ | ⟨i, o, l, c, ev, h1⟩
  · subst ev
    have := hv.l0; subst this
    injection h1 with h1; subst h1
    exact ⟨.pointer none, Lib.run_unsafeSliceData_nil w ts ty 0 0, by unfold VR; rfl⟩
  · subst ev
    obtain ⟨q, z, cap, hq, rfl, hlc, -, hz, -⟩ := hv.l
    cases hl0 : Nat.beq l 0 with
    | true => rw [hl0] at h1; cases h1
    | false =>
      rw [hl0, cond_false] at h1
      injection h1 with h1; subst h1
      have hl0 : l ≠ 0 := fun h => by rw [beq_yes h] at hl0; simp at hl0
      have hz : z = q.o + o := hz.resolve_left (by omega)
      subst hz
      exact ⟨_, Lib.run_unsafeSliceData_row w ts ty _ l cap (by omega), VR_p hq rfl⟩

/-! ### rooms of whatever bytes -/
noncomputable def mnzV (ec : Nat) (x : V) : Option NV := asN x none fun n => cond (Nat.ble n 1048576) (some (.l ec n 0 (rep [.u] n))) none
theorem snd_mnzV (P : Program) (ps : Array TypeId) {t e : TypeId} (ht : P.underlying t = some (.slice e)) (w : World) {v : V} {x : Value} (hv : VR ρ v x) {n : NV} (hf : mnzV (e * 65536 + 1) v = some n) :
    NSnd ρ w n ((Extern.BytealgMakeNoZero.makeNoZero ps #[t] #[x]).run P w) := by
  obtain ⟨m, ev, h1⟩ := asN_some hf
  subst ev
  obtain ⟨hm, rfl⟩ := hv.n
  obtain ⟨g, h2⟩ := cond_some h1
  have g : m ≤ 1048576 := Nat.le_of_ble_eq_true g
  injection h2 with h2; subst h2
  have em : IntKind.i64.wrap (m : Int) = m := by rw [wrap_n m hm, if_pos (by omega)]
  rw [em]
  obtain ⟨cs, hr, hge, -⟩ := Lib.run_makeNoZero (P := P) w ps t e ht m (by omega)
  refine nsnd_l hr rfl (ty_div (by decide)) (by rw [rep_length]; simp; omega) (fun k v hk => ?_) hge (fun h => absurd rfl h) (fun _ => by rw [ty_mod (by decide : 1 < 65536), Nat.mul_one]; exact Nat.le_refl _)
  have hkl : k < m * ([V.u] : List V).length := by
    rcases Nat.lt_or_ge k (m * ([V.u] : List V).length) with hh | hh
    · exact hh
    · rw [List.getElem?_eq_none (by rw [rep_length]; exact hh)] at hk; simp at hk
  rw [rep_get _ m k hkl] at hk
  simp only [List.length_singleton, Nat.mod_one, Nat.mul_one] at hk hkl
  have : v = .u := by simpa using hk.symm
  subst this
  exact ⟨cs[k]'(by omega), Array.getElem?_eq_getElem (by omega), by simp [VR]⟩

end Go.Proofs.YtmbnogellhoheaaGreatDoor.Ev

/- unsafe.String: the row is frozen, so its name is let go. Counting and finding bytes. -/
namespace Go.Proofs.YtmbnogellhoheaaGreatDoor.Ev
open Go
variable {ρ : Rho}

/-- A name let go, whose block may have changed. -/
theorem HR0.lose {nx : Pos} {bs : TB} {w w' : World} (h : HR0 ρ nx bs w) {i : Pos} {es sz : Nat} {cs : TV} (hl : Live bs i es sz cs) {q : Pl} (hq : ρ i = some q) (hother : ∀ b, b ≠ q.r → w'.heap[b]? = w.heap[b]?) (hsz : w'.heap.size = w.heap.size) (hev : Evn w w') :
    HR0 ρ nx (bs.set i .none) w' ∧ Ext ρ nx bs w ρ nx (bs.set i .none) w' := by
  have hd := h.drop i
  refine ⟨⟨fun id es' sz' cs' hl' => ?_, hd.apart, hd.fresh, fun id q1 h1 => by rw [hsz]; exact h.inside _ _ h1⟩, ⟨Rho.le_refl ρ, by rw [hsz]; exact Nat.le_refl _, fun b hb ho => ?_, ?_, Nat.le_refl _, fun _ _ h => h, hev, ?_⟩⟩
  · obtain ⟨hne, hl''⟩ := live_none hl'
    obtain ⟨q', h1, h2, h3⟩ := h.live _ _ _ _ hl''
    exact ⟨q', h1, h2, h3.mono (Rho.le_refl ρ) (hother _ fun e => hne (h.apart _ _ _ _ _ _ _ _ _ _ hl'' hl h1 hq e))⟩
  · exact hother b fun e => ho ⟨i, es, sz, cs, q, hl, hq, e.symm⟩
  · rintro b - ⟨id, es', sz', cs', q', h1, h2⟩
    exact ⟨id, es', sz', cs', q', (live_none h1).2, h2⟩
  · rintro b - ⟨id, es', sz', cs', q', h1, h2, h3⟩
    obtain ⟨hne, hl''⟩ := live_none h1
    subst h3
    exact fzAt_of (hother _ fun e => hne (h.apart _ _ _ _ _ _ _ _ _ _ hl'' hl h2 hq e))
theorem HR.lose {nx : Pos} {bs : TB} {w w' : World} (h : HR ρ nx bs w) {i : Pos} {es sz : Nat} {cs : TV} (hl : Live bs i es sz cs) {q : Pl} (hq : ρ i = some q) (hother : ∀ b, b ≠ q.r → w'.heap[b]? = w.heap[b]?) (hsz : w'.heap.size = w.heap.size) (hev : Evn w w') :
    HR ρ nx (bs.set i .none) w' ∧ Ext ρ nx bs w ρ nx (bs.set i .none) w' := by
  obtain ⟨k1, k2⟩ := h.toHR0.lose hl hq hother hsz hev
  exact ⟨h.step k1 k2, k2⟩
theorem liesAt_row {P : Program} {e : TypeId} (hc : P.cellsOf e = 1) {count off n : Nat} (hn : off + n ≤ count) : liesAt P P.depth e count off e n = true := by
  have hd : P.depth = (2 * (P.types.size + Made.depth) + 1) + 1 := rfl
  rw [hd]
  simp only [liesAt, Bool.or_eq_true]
  left
  rw [hd]
  simp [rowAt, hc, hn, sameLayout, Nat.mod_one]
theorem run_ustr (P : Program) (w : World) (pt it ty : TypeId) {e : TypeId} (hp : P.underlying pt = some (.pointer e)) (hc : P.cellsOf e = 1) {r z cells : Nat} (hsh : w.shape? r = some (e, cells)) (l : List UInt8) (h0 : l ≠ []) (hn : z + l.length ≤ cells) (h63 : l.length ≤ 1099511627776)
    (hcell : ∀ j x, l[j]? = some x → w.cell? ((⟨r, z, none⟩ : Addr).add j) = some (.int .u8 x.toNat)) :
    (Builtin.unsafeString_ #[pt, it] ty #[.pointer (some ⟨r, z, none⟩), .int .i64 l.length]).run P w = .ok (.string ⟨l.toArray⟩) (w.freeze ⟨r, z, none⟩ l.length) := by
  have hl : l.length ≠ 0 := by simpa using h0
  have hlb := Lib.run_loadBytes (P := P) w l ⟨r, z, none⟩ .empty hcell
  have hlies := liesAt_row (P := P) hc (count := cells / P.cellsOf e) (off := z) (n := l.length) (by rw [hc, Nat.div_one]; exact hn)
  have h63' : ¬ (9223372036854775807 : Int) < (l.length : Int) := by omega
  have hmax : IntKind.i64.max = 9223372036854775807 := rfl
  show ((asInt (.int .i64 l.length) >>= _ : Sem Value).run P w) = _
  have hneg : ¬ (l.length : Int) < 0 := by omega
  have he : (ByteArray.empty.data ++ l.toArray) = l.toArray := by have : ByteArray.empty.data = #[] := rfl; rw [this]; simp
  rw [he] at hlb
  simp [asInt, asIntOf, hmax, h63', hneg, hl, variablesAt, hsh, elemOf, run_underlying P w hp, hlies, hlb]
noncomputable def ustr (ec : Nat) (bs : TB) (x y : V) : Option (V × TB) := asP x none fun i o => asN y none fun n => cond (Nat.beq n 0) none (bk bs i fun es sz cs => cond (Nat.beq es ec) (cond (Nat.ble (Nat.add o n) sz) (cond (Nat.ble n 1048576)
  (Option.casesOn (bytesV (cs.take n (Nat.succ o))) none fun m => some (.s n m, bs.set i .none)) none) none) none)
theorem freeze_other (w : World) (r z n b : Nat) (h : b ≠ r) : (w.freeze ⟨r, z, none⟩ n).heap[b]? = w.heap[b]? := by
  unfold World.freeze
  split
  · rfl
  · show (w.heap.modify r _)[b]? = _
    rw [Array.getElem?_modify, if_neg (Ne.symm h)]
theorem freeze_env (w : World) (a : Addr) (n : Nat) : Evn w (w.freeze a n) := by
  unfold World.freeze
  split <;> exact ⟨rfl, rfl⟩
theorem freeze_size (w : World) (a : Addr) (n : Nat) : (w.freeze a n).heap.size = w.heap.size := by
  unfold World.freeze
  split
  · rfl
  · simp
theorem snd_ustr (P : Program) (pt it ty : TypeId) {e : TypeId} (hp : P.underlying pt = some (.pointer e)) (hc : P.cellsOf e = 1) {nx : Pos} {bs bs' : TB} {w : World} (hh : HR ρ nx bs w) {v v' r : V} {x x' : Value} (hv : VR ρ v x) (hv' : VR ρ v' x')
    (hf : ustr (e * 65536 + 1) bs v v' = some (r, bs')) : ∃ y w', (Builtin.unsafeString_ #[pt, it] ty #[x, x']).run P w = .ok y w' ∧ VR ρ r y ∧ HR ρ nx bs' w' ∧ Ext ρ nx bs w ρ nx bs' w' := by
  obtain ⟨i, o, ev, h1⟩ := asP_some hf
  obtain ⟨n, ev', h2⟩ := asN_some h1
  clear h1 hf
  subst ev; subst ev'
  cases hn0 : Nat.beq n 0 with
  | true => rw [hn0] at h2; cases h2
  | false =>
    rw [hn0, cond_false] at h2
    have hn0 : n ≠ 0 := fun h => by rw [beq_yes h] at hn0; simp at hn0
    obtain ⟨es, sz, cs, hl, h3⟩ := bk_some h2
    obtain ⟨g1, h4⟩ := cond_some h3
    obtain ⟨g2, h5⟩ := cond_some h4
    obtain ⟨g3, h6⟩ := cond_some h5
    clear h5 h4 h3 h2
    have g1 : es = e * 65536 + 1 := Nat.eq_of_beq_eq_true g1
    have g2 : o + n ≤ sz := Nat.le_of_ble_eq_true g2
    have g3 : n ≤ 1048576 := Nat.le_of_ble_eq_true g3
    obtain ⟨q, hq, rfl⟩ := hv.p
    obtain ⟨hn, rfl⟩ := hv'.n
    obtain ⟨q', hq', hes, hbr⟩ := hh.live _ _ _ _ hl
    rw [hq] at hq'; injection hq' with hq'; subst hq'
    have hsz := hbr.size_le (by omega)
    obtain ⟨vs, hvl, hvc, hvv⟩ := row_of hbr g2
    obtain ⟨C, fz, f1, f0, -⟩ := hbr
    have hE : q.s / 65536 = e := by rw [hes.1, g1]; exact (ty_div (by decide)).symm
    rw [hE] at f1
    have hvs : VRs ρ (cs.take n (o + 1)) vs := VRs.mk (by rw [TV.take_length, hvl]) fun k cv y hc hy => by
      have hk : k < n := by
        rcases Nat.lt_or_ge k n with hh | hh
        · exact hh
        · rw [List.getElem?_eq_none (by rw [TV.take_length]; exact hh)] at hc; simp at hc
      rw [TV.take_get cs _ _ k hk] at hc
      injection hc with hc; subst hc
      obtain ⟨y', hy', hyv⟩ := hvv k hk
      rw [hy] at hy'; injection hy' with hy'; subst hy'
      rw [show o + 1 + k = o + k + 1 by omega]; exact hyv
    cases hb : bytesV (cs.take n (o + 1)) with
    | none =>
      have h6 : (Option.casesOn (bytesV (cs.take n (o + 1))) none fun m => some (V.s n m, bs.set i .none) : Option (V × TB)) = some (r, bs') := h6
      rw [hb] at h6; cases h6
    | some t =>
      have h6 : (Option.casesOn (bytesV (cs.take n (o + 1))) none fun m => some (V.s n m, bs.set i .none) : Option (V × TB)) = some (r, bs') := h6
      rw [hb] at h6
      have h6 : some (V.s n t, bs.set i .none) = some (r, bs') := h6
      injection h6 with h6; injection h6 with e1 e2; subst e1; subst e2
      obtain ⟨by', e1, e2⟩ := bytesV_spec _ _ _ hvs hb
      have hbl : by'.length = n := by rw [← hvl, e1]; simp
      have hr := run_ustr P w pt it ty hp hc (shape_of f1) by' (fun h => by rw [h] at hbl; simp at hbl; omega) (z := q.o + o) (by omega) (by omega) (fun j x hj => hvc j _ (by rw [e1, List.getElem?_map, hj]; rfl))
      rw [hbl] at hr
      have en : IntKind.i64.wrap (n : Int) = n := by rw [wrap_n n hn, if_pos (by omega)]
      rw [en]
      obtain ⟨p1, p2⟩ := hh.lose hl hq (w' := w.freeze ⟨q.r, q.o + o, none⟩ n) (fun b hb => freeze_other w _ _ _ b hb) (freeze_size ..) (freeze_env ..)
      exact ⟨_, _, hr, VR_s (by simpa using hbl) (by simpa using e2), p1, p2⟩

end Go.Proofs.YtmbnogellhoheaaGreatDoor.Ev

/- Counting and finding bytes; copies. -/
namespace Go.Proofs.YtmbnogellhoheaaGreatDoor.Ev
open Go
variable {ρ : Rho}

/-! ### counting and finding a byte -/
noncomputable def cntB (c l : Nat) : Nat → Nat := Nat.rec (motive := fun _ => Nat → Nat) (fun _ => 0) (fun _ ih m => cond (Nat.beq (Nat.mod m 256) c) (Nat.succ (ih (Nat.div m 256))) (ih (Nat.div m 256))) l
noncomputable def idxB (c l : Nat) : Nat → Nat → V := Nat.rec (motive := fun _ => Nat → Nat → V) (fun _ _ => .n 18446744073709551615) (fun _ ih m k => cond (Nat.beq (Nat.mod m 256) c) (.n k) (ih (Nat.div m 256) (Nat.succ k))) l
noncomputable def cntS (x y : V) : Option V := asS x none fun l m => asY y none fun c => cond (Nat.ble l 1099511627776) (some (.n (cntB c l m))) none
noncomputable def ixbS (x y : V) : Option V := asS x none fun l m => asY y none fun c => cond (Nat.ble l 1099511627776) (some (idxB c l m 0)) none
theorem enc_mod (b : UInt8) (r : List UInt8) : Nat.mod (enc (b :: r)) 256 = b.toNat := by
  have hb : b.toNat < 256 := b.toNat_lt
  show (b.toNat + 256 * enc r) % 256 = b.toNat; omega
theorem enc_div (b : UInt8) (r : List UInt8) : Nat.div (enc (b :: r)) 256 = enc r := by
  have hb : b.toNat < 256 := b.toNat_lt
  show (b.toNat + 256 * enc r) / 256 = enc r; omega
theorem beq_byte (b : UInt8) (c : Nat) (hc : c < 256) : Nat.beq b.toNat c = (b == c.toUInt8) := by
  by_cases h : b.toNat = c
  · rw [beq_yes h]
    have : b = c.toUInt8 := by apply UInt8.toNat_inj.1; rw [h]; simp; omega
    rw [this]; simp
  · rw [beq_no h]
    symm
    rw [beq_eq_false_iff_ne]
    intro e
    apply h
    rw [e]; simp; omega
theorem cntB_spec (c : Nat) (hc : c < 256) : ∀ bs : List UInt8, cntB c bs.length (enc bs) = Lib.countByte bs c.toUInt8
  | [] => rfl
  | b :: r => by
    have ih := cntB_spec c hc r
    rw [List.length_cons]
    show cond (Nat.beq (Nat.mod (enc (b :: r)) 256) c) (Nat.succ (cntB c r.length (Nat.div (enc (b :: r)) 256))) (cntB c r.length (Nat.div (enc (b :: r)) 256)) = _
    rw [enc_mod, enc_div, ih, beq_byte b c hc]
    unfold Lib.countByte
    rw [List.count_cons]
    cases b == c.toUInt8 <;> simp
theorem idxB_spec (c : Nat) (hc : c < 256) (ρ : Rho) : ∀ (bs : List UInt8) (k : Nat), k + bs.length ≤ 1099511627776 → VR ρ (idxB c bs.length (enc bs) k) (.int .i64 (if Lib.indexByte bs c.toUInt8 = -1 then -1 else Lib.indexByte bs c.toUInt8 + k))
  | [], k, _ => by
    show VR ρ (.n 18446744073709551615) _
    have : Lib.indexByte [] c.toUInt8 = -1 := rfl
    rw [this, if_pos rfl]
    exact VR_n_of (by omega) (by rw [wrap_n _ (by omega), if_neg (by omega)]; rfl)
  | b :: r, k, hk => by
    rw [List.length_cons] at hk ⊢
    show VR ρ (cond (Nat.beq (Nat.mod (enc (b :: r)) 256) c) (.n k) (idxB c r.length (Nat.div (enc (b :: r)) 256) (Nat.succ k))) _
    rw [enc_mod, enc_div, beq_byte b c hc]
    have hge := Lib.indexByte_ge r c.toUInt8
    cases hb : b == c.toUInt8 with
    | true =>
      rw [cond_true]
      have : Lib.indexByte (b :: r) c.toUInt8 = 0 := by unfold Lib.indexByte; rw [hb]; rfl
      rw [this, if_neg (by decide)]
      exact VR_n_of (by omega) (by rw [wrap_n k (by omega), if_pos (by omega)]; omega)
    | false =>
      rw [cond_false]
      have ih := idxB_spec c hc ρ r (k + 1) (by omega)
      have e : Lib.indexByte (b :: r) c.toUInt8 = if Lib.indexByte r c.toUInt8 = -1 then -1 else Lib.indexByte r c.toUInt8 + 1 := by
        have e0 : Lib.indexByte (b :: r) c.toUInt8 = if b == c.toUInt8 then 0 else if Lib.indexByte r c.toUInt8 == -1 then -1 else Lib.indexByte r c.toUInt8 + 1 := rfl
        rw [e0, hb]; simp
      rw [e]
      by_cases h1 : Lib.indexByte r c.toUInt8 = -1
      · rw [if_pos h1] at ih ⊢
        rw [if_pos rfl]; exact ih
      · rw [if_neg h1] at ih ⊢
        rw [if_neg (by omega)]
        have e2 : Lib.indexByte r c.toUInt8 + 1 + (k : Int) = Lib.indexByte r c.toUInt8 + ((k + 1 : Nat) : Int) := by omega
        rw [e2]; exact ih
theorem snd_cntS (P : Program) : Snd2 P cntS (fun x y => Extern.BytealgCount.count #[x, y]) := by
  intro ρ v v' x x' r w hv hv' hf
  obtain ⟨l, m, ev, h1⟩ := asS_some hf
  obtain ⟨c, ev', h2⟩ := asY_some h1
  clear h1 hf
  subst ev; subst ev'
  obtain ⟨s, rfl, hl, hm⟩ := hv.s
  obtain ⟨hc, rfl⟩ := hv'.y
  obtain ⟨g, h3⟩ := cond_some h2
  have g : l ≤ 1099511627776 := Nat.le_of_ble_eq_true g
  injection h3 with h3; subst h3
  refine ⟨_, Lib.run_countString s c w, ?_⟩
  have hs := cntB_spec c hc s.data.toList
  rw [hl, hm] at hs
  rw [hs]
  have hle : Lib.countByte s.data.toList c.toUInt8 ≤ s.data.toList.length := List.count_le_length
  rw [Int.toNat_natCast]
  exact VR_n_of (by omega) (by rw [wrap_n _ (by omega), if_pos (by omega)])
theorem snd_ixbS (P : Program) : Snd2 P ixbS (fun x y => Extern.BytealgIndexByte.indexByte #[x, y]) := by
  intro ρ v v' x x' r w hv hv' hf
  obtain ⟨l, m, ev, h1⟩ := asS_some hf
  obtain ⟨c, ev', h2⟩ := asY_some h1
  clear h1 hf
  subst ev; subst ev'
  obtain ⟨s, rfl, hl, hm⟩ := hv.s
  obtain ⟨hc, rfl⟩ := hv'.y
  obtain ⟨g, h3⟩ := cond_some h2
  have g : l ≤ 1099511627776 := Nat.le_of_ble_eq_true g
  injection h3 with h3; subst h3
  refine ⟨_, Lib.run_indexByteString s c w, ?_⟩
  have hs := idxB_spec c hc ρ s.data.toList 0 (by omega)
  rw [hl, hm] at hs
  rw [Int.toNat_natCast]
  have e : (if Lib.indexByte s.data.toList c.toUInt8 = -1 then -1 else Lib.indexByte s.data.toList c.toUInt8 + ((0 : Nat) : Int)) = Lib.indexByte s.data.toList c.toUInt8 := by
    split <;> omega
  rw [e] at hs
  exact hs

end Go.Proofs.YtmbnogellhoheaaGreatDoor.Ev

/- Copies. -/
namespace Go.Proofs.YtmbnogellhoheaaGreatDoor.Ev
open Go
variable {ρ : Rho}

noncomputable def cpyK (sz : Nat) (bs : TB) (i : Pos) (o : Nat) (i2 : Pos) (o2 k : Nat) : Option (V × TB) := cond (Nat.beq k 0) (some (.n 0, bs)) (cond (Nat.ble k 1048576) (bk bs i2 fun _ sz2 ds => cond (Nat.ble (Nat.add o2 (Nat.mul k sz)) sz2)
  (bk bs i fun es szi cs => cond (Nat.ble (Nat.add o (Nat.mul k sz)) szi) (cond (Nat.ble szi 1099511627775) (cond (flatL (ds.take (Nat.mul k sz) (Nat.succ o2)))
    (some (.n k, bs.set i (.mk es szi (into (ds.take (Nat.mul k sz) (Nat.succ o2)) cs (Nat.succ o))))) none) none) none) none) none)
noncomputable def cpyL (sz : Nat) (bs : TB) (d s : V) : Option (V × TB) := asL d none (asL s none (some (.n 0, bs)) fun _ _ _ _ => some (.n 0, bs)) fun i o l _ => asL s none (some (.n 0, bs)) fun i2 o2 m _ => cpyK sz bs i o i2 o2 (cond (Nat.ble l m) l m)
theorem run_copy (P : Program) (w : World) {t t2 ty e : TypeId} {i : TypeInfo} (ht : P.underlying t = some (.slice e)) (hi : P.info? e = some i) (b : Option Addr) (dl dc : Nat) (a : Option Addr) (sl sc : Nat) {news : List Value} (w' : World)
    (hload : (Builtin.firstCells i.size (Nat.min sl dl) (.slice a sl sc)).run P w = .ok news.toArray w) (hst : ∀ x, b = some x → (storeCells x news).run P w = .ok () w') (hn : b = none → w' = w) :
    (Builtin.copy_ #[t, t2] ty #[.slice b dl dc, .slice a sl sc]).run P w = .ok (goInt (Nat.min sl dl : Nat)) w' := by
  have hlen : Builtin.lenOf (.slice a sl sc) = pure sl := rfl
  unfold Builtin.copy_
  cases b with
  | none => rw [hn rfl]; simp [run_underlying P w ht, run_sizeOf P w hi, hlen, hload]
  | some x => simp [run_underlying P w ht, run_sizeOf P w hi, hlen, hload, hst x rfl]
theorem snd_cpyL (P : Program) {t t2 ty e : TypeId} {i : TypeInfo} (ht : P.underlying t = some (.slice e)) (hi : P.info? e = some i) (hi0 : i.size ≠ 0) {nx : Pos} {bs bs' : TB} {w : World} (hh : HR ρ nx bs w) {v v' r : V} {x x' : Value} (hv : VR ρ v x) (hv' : VR ρ v' x')
    (hf : cpyL i.size bs v v' = some (r, bs')) : ∃ y w', (Builtin.copy_ #[t, t2] ty #[x, x']).run P w = .ok y w' ∧ VR ρ r y ∧ HR ρ nx bs' w' ∧ Ext ρ nx bs w ρ nx bs' w' := by
  have ld0 : ∀ (a : Option Addr) (sl sc : Nat), (Builtin.firstCells i.size 0 (.slice a sl sc)).run P w = .ok ([] : List Value).toArray w := fun a sl sc => by
    cases a with
    | none => rfl
    | some a => show (loadCells a (0 * i.size)).run P w = _; rw [Nat.zero_mul]; exact run_loadCells_list (P := P) w a [] (by simp)
  have zero : ∀ (b : Option Addr) (dl dc : Nat) (a : Option Addr) (sl sc : Nat), Nat.min sl dl = 0 → ∃ y w', (Builtin.copy_ #[t, t2] ty #[.slice b dl dc, .slice a sl sc]).run P w = .ok y w' ∧ VR ρ (.n 0) y ∧ HR ρ nx bs w' ∧ Ext ρ nx bs w ρ nx bs w' := by
    intro b dl dc a sl sc h0
    refine ⟨_, w, run_copy P w ht hi b dl dc a sl sc (news := []) w (by rw [h0]; exact ld0 a sl sc) (fun x _ => rfl) (fun _ => rfl), ?_, hh, Ext.refl ..⟩
    rw [h0]; exact VR_n_of (by omega) (by rw [wrap_n 0 (by omega), if_pos (by omega)])
  rcases asL_some hf with ⟨ev, h1⟩ | ⟨id, o, l, c, ev, h1⟩
  · rcases asL_some h1 with ⟨ev', h2⟩ | ⟨id2, o2, m, c2, ev', h2⟩
    · clear h1 hf; subst ev; subst ev'
      have := hv.l0; subst this
      have := hv'.l0; subst this
      injection h2 with h2; injection h2 with e1 e2; subst e1; subst e2
      exact zero none 0 0 none 0 0 rfl
    · clear h1 hf; subst ev; subst ev'
      have := hv.l0; subst this
      obtain ⟨q, z, cap, hq, rfl, -⟩ := hv'.l
      injection h2 with h2; injection h2 with e1 e2; subst e1; subst e2
      exact zero none 0 0 _ _ _ (Nat.min_zero _)
  · rcases asL_some h1 with ⟨ev', h2⟩ | ⟨id2, o2, m, c2, ev', h2⟩
    · clear h1 hf; subst ev; subst ev'
      have := hv'.l0; subst this
      obtain ⟨q, z, cap, hq, rfl, -⟩ := hv.l
      injection h2 with h2; injection h2 with e1 e2; subst e1; subst e2
      exact zero _ _ _ none 0 0 (Nat.zero_min _)
    · clear h1 hf; subst ev; subst ev'
      obtain ⟨q, z, cap, hq, rfl, hlc, -, hz, -⟩ := hv.l
      obtain ⟨q2, z2, cap2, hq2, rfl, hlc2, -, hz2, -⟩ := hv'.l
      have ek : (cond (Nat.ble l m) l m : Nat) = Nat.min m l := by
        rw [ble_eq]
        by_cases h : l ≤ m
        · rw [decide_eq_true h, cond_true]; exact (Nat.min_eq_right h).symm
        · rw [decide_eq_false h, cond_false]; exact (Nat.min_eq_left (by omega)).symm
      rw [ek] at h2
      have hkm : Nat.min m l ≤ m := Nat.min_le_left _ _
      have hkl : Nat.min m l ≤ l := Nat.min_le_right _ _
      generalize hk : Nat.min m l = k at h2 hkm hkl
      unfold cpyK at h2
      cases hk0 : Nat.beq k 0 with
      | true =>
        rw [hk0, cond_true] at h2
        have := Nat.eq_of_beq_eq_true hk0; subst this
        injection h2 with h2; injection h2 with e1 e2; subst e1; subst e2
        exact zero _ _ _ _ _ _ hk
      | false =>
        rw [hk0, cond_false] at h2
        have hk0 : k ≠ 0 := fun h => by rw [beq_yes h] at hk0; simp at hk0
        obtain ⟨g0, h2⟩ := cond_some h2
        have g0 : k ≤ 1048576 := Nat.le_of_ble_eq_true g0
        obtain ⟨es2, sz2, ds, hl2, h2⟩ := bk_some h2
        obtain ⟨g1, h2⟩ := cond_some h2
        obtain ⟨es, sz, cs, hl, h2⟩ := bk_some h2
        obtain ⟨g2, h2⟩ := cond_some h2
        obtain ⟨g3, h2⟩ := cond_some h2
        obtain ⟨g4, h2⟩ := cond_some h2
        have g1 : o2 + k * i.size ≤ sz2 := Nat.le_of_ble_eq_true g1
        have g2 : o + k * i.size ≤ sz := Nat.le_of_ble_eq_true g2
        have g3 : sz ≤ 1099511627775 := Nat.le_of_ble_eq_true g3
        injection h2 with h2; injection h2 with e1 e2; subst e1; subst e2
        have hz : z = q.o + o := hz.resolve_left (by omega)
        have hz2 : z2 = q2.o + o2 := hz2.resolve_left (by omega)
        have hpos : k * i.size ≠ 0 := Nat.mul_ne_zero hk0 hi0
        obtain ⟨q', hq', -, hbr⟩ := hh.live _ _ _ _ hl
        rw [hq] at hq'; injection hq' with hq'; subst hq'
        obtain ⟨q2', hq2', -, hbr2⟩ := hh.live _ _ _ _ hl2
        rw [hq2] at hq2'; injection hq2' with hq2'; subst hq2'
        obtain ⟨news, hln, hnews, hnv⟩ := row_of hbr2 g1
        rw [← hz2] at hnews
        have hns : VRs ρ (ds.take (k * i.size) (o2 + 1)) news := VRs.mk (by rw [TV.take_length, hln]) fun j cv y hc hy => by
          have hj : j < k * i.size := by
            rcases Nat.lt_or_ge j (k * i.size) with hh | hh
            · exact hh
            · rw [List.getElem?_eq_none (by rw [TV.take_length]; exact hh)] at hc; simp at hc
          rw [TV.take_get ds _ _ j hj] at hc
          injection hc with hc; subst hc
          obtain ⟨y', hy', hyv⟩ := hnv j hj
          rw [hy] at hy'; injection hy' with hy'; subst hy'
          rw [show o2 + 1 + j = o2 + j + 1 by omega]; exact hyv
        have hsz := hbr.size_le (by omega)
        obtain ⟨C, fz, f1, f0, f2, f3⟩ := hbr
        have hst := run_storeCells_cells (P := P) q.r (q.o + o) news 0 w (fun j hj => by rw [Nat.add_zero, cell_of f1]; simp; omega)
          (fun j hj => by rw [Nat.add_zero]; exact frozen_of f1 _ (f3 _ (by omega) (by omega))) (flatL_one g4 hns)
        obtain ⟨p1, p2⟩ := hh.put hl hq (off := o) hns (by rw [TV.take_length]; omega) g3
        refine ⟨_, _, run_copy P w ht hi (some ⟨q.r, z, none⟩) l cap (some ⟨q2.r, z2, none⟩) m cap2 (news := news) (w.setCells q.r (q.o + o) news) ?_ (fun x hx => ?_) (by simp), ?_, p1, p2⟩
        · rw [hk]
          show (loadCells _ (k * i.size)).run P w = _
          rw [← hln]; exact run_loadCells_list (P := P) w _ news hnews
        · injection hx with hx; subst hx; rw [hz]; simpa using hst
        · rw [hk]; exact VR_n_of (by omega) (by rw [wrap_n k (by omega), if_pos (by omega)])

end Go.Proofs.YtmbnogellhoheaaGreatDoor.Ev

/- Texts some of whose bytes are atoms: what they say; rows of such bytes. -/
namespace Go.Proofs.YtmbnogellhoheaaGreatDoor.Ev
open Go
variable {ρ : Rho}

/-! ### what such a text says -/
theorem byteVal_inj {a b : UInt8} (h : byteVal a = byteVal b) : a = b := by
  unfold byteVal at h
  injection h with _ h
  exact UInt8.toNat_inj.1 (by omega)
theorem map_byteVal_inj : ∀ {a b : List UInt8}, a.map byteVal = b.map byteVal → a = b
  | [], [], _ => rfl
  | [], _ :: _, h => by simp at h
  | _ :: _, [], h => by simp at h
  | x :: a, y :: b, h => by
    simp only [List.map_cons, List.cons.injEq] at h
    rw [byteVal_inj h.1, map_byteVal_inj h.2]
theorem VR.str {l : List UInt8} {x : Value} (h : VR ρ (.s l.length (enc l)) x) : x = .string ⟨l.toArray⟩ := by
  obtain ⟨s, rfl, h1, h2⟩ := h.s
  have : s.data.toList = l := enc_inj h1 h2
  subst this
  rfl
theorem VR_str (l : List UInt8) : VR ρ (.s l.length (enc l)) (.string ⟨l.toArray⟩) := VR_s (by simp) (by simp)
/-- The bytes of a text. -/
noncomputable def wOf (v : V) : Option (List V) := WS.rec (motive := fun _ => Option (List V)) (asW v none fun cs => some cs) (fun l m => cond (Nat.ble l 1048576) (some (strV l m)) none) (vS v)
theorem wOf_snd {v : V} {cs : List V} {x : Value} (h : wOf v = some cs) (hv : VR ρ v x) : ∃ l : List UInt8, x = .string ⟨l.toArray⟩ ∧ VRs ρ cs (l.map byteVal) := by
  cases v with
  | s l m =>
    obtain ⟨-, h1⟩ := cond_some (show cond (Nat.ble l 1048576) (some (strV l m)) none = some cs from h)
    injection h1 with h1; subst h1
    obtain ⟨s, rfl, h2, h3⟩ := hv.s
    refine ⟨s.data.toList, rfl, ?_⟩
    rw [← h2, ← h3]
    exact strV_VRs _
  | w ds =>
    have h : some ds = some cs := h
    injection h with h; subst h
    obtain ⟨s, rfl, h1⟩ := hv.w
    exact ⟨s.data.toList, rfl, h1⟩
  | _ => cases h
/-- A text of bytes: a plain one, if all are known. -/
noncomputable def mkW (cs : List V) : V := Option.rec (motive := fun _ => V) (.w cs) (fun m => .s (llen cs) m) (bytesV cs)
theorem VR_w {cs : List V} {l : List UInt8} (h : VRs ρ cs (l.map byteVal)) : VR ρ (.w cs) (.string ⟨l.toArray⟩) := by
  unfold VR; simpa using h
theorem mkW_snd {cs : List V} {l : List UInt8} (h : VRs ρ cs (l.map byteVal)) : VR ρ (mkW cs) (.string ⟨l.toArray⟩) := by
  unfold mkW
  cases e : bytesV cs with
  | none => exact VR_w h
  | some t =>
    obtain ⟨bs, h1, h2⟩ := bytesV_spec _ _ _ h e
    have := map_byteVal_inj h1
    subst this
    have hl : cs.length = l.length := by simpa using h.length
    show VR ρ (.s (llen cs) t) _
    rw [llen_eq, hl, ← h2]
    exact VR_str l
theorem VRs.take' {cs : List V} {xs : List Value} (h : VRs ρ cs xs) (k : Nat) : VRs ρ (takeL k cs) (xs.take k) := by rw [takeL_eq]; exact h.take k
theorem VRs.drop' {cs : List V} {xs : List Value} (h : VRs ρ cs xs) (k : Nat) : VRs ρ (dropL k cs) (xs.drop k) := by rw [dropL_eq]; exact h.drop k
theorem VRs.llen {cs : List V} {l : List UInt8} (h : VRs ρ cs (l.map byteVal)) : llen cs = l.length := by rw [llen_eq, h.length]; simp

/-- The first, or else the second. -/
noncomputable def orO {α : Type} (a b : Option α) : Option α := Option.rec (motive := fun _ => Option α) b (fun x => some x) a
theorem orO_some {α : Type} {a b : Option α} {r : α} (h : orO a b = some r) : a = some r ∨ b = some r := by
  cases a with
  | none => exact .inr h
  | some x => exact .inl h
/-! ### rows of such bytes -/
noncomputable def byteW (v : V) : Bool := W1.rec (motive := fun _ => Bool) (asA v false fun k _ => Nat.beq k 2) (fun _ => true) (vY v)
noncomputable def bytesW (cs : List V) : Bool := List.rec (motive := fun _ => Bool) true (fun c _ ih => cond (byteW c) ih false) cs
theorem asA_true {v : V} {k : Nat → Pos → Bool} (h : asA v false k = true) : ∃ i p, v = .a i p ∧ k i p = true := by
  cases v <;> first | exact ⟨_, _, rfl, h⟩ | (have h : false = true := h; cases h)
theorem byteW_spec {v : V} {x : Value} (hv : VR ρ v x) (h : byteW v = true) : ∃ b : UInt8, x = byteVal b := by
  have of : ∀ m : Nat, m < 256 → ∃ b : UInt8, Value.int .u8 (m : Int) = byteVal b := fun m hm => ⟨UInt8.ofNat m, by unfold byteVal; simp; omega⟩
  cases v with
  | y m => obtain ⟨hm, rfl⟩ := hv.y; exact of m hm
  | a k i =>
    have h : Nat.beq k 2 = true := h
    have := Nat.eq_of_beq_eq_true h
    subst this
    obtain ⟨q, -, hq⟩ := hv.a
    unfold AtR at hq
    split at hq
    · rename_i he; cases he
    · rename_i he; cases he
    · obtain ⟨rfl, h1, rfl⟩ := hq; exact of _ h1
    · rename_i he; omega
    · exact hq.elim
  | _ => cases h
theorem bytesW_spec : ∀ {cs : List V} {xs : List Value}, VRs ρ cs xs → bytesW cs = true → ∃ bs : List UInt8, xs = bs.map byteVal
  | [], [], _, _ => ⟨[], rfl⟩
  | [], _ :: _, h, _ => by simp [VRs] at h
  | _ :: _, [], h, _ => by simp [VRs] at h
  | c :: cs, x :: xs, h, hb => by
    simp only [VRs] at h
    have hb : cond (byteW c) (bytesW cs) false = true := hb
    cases e : byteW c with
    | false => rw [e] at hb; cases hb
    | true =>
      rw [e, cond_true] at hb
      obtain ⟨b, rfl⟩ := byteW_spec h.1 e
      obtain ⟨bs, rfl⟩ := bytesW_spec h.2 hb
      exact ⟨b :: bs, rfl⟩
noncomputable def cvLSW (bs : TB) (x : V) : Option V := asL x none none fun i o l _ => cond (Nat.beq l 0) none
  (bk bs i fun _ sz cs => cond (Nat.ble (Nat.add o l) sz) (cond (bytesW (cs.take l (Nat.succ o))) (some (.w (cs.take l (Nat.succ o)))) none) none)
theorem snd_cvLSW (P : Program) {src dst e : TypeId} (hs : P.underlying src = some (.slice e)) (he : P.underlying e = some (.int .u8)) (hd : P.underlying dst = some .string) {nx : Pos} {bs : TB} {w : World} (hh : HR ρ nx bs w) {v r : V} {x : Value} (hv : VR ρ v x)
    (hf : cvLSW bs v = some r) : ∃ y, (convert src dst x).run P w = .ok y w ∧ VR ρ r y := by
  rcases asL_some hf with ⟨ev, h1⟩ | ⟨id, o, l, c, ev, h1⟩
  · subst ev
    cases h1
  · subst ev
    obtain ⟨q, z, cap, hq, rfl, hlc, -, hz, -⟩ := hv.l
    cases hl0 : Nat.beq l 0 with
    | true => rw [hl0] at h1; cases h1
    | false =>
      rw [hl0, cond_false] at h1
      have hl0 : l ≠ 0 := fun h => by rw [beq_yes h] at hl0; simp at hl0
      have hz : z = q.o + o := hz.resolve_left (by omega)
      obtain ⟨es, sz, cs, hl, h1⟩ := bk_some h1
      obtain ⟨g, h1⟩ := cond_some h1
      have g : o + l ≤ sz := Nat.le_of_ble_eq_true g
      obtain ⟨q', hq', -, hbr⟩ := hh.live _ _ _ _ hl
      rw [hq] at hq'; injection hq' with hq'; subst hq'
      obtain ⟨vs, hvl, hvc, hvv⟩ := row_of hbr g
      have hvs : VRs ρ (cs.take l (o + 1)) vs := VRs.mk (by rw [TV.take_length, hvl]) fun k cv y hc hy => by
        have hk : k < l := by
          rcases Nat.lt_or_ge k l with hh | hh
          · exact hh
          · rw [List.getElem?_eq_none (by rw [TV.take_length]; exact hh)] at hc; simp at hc
        rw [TV.take_get cs _ _ k hk] at hc
        injection hc with hc; subst hc
        obtain ⟨y', hy', hyv⟩ := hvv k hk
        rw [hy] at hy'; injection hy' with hy'; subst hy'
        rw [show o + 1 + k = o + k + 1 by omega]; exact hyv
      obtain ⟨g4, h1⟩ := cond_some h1
      injection h1 with h1; subst h1
      obtain ⟨by', e1⟩ := bytesW_spec hvs g4
      have hbl : by'.length = l := by rw [← hvl, e1]; simp
      refine ⟨.string ⟨by'.toArray⟩, ?_, VR_w (by rw [← e1]; exact hvs)⟩
      have := run_convert_bytes_back (P := P) w src dst e ⟨q.r, z, none⟩ cap by' hs he hd (fun j hj => by
        rw [hz]
        refine hvc j _ ?_
        rw [e1, List.getElem?_map, List.getElem?_eq_getElem hj]; rfl)
      rw [hbl] at this
      exact this

noncomputable def ustrW (ec : Nat) (bs : TB) (x y : V) : Option (V × TB) := asP x none fun i o => asN y none fun n => cond (Nat.beq n 0) none (bk bs i fun es sz cs => cond (Nat.beq es ec) (cond (Nat.ble (Nat.add o n) sz) (cond (Nat.ble n 1048576)
  (cond (bytesW (cs.take n (Nat.succ o))) (some (.w (cs.take n (Nat.succ o)), bs.set i .none)) none) none) none) none)
theorem snd_ustrW (P : Program) (pt it ty : TypeId) {e : TypeId} (hp : P.underlying pt = some (.pointer e)) (hc : P.cellsOf e = 1) {nx : Pos} {bs bs' : TB} {w : World} (hh : HR ρ nx bs w) {v v' r : V} {x x' : Value} (hv : VR ρ v x) (hv' : VR ρ v' x')
    (hf : ustrW (e * 65536 + 1) bs v v' = some (r, bs')) : ∃ y w', (Builtin.unsafeString_ #[pt, it] ty #[x, x']).run P w = .ok y w' ∧ VR ρ r y ∧ HR ρ nx bs' w' ∧ Ext ρ nx bs w ρ nx bs' w' := by
  obtain ⟨i, o, ev, h1⟩ := asP_some hf
  obtain ⟨n, ev', h2⟩ := asN_some h1
  clear h1 hf
  subst ev; subst ev'
  cases hn0 : Nat.beq n 0 with
  | true => rw [hn0] at h2; cases h2
  | false =>
    rw [hn0, cond_false] at h2
    have hn0 : n ≠ 0 := fun h => by rw [beq_yes h] at hn0; simp at hn0
    obtain ⟨es, sz, cs, hl, h3⟩ := bk_some h2
    obtain ⟨g1, h4⟩ := cond_some h3
    obtain ⟨g2, h5⟩ := cond_some h4
    obtain ⟨g3, h6⟩ := cond_some h5
    clear h5 h4 h3 h2
    have g1 : es = e * 65536 + 1 := Nat.eq_of_beq_eq_true g1
    have g2 : o + n ≤ sz := Nat.le_of_ble_eq_true g2
    have g3 : n ≤ 1048576 := Nat.le_of_ble_eq_true g3
    obtain ⟨q, hq, rfl⟩ := hv.p
    obtain ⟨hn, rfl⟩ := hv'.n
    obtain ⟨q', hq', hes, hbr⟩ := hh.live _ _ _ _ hl
    rw [hq] at hq'; injection hq' with hq'; subst hq'
    have hsz := hbr.size_le (by omega)
    obtain ⟨vs, hvl, hvc, hvv⟩ := row_of hbr g2
    obtain ⟨C, fz, f1, f0, -⟩ := hbr
    have hE : q.s / 65536 = e := by rw [hes.1, g1]; exact (ty_div (by decide)).symm
    rw [hE] at f1
    have hvs : VRs ρ (cs.take n (o + 1)) vs := VRs.mk (by rw [TV.take_length, hvl]) fun k cv y hc hy => by
      have hk : k < n := by
        rcases Nat.lt_or_ge k n with hh | hh
        · exact hh
        · rw [List.getElem?_eq_none (by rw [TV.take_length]; exact hh)] at hc; simp at hc
      rw [TV.take_get cs _ _ k hk] at hc
      injection hc with hc; subst hc
      obtain ⟨y', hy', hyv⟩ := hvv k hk
      rw [hy] at hy'; injection hy' with hy'; subst hy'
      rw [show o + 1 + k = o + k + 1 by omega]; exact hyv
    obtain ⟨g4, h6⟩ := cond_some h6
    injection h6 with h6; injection h6 with e1 e2; subst e1; subst e2
    obtain ⟨by', e1⟩ := bytesW_spec hvs g4
    have hbl : by'.length = n := by rw [← hvl, e1]; simp
    have hr := run_ustr P w pt it ty hp hc (shape_of f1) by' (fun h => by rw [h] at hbl; simp at hbl; omega) (z := q.o + o) (by omega) (by omega) (fun j x hj => hvc j _ (by rw [e1, List.getElem?_map, hj]; rfl))
    rw [hbl] at hr
    have en : IntKind.i64.wrap (n : Int) = n := by rw [wrap_n n hn, if_pos (by omega)]
    rw [en]
    obtain ⟨p1, p2⟩ := hh.lose hl hq (w' := w.freeze ⟨q.r, q.o + o, none⟩ n) (fun b hb => freeze_other w _ _ _ b hb) (freeze_size ..) (freeze_env ..)
    exact ⟨_, _, hr, VR_w (by rw [← e1]; exact hvs), p1, p2⟩

/-- Such a text's bytes as a new slice; appended. -/
theorem strV_y : ∀ (l m : Nat) (v : V), (∀ k, v ≠ .y k) → v ∉ strV l m
  | 0, _, _, _, h => by cases h
  | l + 1, m, v, hv, h => by
    rw [strV_succ] at h
    cases h with
    | head => exact hv _ rfl
    | tail _ h => exact strV_y l _ v hv h
noncomputable def cvSLW (ec : Nat) (x : V) : Option NV := asW x none fun cs => cond (Nat.ble (llen cs) 1048576) (some (.l ec (llen cs) 0 cs)) none
theorem snd_cvSLW (P : Program) {src dst e : TypeId} (hs : P.underlying src = some .string) (hd : P.underlying dst = some (.slice e)) (he : P.underlying e = some (.int .u8)) (w : World) {v : V} {x : Value} (hv : VR ρ v x) {n : NV}
    (hf : cvSLW (e * 65536 + 1) v = some n) : NSnd ρ w n ((convert src dst x).run P w) := by
  obtain ⟨cs, rfl, h1⟩ := asW_some hf
  obtain ⟨g, h2⟩ := cond_some h1
  have g : llen cs ≤ 1048576 := Nat.le_of_ble_eq_true g
  injection h2 with h2; subst h2
  obtain ⟨l, rfl, h3⟩ := wOf_snd (v := .w cs) (cs := cs) rfl hv
  rw [h3.llen] at g ⊢
  obtain ⟨y, w', C, fz, k1, k2, k3, k4, k5, k6, k7⟩ := snd_cvSL P hs hd he w (VR_str (ρ := ρ) l) (n := .l (e * 65536 + 1) l.length 0 (strV l.length (enc l))) (by
    show cond (Nat.ble l.length 1048576) _ none = _
    rw [show Nat.ble l.length 1048576 = true from Nat.ble_eq_true_of_le g]; rfl)
  have hlen : cs.length = l.length := by rw [h3.length]; simp
  refine ⟨y, w', C, fz, k1, k2, k3, by show cs.length ≤ _; omega, fun k c hk => ?_, k6, k7⟩
  have hk : cs[k]? = some c := hk
  have hkl : k < l.length := by rw [← hlen]; exact (List.getElem?_eq_some_iff.1 hk).1
  obtain ⟨z, hz1, hz2⟩ := h3.get k c hk
  have hst : k < (strV l.length (enc l)).length := by rw [strV_len]; exact hkl
  obtain ⟨z2, hz3, hz4⟩ := k5 k ((strV l.length (enc l))[k]'hst) (List.getElem?_eq_getElem hst)
  have hs5 := strV_VRs (ρ := ρ) l
  obtain ⟨z3, hz5, hz6⟩ := hs5.get k ((strV l.length (enc l))[k]'hst) (List.getElem?_eq_getElem hst)
  rw [hz1] at hz5
  injection hz5 with hz5
  subst hz5
  refine ⟨z2, hz3, ?_⟩
  have e1 : z2 = z := by
    cases hc : (strV l.length (enc l))[k]'hst with
    | y m => rw [hc] at hz4 hz6; rw [hz4.y.2, hz6.y.2]
    | _ =>
      have hm : (strV l.length (enc l))[k]'hst ∈ strV l.length (enc l) := List.getElem_mem _
      rw [hc] at hm
      exact absurd hm (strV_y _ _ _ (by intro m; intro hh; cases hh))
  rw [e1]; exact hz2
noncomputable def appW (ec : Nat) (nx : Pos) (bs : TB) (s x : V) : Option AR :=
  asW x none fun cs => cond (Nat.beq (llen cs) 0) none (cond (Nat.ble (llen cs) 1048576) (appC ec 1 nx bs s (llen cs) 0 (into cs .e 1)) none)
theorem snd_appW (P : Program) {t t2 ty e : TypeId} {i : TypeInfo} {z : Value} (ok : AppOk P t e i z) (h1 : i.size = 1) (ht2 : P.underlying t2 = some .string) {nx nx' : Pos} {bs bs' : TB} {w : World} (hh : HR ρ nx bs w) {v v' r : V} {x x' : Value} (hv : VR ρ v x) (hv' : VR ρ v' x')
    (hf : appW (e * 65536 + 1) nx bs v v' = some (.mk r nx' bs')) :
    ∃ y w' ρ', (Builtin.append_ #[t, t2] ty #[x, x']).run P w = .ok y w' ∧ VR ρ' r y ∧ HR ρ' nx' bs' w' ∧ Ext ρ nx bs w ρ' nx' bs' w' := by
  obtain ⟨cs, rfl, h2⟩ := asW_some hf
  obtain ⟨l, rfl, h3⟩ := wOf_snd (v := .w cs) (cs := cs) rfl hv'
  cases hl0 : Nat.beq (llen cs) 0 with
  | true => rw [hl0] at h2; cases h2
  | false =>
    rw [hl0, cond_false] at h2
    have hl0 : llen cs ≠ 0 := fun h => by rw [beq_yes h] at hl0; cases hl0
    obtain ⟨g, h2⟩ := cond_some h2
    have g : llen cs ≤ 1048576 := Nat.le_of_ble_eq_true g
    have hsrc := src_string P w ht2 (⟨l.toArray⟩ : ByteArray)
    have e1 : (⟨l.toArray⟩ : ByteArray).data.toList = l := by simp
    rw [e1, ← h3.llen, ← h1] at hsrc
    refine snd_appC P ok hh hv (b := 0) (ds := into cs .e 1) hsrc hl0 (fun j hj => ?_) (by rw [h1]; exact h2)
    rw [h1, Nat.mul_one, llen_eq] at hj
    obtain ⟨y, hy, hyv⟩ := h3.get j _ (List.getElem?_eq_getElem hj)
    refine ⟨y, hy, ?_⟩
    rw [Nat.zero_add, into_at' cs j _ (List.getElem?_eq_getElem hj) (by rw [llen_eq] at g; omega)]
    exact hyv

end Go.Proofs.YtmbnogellhoheaaGreatDoor.Ev

/- Operands: where an operation finds its values. -/
namespace Go.Proofs.YtmbnogellhoheaaGreatDoor.Ev
open Go
variable {ρ : Rho}

/-- Where a value lies: on the region's list (from its beginning), in a slot, or it is written out. -/
inductive D where
  | l (m : Nat)
  | s (t : Nat)
  | c (v : V)
/-- What the region's text knows of the temporaries: the younger ones first. -/
abbrev Env := List (Nat × D)
def Env.look (E : Env) (t : Nat) : Option D := match E with
  | [] => none
  | (u, d) :: E => if u = t then some d else Env.look E t
/-- The same, for the kernel. -/
def Env.lookF (E : Env) (t : Nat) : Option D := match E with
  | [] => none
  | (u, d) :: E => bif Nat.beq u t then some d else Env.lookF E t
theorem Env.lookF_eq (t : Nat) : ∀ E : Env, E.lookF t = E.look t
  | [] => rfl
  | (u, d) :: E => by
    unfold Env.lookF Env.look
    by_cases h : u = t
    · rw [beq_yes h, if_pos h]; rfl
    · rw [beq_no h, if_neg h]; exact Env.lookF_eq t E
/-- What a name below 64 stands for that nobody writes: a block, or a value. -/
inductive Fx where
  | ob (r : Nat) (o : Obj)
  | v (x : Value)
/-- Atoms: the numbers and the things that they stand for; what operations on them give. -/
structure ATab where
  val : Pos → Option Nat
  fx : Pos → Option Fx
  bin : BinOp → V → V → Option V
  cvt : IntKind → V → Option V
def ValR (val : Pos → Option Nat) (ρ : Rho) : Prop := ∀ id m, val id = some m → ∃ q, ρ id = some q ∧ q.n = m
/-- What is told of operations on atoms is so. -/
structure ATab.OK (A : ATab) : Prop where
  bin : ∀ ρ, ValR A.val ρ → ∀ op v v' r, A.bin op v v' = some r → ∀ (P : Program) (t : TypeId) (ox oy : Operand) (w : World) (x x' : Value), VR ρ v x → VR ρ v' x' → ∃ y, (cbin op t ox oy x x').run P w = .ok y w ∧ VR ρ r y
  cvt : ∀ ρ, ValR A.val ρ → ∀ k v r, A.cvt k v = some r → ∀ x, VR ρ v x → ∃ j z, x = .int j z ∧ VR ρ r (.int k (k.wrap z))
/-- What a compiled function looks up: kept slots, globals' names. -/
structure Ctx where
  kept : Nat → Bool
  glob : Nat → Option Pos
  at_ : Bool
  tab : ATab
abbrev X := List V → TS → V
noncomputable def xl (k : Nat) : X := fun L _ => nth k L
noncomputable def xs (p : Pos) : X := fun _ T => T.get p
noncomputable def xc (v : V) : X := fun _ _ => v
noncomputable def D.x (n : Nat) : D → X
  | .l m => xl (n - 1 - m)
  | .s t => xs (pos t)
  | .c v => xc v
/-- A place is there, when the list has n values. -/
def D.ok (n : Nat) : D → Bool
  | .l m => decide (m < n)
  | _ => true
noncomputable def cxD (G : Ctx) (E : Env) : Operand → Option D
  | .tmp t => match E.lookF t with
    | some d => some d
    | none => bif G.kept t then some (.s t) else none
  | .const v => (cval v).map .c
  | .global g => (G.glob g).map fun p => .c (.p p 0)
  | .func f => some (.c (.f (pos f) []))

/-- Globals lie where the names say; names below 64 stand for what is told. -/
structure GR (G : Ctx) (ρ : Rho) : Prop where
  glob : ∀ g p, G.glob g = some p → p.val < 64 ∧ ∃ q, ρ p = some q ∧ q.r = g ∧ q.o = 0
  val : ∀ id m, G.tab.val id = some m → id.val < 64 ∧ ∃ q, ρ id = some q ∧ q.n = m
  fxo : ∀ id r o, G.tab.fx id = some (.ob r o) → id.val < 64 ∧ ∃ q, ρ id = some q ∧ q.r = r ∧ q.o = 0 ∧ q.ob = some o
  fxv : ∀ id x, G.tab.fx id = some (.v x) → id.val < 64 ∧ ∃ q, ρ id = some q ∧ q.v = some x
  ok : G.tab.OK
theorem GR.mono {G : Ctx} {ρ ρ' : Rho} (h : ρ.le ρ') (hg : GR G ρ) : GR G ρ' :=
  ⟨fun g p e => by obtain ⟨h0, q, h1, h2⟩ := hg.glob g p e; exact ⟨h0, q, h _ _ h1, h2⟩,
   fun id m e => by obtain ⟨h0, q, h1, h2⟩ := hg.val id m e; exact ⟨h0, q, h _ _ h1, h2⟩,
   fun id r o e => by obtain ⟨h0, q, h1, h2⟩ := hg.fxo id r o e; exact ⟨h0, q, h _ _ h1, h2⟩,
   fun id x e => by obtain ⟨h0, q, h1, h2⟩ := hg.fxv id x e; exact ⟨h0, q, h _ _ h1, h2⟩, hg.ok⟩
theorem GR.valR {G : Ctx} {ρ : Rho} (hg : GR G ρ) : ValR G.tab.val ρ := fun id m e => (hg.val id m e).2
theorem GR.cast {G G' : Ctx} {ρ : Rho} (hg : GR G ρ) (e1 : G'.glob = G.glob) (e2 : G'.tab = G.tab) : GR G' ρ :=
  ⟨fun g p e => hg.glob g p (by rw [← e1]; exact e), fun id m e => hg.val id m (by rw [← e2]; exact e), fun id r o e => hg.fxo id r o (by rw [← e2]; exact e), fun id x e => hg.fxv id x (by rw [← e2]; exact e), by rw [e2]; exact hg.ok⟩
/-- Names that stand for the same under another table of operations. -/
theorem GR.other {G G' : Ctx} {ρ : Rho} (hg : GR G ρ) (e1 : G'.glob = G.glob) (e2 : G'.tab.val = G.tab.val) (e3 : G'.tab.fx = G.tab.fx) (hok : G'.tab.OK) : GR G' ρ :=
  ⟨fun g p e => hg.glob g p (by rw [← e1]; exact e), fun id m e => hg.val id m (by rw [← e2]; exact e), fun id r o e => hg.fxo id r o (by rw [← e3]; exact e), fun id x e => hg.fxv id x (by rw [← e3]; exact e), hok⟩
/-- The temporaries of an act, as the evaluator's list and slots say them. -/
structure ER (G : Ctx) (ρ : Rho) (E : Env) (L : List V) (T : TS) (a : Act) : Prop where
  env : ∀ t d, E.look t = some d → d.ok L.length = true ∧ VR ρ (d.x L.length L T) (a.tmps.getD t undef)
  slot : ∀ t, E.look t = none → G.kept t = true → VR ρ (T.get (pos t)) (a.tmps.getD t undef)
  glob : GR G ρ
theorem ER.mono {G : Ctx} {ρ ρ' : Rho} {E : Env} {L : List V} {T : TS} {a : Act} (h : ρ.le ρ') (he : ER G ρ E L T a) : ER G ρ' E L T a :=
  ⟨fun t d e => ⟨(he.env t d e).1, VR.mono h _ _ (he.env t d e).2⟩, fun t e k => VR.mono h _ _ (he.slot t e k), he.glob.mono h⟩
theorem nth_push {L : List V} {m : Nat} (v : V) (h : m < L.length) : nth (L.length + 1 - 1 - m) (v :: L) = nth (L.length - 1 - m) L := by
  rw [nth_eq, nth_eq]
  have e : L.length + 1 - 1 - m = (L.length - 1 - m) + 1 := by omega
  rw [e, List.getElem?_cons_succ]
theorem D.x_push {d : D} {L : List V} {T : TS} (v : V) (h : d.ok L.length = true) : d.x (L.length + 1) (v :: L) T = d.x L.length L T := by
  cases d with
  | l m => exact nth_push v (by simpa [D.ok] using h)
  | s t => rfl
  | c v => rfl
theorem D.ok_push {d : D} {n : Nat} (h : d.ok n = true) : d.ok (n + 1) = true := by
  cases d with
  | l m => simp [D.ok] at h ⊢; omega
  | s t => rfl
  | c v => rfl
theorem cxD_snd {G : Ctx} {E : Env} {L : List V} {T : TS} {a : Act} (he : ER G ρ E L T a) {x : Operand} {d : D} (h : cxD G E x = some d) : d.ok L.length = true ∧ VR ρ (d.x L.length L T) (a.eval x) := by
  cases x with
  | tmp t =>
    simp only [cxD, Env.lookF_eq] at h
    cases hl : E.look t with
    | some d' =>
      rw [hl] at h
      injection h with h; subst h
      exact he.env t d' hl
    | none =>
      rw [hl] at h
      cases hk : G.kept t with
      | true =>
        rw [hk] at h
        have h : some (D.s t) = some d := h
        injection h with h; subst h
        exact ⟨rfl, he.slot t hl hk⟩
      | false => rw [hk] at h; cases h
  | const v =>
    obtain ⟨c, hc, rfl⟩ := Option.map_eq_some_iff.1 h
    exact ⟨rfl, cval_VR hc⟩
  | global g =>
    obtain ⟨p, hp, rfl⟩ := Option.map_eq_some_iff.1 h
    obtain ⟨-, q, hq, h1, h2⟩ := he.glob.glob g p hp
    refine ⟨rfl, ?_⟩
    show VR ρ (.p p 0) (.pointer (some ⟨g, 0, none⟩))
    unfold VR
    exact ⟨q, hq, by rw [h1, h2]⟩
  | func f =>
    simp only [cxD] at h
    injection h with h; subst h
    refine ⟨rfl, ?_⟩
    show VR ρ (.f (pos f) []) (.func (.func f) #[] #[])
    unfold VR
    exact ⟨f, rfl, rfl, rfl, by simp [VRs]⟩

/-- A temporary put: by a value that has just come onto the list. -/
theorem ER.push {G : Ctx} {E : Env} {L : List V} {T : TS} {a : Act} (he : ER G ρ E L T a) {v : V} {y : Value} (hv : VR ρ v y) {t : Nat} (ht : t < a.tmps.size) : ER G ρ ((t, .l L.length) :: E) (v :: L) T (a.put (some t) y) := by
  have hput : ∀ u, (a.put (some t) y).tmps.getD u undef = if u = t then y else a.tmps.getD u undef := fun u => by
    show (a.tmps.setIfInBounds t y).getD u undef = _
    by_cases h : u = t
    · subst h; simp [ht]
    · rw [if_neg h]; simp [Array.getElem?_setIfInBounds_ne (Ne.symm h)]
  refine ⟨fun u d hl => ?_, fun u hl hk => ?_, he.glob⟩
  · rw [hput]
    simp only [Env.look] at hl
    split at hl
    · rename_i e
      injection hl with hl; subst hl
      subst e
      rw [if_pos rfl]
      refine ⟨by simp [D.ok], ?_⟩
      show VR ρ (nth ((v :: L).length - 1 - L.length) (v :: L)) y
      have e0 : (v :: L).length - 1 - L.length = 0 := by simp
      rw [e0]; exact hv
    · rename_i e
      rw [if_neg (fun h => e h.symm)]
      obtain ⟨h1, h2⟩ := he.env u d hl
      exact ⟨D.ok_push h1, by rw [List.length_cons, D.x_push v h1]; exact h2⟩
  · rw [hput]
    simp only [Env.look] at hl
    split at hl
    · simp at hl
    · rename_i e
      rw [if_neg (fun h => e h.symm)]
      exact he.slot u hl hk
/-- A value that no temporary takes. -/
theorem ER.skip {G : Ctx} {E : Env} {L : List V} {T : TS} {a : Act} (he : ER G ρ E L T a) (v : V) : ER G ρ E (v :: L) T a :=
  ⟨fun u d hl => by obtain ⟨h1, h2⟩ := he.env u d hl; exact ⟨D.ok_push h1, by rw [List.length_cons, D.x_push v h1]; exact h2⟩, he.slot, he.glob⟩
/-- A temporary put: by a value that lies somewhere already. -/
theorem ER.alias {G : Ctx} {E : Env} {L : List V} {T : TS} {a : Act} (he : ER G ρ E L T a) {d : D} {y : Value} (hd : d.ok L.length = true) (hv : VR ρ (d.x L.length L T) y) {t : Nat} (ht : t < a.tmps.size) : ER G ρ ((t, d) :: E) L T (a.put (some t) y) := by
  have hput : ∀ u, (a.put (some t) y).tmps.getD u undef = if u = t then y else a.tmps.getD u undef := fun u => by
    show (a.tmps.setIfInBounds t y).getD u undef = _
    by_cases h : u = t
    · subst h; simp [ht]
    · rw [if_neg h]; simp [Array.getElem?_setIfInBounds_ne (Ne.symm h)]
  refine ⟨fun u d' hl => ?_, fun u hl hk => ?_, he.glob⟩
  · rw [hput]
    simp only [Env.look] at hl
    split at hl
    · rename_i e
      injection hl with hl; subst hl
      subst e
      rw [if_pos rfl]; exact ⟨hd, hv⟩
    · rename_i e
      rw [if_neg (fun h => e h.symm)]
      exact he.env u d' hl
  · rw [hput]
    simp only [Env.look] at hl
    split at hl
    · simp at hl
    · rename_i e
      rw [if_neg (fun h => e h.symm)]
      exact he.slot u hl hk

end Go.Proofs.YtmbnogellhoheaaGreatDoor.Ev

/- Operations in their classes: pure ones, reads, new blocks, effects. -/
namespace Go.Proofs.YtmbnogellhoheaaGreatDoor.Ev
open Go
variable {ρ : Rho}

inductive RC where
  | fail
  | mk (v : V) (nx : Pos) (bs : TB)
abbrev CallF := Pos → List V → Pos → TB → RC
/-- A compiled operation. -/
inductive OC where
  | pu (f : List V → TS → Option V)
  | ld (f : List V → TS → TB → Option V)
  | al (f : List V → TS → Option NV)
  | ef (f : CallF → List V → TS → Pos → TB → RC)

/-- What a run leaves behind: the operation is through, its temporary takes y. -/
def Thru (P : Program) (o : Oper) (a : Act) (w : World) (y : Value) (w' : World) : Prop :=
  (execOp a.eval o).run P w = .ok (.value y) w' ∨ ((execOp a.eval o).run P w = .ok .skip w' ∧ y = undef)
theorem Thru.wp {P : Program} {o : Oper} {a : Act} {w w' : World} {y : Value} (h : Thru P o a w y w') {next : Act → World → Prop} {Q : Exit → Act → World → Prop} (hn : next (a.put o.dst y) w') : o.wp P a w next Q := by
  unfold Oper.wp
  rcases h with h | ⟨h, rfl⟩
  · rw [h]; exact hn
  · rw [h]; exact hn
/-- A function of the evaluator's is a call of the model's. -/
def CallSnd (P : Program) (G : Ctx) (F : CallF) : Prop :=
  ∀ (ρ : Rho) (f : FuncId) (as : List V) (xs : Array Value) (nx nx' : Pos) (bs bs' : TB) (v : V) (w : World), GR G ρ → VRs ρ as xs.toList → HR ρ nx bs w → F (pos f) as nx bs = .mk v nx' bs' →
    (callFunc f xs).run P w = .ok (.enter f xs) w ∧ Calls P f xs w fun e w' => ∃ y ρ', e = .returned y ∧ VR ρ' v y ∧ HR ρ' nx' bs' w' ∧ Ext ρ nx bs w ρ' nx' bs' w'
theorem CallSnd.cast {P : Program} {G G' : Ctx} {F : CallF} (h : CallSnd P G F) (e1 : G'.glob = G.glob) (e2 : G'.tab = G.tab) : CallSnd P G' F := by
  intro ρ f as xs nx nx' bs bs' v w hg
  exact h ρ f as xs nx nx' bs bs' v w (hg.cast e1.symm e2.symm)
/-- What a compiled operation says of one of the model's, under an environment and so many values made. -/
def OCS (P : Program) (G : Ctx) (E : Env) (n : Nat) (o : Oper) : OC → Prop
  | .pu f => ∀ (ρ : Rho) (L : List V) (T : TS) (a : Act) (v : V) (w : World), L.length = n → ER G ρ E L T a → f L T = some v → ∃ y, Thru P o a w y w ∧ VR ρ v y
  | .ld f => ∀ (ρ : Rho) (L : List V) (T : TS) (a : Act) (nx : Pos) (bs : TB) (v : V) (w : World), L.length = n → ER G ρ E L T a → HR ρ nx bs w → f L T bs = some v → ∃ y, Thru P o a w y w ∧ VR ρ v y
  | .al f => ∀ (ρ : Rho) (L : List V) (T : TS) (a : Act) (v : NV) (w : World), L.length = n → ER G ρ E L T a → f L T = some v →
      ∃ res : Result Value, NSnd ρ w v res ∧ ∀ y w', res = .ok y w' → Thru P o a w y w'
  | .ef f => ∀ (F : CallF), CallSnd P G F → ∀ (ρ : Rho) (L : List V) (T : TS) (a : Act) (nx nx' : Pos) (bs bs' : TB) (v : V) (w : World), L.length = n → ER G ρ E L T a → HR ρ nx bs w → f F L T nx bs = .mk v nx' bs' →
      ∀ (next : Act → World → Prop) (Q : Exit → Act → World → Prop), (∀ ρ' y w', VR ρ' v y → HR ρ' nx' bs' w' → Ext ρ nx bs w ρ' nx' bs' w' → next (a.put o.dst y) w') → o.wp P a w next Q

theorem run_value {P : Program} {w w' : World} {s : Sem Value} {y : Value} (h : s.run P w = .ok y w') : (do pure (Next.value (← s)) : Sem Next).run P w = .ok (.value y) w' := by
  rw [Sem.run_bind, h]; rfl
theorem run_skip {P : Program} {w w' : World} {s : Sem Unit} (h : s.run P w = .ok () w') : (do s; pure Next.skip : Sem Next).run P w = .ok .skip w' := by
  rw [Sem.run_bind, h]; rfl

/-! ### pure operations of one and two operands -/
section
variable {P : Program} {G : Ctx} {E : Env} {n : Nat} {o : Oper}
theorem ocs_bin {op : BinOp} {t ty : TypeId} {x y : Operand} {dx dy : D} {g : V → V → Option V} (ho : o.op = .binOp op t x y ty) (hx : cxD G E x = some dx) (hy : cxD G E y = some dy) (hg : Snd2 P g (cbin op t x y)) :
    OCS P G E n o (.pu fun L T => g (dx.x n L T) (dy.x n L T)) := by
  intro ρ L T a v w hn he hf
  subst hn
  obtain ⟨z, h1, h2⟩ := hg ρ _ _ _ _ v w (cxD_snd he hx).2 (cxD_snd he hy).2 hf
  refine ⟨z, .inl ?_, h2⟩
  unfold execOp
  rw [ho]
  exact run_value h1
/-- An operation of one operand that is a run of values. -/
theorem ocs_one {c : Value → Sem Value} {x : Operand} {dx : D} {g : V → Option V} (ho : ∀ a : Act, execOp a.eval o = do pure (Next.value (← c (a.eval x)))) (hx : cxD G E x = some dx) (hg : Snd1 P g c) :
    OCS P G E n o (.pu fun L T => g (dx.x n L T)) := by
  intro ρ L T a v w hn he hf
  subst hn
  obtain ⟨z, h1, h2⟩ := hg ρ _ _ v w (cxD_snd he hx).2 hf
  exact ⟨z, .inl (by rw [ho]; exact run_value h1), h2⟩
theorem ocs_two {c : Value → Value → Sem Value} {x y : Operand} {dx dy : D} {g : V → V → Option V} (ho : ∀ a : Act, execOp a.eval o = do pure (Next.value (← c (a.eval x) (a.eval y)))) (hx : cxD G E x = some dx) (hy : cxD G E y = some dy) (hg : Snd2 P g c) :
    OCS P G E n o (.pu fun L T => g (dx.x n L T) (dy.x n L T)) := by
  intro ρ L T a v w hn he hf
  subst hn
  obtain ⟨z, h1, h2⟩ := hg ρ _ _ _ _ v w (cxD_snd he hx).2 (cxD_snd he hy).2 hf
  exact ⟨z, .inl (by rw [ho]; exact run_value h1), h2⟩
end

end Go.Proofs.YtmbnogellhoheaaGreatDoor.Ev

/- Compiled: operations of two operands. -/
namespace Go.Proofs.YtmbnogellhoheaaGreatDoor.Ev
open Go

/-- The evaluator's function for a binary operation. -/
noncomputable def binG (Y : TI) (op : BinOp) (t ty : TypeId) (x y : Operand) : Option (V → V → Option V) :=
  match Y.und t with
  | some (.int .i64) => match op with
    | .add => some addN | .sub => some subN | .mul => some mulN | .quo => some quoN | .rem => some remN
    | .eql => some eqlN | .neq => some neqN | .lss => some lssN | .leq => some leqN | .gtr => some gtrN | .geq => some geqN
    | .and => some andN | .or => some orN | .xor => some xorN
    | .shr => match Y.und ty with
      | some (.int .i64) => some shrN
      | _ => some shrK
    | _ => none
  | some (.int .u8) => match op with
    | .add => some addY | .sub => some subY
    | .eql => some eqlY | .neq => some neqY | .lss => some lssY | .leq => some leqY | .gtr => some gtrY | .geq => some geqY
    | _ => none
  | some .string => match op with
    | .add => some catS | .eql => some eqlS | .neq => some neqS | .lss => some lssS | .leq => some leqS | .gtr => some gtrS | .geq => some geqS
    | _ => none
  | some .bool => match op with
    | .eql => some eqlB | .neq => some neqB
    | _ => none
  | some (.slice _) => match op with
    | .eql => some eqlL | .neq => some neqL
    | _ => none
  | some (.pointer e) => match Y.inf e with
    | some _ => match op with
      | .eql => some (samP fun c => .b c) | .neq => some (samP fun c => .b (not c))
      | _ => none
    | none => none
  | some (.interface _) => if (isCon x || isCon y) = true then (match op with
      | .eql => some eqlI | .neq => some neqI
      | _ => none) else none
  | some (.struct fs) => if Y.sih t = false ∧ Y.egt t = false then (match eplan Y fs.toList with
      | some ps => match op with
        | .eql => some (eqlG ps) | .neq => some (neqG ps)
        | _ => none
      | none => none) else none
  | _ => none
theorem binG_snd (P : Program) {op : BinOp} {t ty : TypeId} {x y : Operand} {g : V → V → Option V} (h : binG (tiOf P) op t ty x y = some g) : Snd2 P g (cbin op t x y) := by
  unfold binG at h
  split at h
  · split at h
    all_goals first
      | (injection h with h; subst h; first | with_reducible exact snd_addN P t x y | with_reducible exact snd_subN P t x y | with_reducible exact snd_mulN P t x y | with_reducible exact snd_quoN P t x y | with_reducible exact snd_remN P t x y | with_reducible exact snd_eqlN P t x y | with_reducible exact snd_neqN P t x y | with_reducible exact snd_lssN P t x y | with_reducible exact snd_leqN P t x y | with_reducible exact snd_gtrN P t x y | with_reducible exact snd_geqN P t x y | with_reducible exact snd_andN P t x y | with_reducible exact snd_orN P t x y | with_reducible exact snd_xorN P t x y)
      | (split at h <;> (injection h with h; subst h; first | with_reducible exact snd_shrN P t x y | with_reducible exact snd_shrK P t x y))
      | cases h
  · split at h
    all_goals first
      | (injection h with h; subst h; first | with_reducible exact snd_addY P t x y | with_reducible exact snd_subY P t x y | with_reducible exact snd_eqlY P t x y | with_reducible exact snd_neqY P t x y | with_reducible exact snd_lssY P t x y | with_reducible exact snd_leqY P t x y | with_reducible exact snd_gtrY P t x y | with_reducible exact snd_geqY P t x y)
      | cases h
  · split at h
    all_goals first
      | (injection h with h; subst h; first | with_reducible exact snd_catS P t x y | with_reducible exact snd_eqlS P t x y | with_reducible exact snd_neqS P t x y | with_reducible exact snd_lssS P t x y | with_reducible exact snd_leqS P t x y | with_reducible exact snd_gtrS P t x y | with_reducible exact snd_geqS P t x y)
      | cases h
  · rename_i hu
    split at h
    all_goals first
      | (injection h with h; subst h; first | with_reducible exact snd_eqlB P t x y hu | with_reducible exact snd_neqB P t x y hu)
      | cases h
  · rename_i hu
    split at h
    all_goals first
      | (injection h with h; subst h; first | with_reducible exact snd_eqlL P x y hu | with_reducible exact snd_neqL P x y hu)
      | cases h
  · rename_i hu
    split at h
    · rename_i hi
      split at h
      all_goals first
        | (injection h with h; subst h; first | with_reducible exact snd_eqlPP P x y hu hi | with_reducible exact snd_neqPP P x y hu hi)
        | cases h
    · cases h
  · rename_i hu
    split at h
    · rename_i hc
      split at h
      all_goals first
        | (injection h with h; subst h; first | with_reducible exact snd_eqlI P hc hu | with_reducible exact snd_neqI P hc hu)
        | cases h
    · cases h
  · rename_i fs hu
    have hu : P.underlying t = some (.struct fs) := hu
    have hf : P.fieldsOf t = fs := by unfold Program.fieldsOf; rw [hu]
    have hu' : P.underlying t = some (.struct (P.fieldsOf t)) := by rw [hf]; exact hu
    split at h
    · rename_i hc
      split at h
      · rename_i ps hp
        rw [← hf] at hp
        split at h
        all_goals first
          | (injection h with h; subst h; first | with_reducible exact snd_eqlG P x y hu' hc.1 hc.2 hp | with_reducible exact snd_neqG P x y hu' hc.1 hc.2 hp)
          | cases h
      · cases h
    · cases h
  · cases h

end Go.Proofs.YtmbnogellhoheaaGreatDoor.Ev
