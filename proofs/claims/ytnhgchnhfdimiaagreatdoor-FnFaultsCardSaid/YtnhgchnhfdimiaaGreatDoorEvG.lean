/- Parts of tuples and structs, structs built, places, comparisons with nothing, comparisons of structs. -/
import Derived.Test.YtnhgchnhfdimiaaGreatDoorEvF
import Derived.Laws.StructEq
namespace Go.Proofs.YtnhgchnhfdimiaaGreatDoor.Ev
open Go

/-! ### lists, by recursors -/
noncomputable def nthO (k : Nat) (L : List V) : Option V :=
  Nat.rec (motive := fun _ => List V → Option V) (fun L => List.casesOn L none (fun h _ => some h)) (fun _ ih L => List.casesOn L none (fun _ t => ih t)) k L
theorem nthO_eq : ∀ (k : Nat) (L : List V), nthO k L = L[k]?
  | 0, [] => rfl
  | 0, _ :: _ => rfl
  | _ + 1, [] => rfl
  | k + 1, _ :: L => nthO_eq k L
noncomputable def dropL (k : Nat) (L : List V) : List V := Nat.rec (motive := fun _ => List V → List V) (fun L => L) (fun _ ih L => List.casesOn L [] (fun _ t => ih t)) k L
theorem dropL_eq : ∀ (k : Nat) (L : List V), dropL k L = L.drop k
  | 0, _ => rfl
  | _ + 1, [] => rfl
  | k + 1, _ :: L => dropL_eq k L
noncomputable def takeL (k : Nat) (L : List V) : List V := Nat.rec (motive := fun _ => List V → List V) (fun _ => []) (fun _ ih L => List.casesOn L [] (fun h t => h :: ih t)) k L
theorem takeL_eq : ∀ (k : Nat) (L : List V), takeL k L = L.take k
  | 0, _ => rfl
  | _ + 1, [] => rfl
  | k + 1, h :: L => congrArg (h :: ·) (takeL_eq k L)
/-- Cells laid over a list from its beginning, and from a place. -/
noncomputable def over (cs L : List V) : List V := List.rec (motive := fun _ => List V → List V) (fun L => L) (fun c _ ih L => List.casesOn L [] (fun _ t => c :: ih t)) cs L
noncomputable def splice (off : Nat) (cs L : List V) : List V := Nat.rec (motive := fun _ => List V → List V) (over cs) (fun _ ih L => List.casesOn L [] (fun h t => h :: ih t)) off L
theorem over_length : ∀ cs L : List V, (over cs L).length = L.length
  | [], _ => rfl
  | _ :: _, [] => rfl
  | _ :: cs, _ :: L => congrArg (· + 1) (over_length cs L)
theorem over_get : ∀ (cs L : List V) (k : Nat), (over cs L)[k]? = if k < cs.length ∧ k < L.length then cs[k]? else L[k]?
  | [], L, k => by rw [if_neg (by simp)]; rfl
  | _ :: _, [], k => by rw [if_neg (by simp)]; rfl
  | c :: cs, h :: L, 0 => by rw [if_pos (by simp)]; rfl
  | c :: cs, h :: L, k + 1 => by
    show (c :: over cs L)[k + 1]? = _
    rw [List.getElem?_cons_succ, over_get cs L k]; simp
theorem splice_length : ∀ (off : Nat) (cs L : List V), (splice off cs L).length = L.length
  | 0, cs, L => over_length cs L
  | _ + 1, _, [] => rfl
  | off + 1, cs, _ :: L => congrArg (· + 1) (splice_length off cs L)
theorem splice_get : ∀ (off : Nat) (cs L : List V) (k : Nat), (splice off cs L)[k]? = if off ≤ k ∧ k < off + cs.length ∧ k < L.length then cs[k - off]? else L[k]?
  | 0, cs, L, k => by
    rw [show splice 0 cs L = over cs L from rfl, over_get]; simp
  | off + 1, cs, [], k => by rw [if_neg (by simp)]; rfl
  | off + 1, cs, h :: L, 0 => by rw [if_neg (by simp)]; rfl
  | off + 1, cs, h :: L, k + 1 => by
    show (h :: splice off cs L)[k + 1]? = _
    rw [List.getElem?_cons_succ, splice_get off cs L k, List.getElem?_cons_succ]
    have e : k + 1 - (off + 1) = k - off := by omega
    rw [e]
    by_cases hh : off ≤ k ∧ k < off + cs.length ∧ k < L.length
    · rw [if_pos hh, if_pos (by simp only [List.length_cons]; omega)]
    · rw [if_neg hh, if_neg (by simp only [List.length_cons]; omega)]

/-! ### parts -/
variable {ρ : Rho}
noncomputable def extT (k : Nat) (x : V) : Option V := asT x none (nthO k)
theorem snd_extT (P : Program) (k : Nat) : Snd1 P (extT k) (fun x => Instr.extract x k) := by
  intro ρ v x r w hv hf
  obtain ⟨cs, ea, h1⟩ := asT_some hf
  subst ea
  obtain ⟨xs, rfl, hx⟩ := hv.t
  rw [nthO_eq] at h1
  obtain ⟨y, hy, hr⟩ := hx.get k r h1
  refine ⟨y, ?_, hr⟩
  show (Instr.extract (.tuple xs) k).run P w = _
  unfold Instr.extract
  rw [Array.getElem?_toList] at hy
  simp [hy]
theorem run_isAgg (P : Program) (w : World) {t : TypeId} {d : TypeDesc} (h : P.underlying t = some d) :
    (isAgg t).run P w = .ok (match d with | .struct _ | .array _ _ => true | _ => false) w := by
  unfold isAgg; rw [Sem.run_bind, run_underlying P w h, Result.andThen_ok]; cases d <;> rfl
/-- A type of one cell. -/
def scal (Y : TI) (t : TypeId) : Bool := match Y.und t with | some (.struct _) | some (.array _ _) | none => false | _ => true
theorem run_isAgg_scal (P : Program) (w : World) {t : TypeId} (h : scal (tiOf P) t = true) : (isAgg t).run P w = .ok false w := by
  unfold scal at h
  dsimp only [tiOf] at h
  cases hu : P.underlying t with
  | none => rw [hu] at h; simp at h
  | some d => rw [hu] at h; rw [run_isAgg P w hu]; cases d <;> first | rfl | simp at h
def aggr (Y : TI) (t : TypeId) : Bool := match Y.und t with | some (.struct _) | some (.array _ _) => true | _ => false
theorem run_isAgg_aggr (P : Program) (w : World) {t : TypeId} (h : aggr (tiOf P) t = true) : (isAgg t).run P w = .ok true w := by
  unfold aggr at h
  dsimp only [tiOf] at h
  cases hu : P.underlying t with
  | none => rw [hu] at h; simp at h
  | some d => rw [hu] at h; rw [run_isAgg P w hu]; cases d <;> first | rfl | simp at h
theorem run_part_scal (P : Program) (w : World) {t : TypeId} (h : scal (tiOf P) t = true) (xs : Array Value) (off : Nat) (v : Value) (hv : xs[off]? = some v) : (part t xs off).run P w = .ok v w := by
  unfold part
  rw [Sem.run_bind, run_isAgg_scal P w h, Result.andThen_ok]; simp [hv]
theorem run_sizeOf (P : Program) (w : World) {t : TypeId} {i : TypeInfo} (h : P.info? t = some i) : (sizeOf t).run P w = .ok i.size w := by
  unfold sizeOf typeInfo; simp [h]
theorem run_part_aggr (P : Program) (w : World) {t : TypeId} {i : TypeInfo} (h : aggr (tiOf P) t = true) (hi : P.info? t = some i) (xs : Array Value) (off : Nat) : (part t xs off).run P w = .ok (.agg (xs.extract off (off + i.size))) w := by
  unfold part
  rw [Sem.run_bind, run_isAgg_aggr P w h, Result.andThen_ok]
  simp [run_sizeOf P w hi]
noncomputable def fldS (off : Nat) (x : V) : Option V := asG x none (nthO off)
noncomputable def fldG (off n : Nat) (x : V) : Option V := asG x none fun cs => some (.g (takeL n (dropL off cs)))
theorem run_field (P : Program) (w : World) {t : TypeId} {fs : Array Field} {k : Nat} {f : Field} (ht : P.underlying t = some (.struct fs)) (hf : fs[k]? = some f) (xs : Array Value) :
    (Instr.field t (.agg xs) k).run P w = (part f.type xs f.offset).run P w := by
  unfold Instr.field
  rw [Sem.run_bind, run_underlying P w ht, Result.andThen_ok]
  simp [hf, asAgg]
theorem snd_fldS (P : Program) {t : TypeId} {fs : Array Field} {k : Nat} {f : Field} (ht : P.underlying t = some (.struct fs)) (hf : fs[k]? = some f) (hs : scal (tiOf P) f.type = true) :
    Snd1 P (fldS f.offset) (fun x => Instr.field t x k) := by
  intro ρ v x r w hv hr
  obtain ⟨cs, ea, h1⟩ := asG_some hr
  subst ea
  obtain ⟨xs, rfl, hx⟩ := hv.g
  rw [nthO_eq] at h1
  obtain ⟨y, hy, hr⟩ := hx.get _ r h1
  rw [Array.getElem?_toList] at hy
  refine ⟨y, ?_, hr⟩
  show (Instr.field t (.agg xs) k).run P w = _
  rw [run_field P w ht hf, run_part_scal P w hs xs _ y hy]
theorem VRs.drop {ρ : Rho} : ∀ (k : Nat) {cs : List V} {xs : List Value}, VRs ρ cs xs → VRs ρ (cs.drop k) (xs.drop k)
  | 0, _, _, h => h
  | _ + 1, [], [], _ => by simp [VRs]
  | _ + 1, [], _ :: _, h => by simp [VRs] at h
  | _ + 1, _ :: _, [], h => by simp [VRs] at h
  | k + 1, _ :: _, _ :: _, h => by simp only [VRs] at h; exact VRs.drop k h.2
theorem VRs.take {ρ : Rho} : ∀ (k : Nat) {cs : List V} {xs : List Value}, VRs ρ cs xs → VRs ρ (cs.take k) (xs.take k)
  | 0, _, _, _ => by simp [VRs]
  | _ + 1, [], [], _ => by simp [VRs]
  | _ + 1, [], _ :: _, h => by simp [VRs] at h
  | _ + 1, _ :: _, [], h => by simp [VRs] at h
  | k + 1, _ :: _, _ :: _, h => by simp only [VRs, List.take_succ_cons] at h ⊢; exact ⟨h.1, VRs.take k h.2⟩
theorem VR_g {ρ : Rho} {cs : List V} {xs : Array Value} (h : VRs ρ cs xs.toList) : VR ρ (.g cs) (.agg xs) := by unfold VR; exact h
theorem VR_t {ρ : Rho} {cs : List V} {xs : Array Value} (h : VRs ρ cs xs.toList) : VR ρ (.t cs) (.tuple xs) := by unfold VR; exact h
theorem snd_fldG (P : Program) {t : TypeId} {fs : Array Field} {k : Nat} {f : Field} {i : TypeInfo} (ht : P.underlying t = some (.struct fs)) (hf : fs[k]? = some f) (hs : aggr (tiOf P) f.type = true) (hi : P.info? f.type = some i) :
    Snd1 P (fldG f.offset i.size) (fun x => Instr.field t x k) := by
  intro ρ v x r w hv hr
  obtain ⟨cs, ea, h1⟩ := asG_some hr
  subst ea
  obtain ⟨xs, rfl, hx⟩ := hv.g
  injection h1 with h1; subst h1
  refine ⟨.agg (xs.extract f.offset (f.offset + i.size)), ?_, VR_g ?_⟩
  · show (Instr.field t (.agg xs) k).run P w = _
    rw [run_field P w ht hf, run_part_aggr P w hs hi]
  · rw [takeL_eq, dropL_eq, Array.toList_extract]
    have := (hx.drop f.offset).take i.size
    simpa [List.extract] using this

/-! ### a struct built of parts -/
/-- The cells of a value. -/
noncomputable def cellsV (v : V) : List V :=
  V.casesOn (motive_1 := fun _ => List V) v [.u] (fun m => [.n m]) (fun m => [.y m]) (fun k m => [.k k m]) (fun c => [.b c]) (fun l m => [.s l m]) [.p0] (fun i o => [.p i o]) [.l0] (fun a b c d => [.l a b c d]) [.f0] (fun i cs => [.f i cs]) (fun cs => cs) (fun cs => [.t cs]) [.i0] (fun k i => [.a k i])
theorem VR.cells {v : V} {x : Value} (hu : v ≠ .u) (h : VR ρ v x) : VRs ρ (cellsV v) x.cells.toList := by
  have one : ∀ (c : V) (x : Value), x.cells = #[x] → VR ρ c x → VRs ρ [c] x.cells.toList := fun c x e h => by rw [e]; simp only [VRs]; exact ⟨h, trivial⟩
  cases v with
  | u => exact absurd rfl hu
  | n m => obtain ⟨-, rfl⟩ := h.n; exact one _ _ rfl h
  | y m => obtain ⟨-, rfl⟩ := h.y; exact one _ _ rfl h
  | k k m => obtain ⟨-, rfl⟩ := h.k; exact one _ _ rfl h
  | b c => have e := h.b; subst e; exact one _ _ rfl h
  | s l m => obtain ⟨s, rfl, -⟩ := h.s; exact one _ _ rfl h
  | p0 => have e := h.p0; subst e; exact one _ _ rfl h
  | p i o => obtain ⟨q, -, rfl⟩ := h.p; exact one _ _ rfl h
  | l0 => have e := h.l0; subst e; exact one _ _ rfl h
  | l a b c d => obtain ⟨q, z, c', -, rfl, -⟩ := h.l; exact one _ _ rfl h
  | f0 => have e := h.f0; subst e; exact one _ _ rfl h
  | f i cs => obtain ⟨j, xs, -, rfl, -⟩ := h.f; exact one _ _ rfl h
  | g cs => obtain ⟨xs, rfl, hx⟩ := h.g; exact hx
  | t cs => obtain ⟨xs, rfl, hx⟩ := h.t; exact one _ _ rfl h
  | i0 => have e := h.i0; subst e; exact one _ _ rfl h
  | a k i => obtain ⟨q, -, hq⟩ := h.a; exact one _ _ hq.flat h

theorem foldl_set_size (off : Nat) : ∀ (l : List (Value × Nat)) (cs : Array Value), (l.foldl (fun cs (p : Value × Nat) => cs.setIfInBounds (off + p.2) p.1) cs).size = cs.size
  | [], _ => rfl
  | p :: l, cs => by rw [List.foldl_cons, foldl_set_size off l]; simp
theorem foldl_set_get (off : Nat) : ∀ (l : List Value) (j : Nat) (cs : Array Value) (k : Nat),
    ((l.zipIdx j).foldl (fun cs (p : Value × Nat) => cs.setIfInBounds (off + p.2) p.1) cs)[k]? = if off + j ≤ k ∧ k < off + j + l.length ∧ k < cs.size then l[k - (off + j)]? else cs[k]?
  | [], j, cs, k => by rw [if_neg (by simp only [List.length_nil]; omega)]; rfl
  | x :: l, j, cs, k => by
    rw [List.zipIdx_cons, List.foldl_cons, foldl_set_get off l (j + 1)]
    simp only [Array.size_setIfInBounds, List.length_cons]
    by_cases h1 : k = off + j
    · subst h1
      rw [if_neg (by omega), Array.getElem?_setIfInBounds, if_pos rfl]
      by_cases h2 : off + j < cs.size
      · rw [if_pos (by omega)]; simp [h2]
      · rw [if_neg (by omega)]; simp [h2]
    · by_cases h2 : off + (j + 1) ≤ k ∧ k < off + (j + 1) + l.length ∧ k < cs.size
      · rw [if_pos h2, if_pos (by omega)]
        have e : k - (off + j) = (k - (off + (j + 1))) + 1 := by omega
        rw [e, List.getElem?_cons_succ]
      · rw [if_neg h2, if_neg (by omega), Array.getElem?_setIfInBounds, if_neg (by omega)]
theorem splice_VRs {cs L : List V} {x : Value} {xs : Array Value} {off : Nat} (h1 : VRs ρ cs x.cells.toList) (h2 : VRs ρ L xs.toList) :
    VRs ρ (splice off cs L) (x.cells.zipIdx.foldl (fun cs (p : Value × Nat) => cs.setIfInBounds (off + p.2) p.1) xs).toList := by
  have e0 : x.cells.zipIdx.foldl (fun cs (p : Value × Nat) => cs.setIfInBounds (off + p.2) p.1) xs = (x.cells.toList.zipIdx 0).foldl (fun cs (p : Value × Nat) => cs.setIfInBounds (off + p.2) p.1) xs := by
    rw [← Array.foldl_toList, Array.toList_zipIdx]
  rw [e0]
  have hl1 := h1.length
  have hl2 : L.length = xs.size := by simpa using h2.length
  refine VRs.mk ?_ fun k c y hc hy => ?_
  · have e3 := foldl_set_size off (x.cells.toList.zipIdx 0) xs
    rw [splice_length, hl2, ← e3]; simp
  · rw [splice_get] at hc
    rw [Array.getElem?_toList, foldl_set_get] at hy
    by_cases hh : off ≤ k ∧ k < off + cs.length ∧ k < L.length
    · rw [if_pos hh] at hc
      rw [if_pos (by omega)] at hy
      obtain ⟨y', hy', hr⟩ := h1.get _ c hc
      have e2 : k - (off + 0) = k - off := by omega
      rw [e2] at hy
      rw [hy] at hy'; injection hy' with hy'; subst hy'; exact hr
    · rw [if_neg hh] at hc
      rw [if_neg (by omega)] at hy
      obtain ⟨y', hy', hr⟩ := h2.get _ c hc
      rw [Array.getElem?_toList, hy] at hy'; injection hy' with hy'; subst hy'; exact hr

end Go.Proofs.YtnhgchnhfdimiaaGreatDoor.Ev
