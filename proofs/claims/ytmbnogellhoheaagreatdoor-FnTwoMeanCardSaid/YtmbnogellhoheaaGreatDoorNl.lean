/- The number of bits of two, by the library's contract. -/
import Derived.Test.YtmbnogellhoheaaGreatDoorNh
import Derived.Test.YtmbnogellhoheaaGreatDoorShelf2
namespace Go.Proofs.YtmbnogellhoheaaGreatDoor.Run
open Go Go.Proofs.YtmbnogellhoheaaGreatDoor.Ev Go.Proofs.YtmbnogellhoheaaGreatDoor
/-- The number of bits of 2. -/
noncomputable def lenF : FN := fun _ ar nx bs => List.rec (motive := fun _ => RC) .fail (fun v r _ => List.rec (motive := fun _ => RC) (asK v .fail fun k m => cond (Nat.beq (kdNo k) 7) (cond (Nat.beq m 2) (.mk (.n 2) nx bs) .fail) .fail) (fun _ _ _ => .fail) r) ar
theorem enters500 (args : Array Value) (w : World) : (callFunc 500 args).run Tryz.prog w = .ok (.enter 500 args) w := by
  have h1 : Tryz.f500.name ≠ "runtime.NumGoroutine" := by simpa using nm500
  obtain ⟨c, hc⟩ : ∃ c, Tryz.f500.body = some c := Option.isSome_iff_exists.1 (by kernel_rfl)
  simp [callFunc, Tryz.func500, h1, hc]
theorem lenF_get {F : CallF} {ar : List V} {nx nx' : Pos} {bs bs' : TB} {v : V} (h : lenF F ar nx bs = .mk v nx' bs') : ar = [.k .u64 2] ∧ v = .n 2 ∧ nx' = nx ∧ bs' = bs := by
  match ar with
  | [] => cases h
  | [a] =>
    have h : asK a .fail (fun k m => cond (Nat.beq (kdNo k) 7) (cond (Nat.beq m 2) (.mk (.n 2) nx bs) .fail) .fail) = RC.mk v nx' bs' := h
    cases a with
    | k k m =>
      have h : cond (Nat.beq (kdNo k) 7) (cond (Nat.beq m 2) (.mk (.n 2) nx bs) .fail) .fail = RC.mk v nx' bs' := h
      cases h1 : Nat.beq (kdNo k) 7 with
      | false => rw [h1] at h; cases h
      | true =>
        rw [h1, cond_true] at h
        cases h2 : Nat.beq m 2 with
        | false => rw [h2] at h; cases h
        | true =>
          rw [h2, cond_true] at h
          injection h with e1 e2 e3
          have : k = .u64 := kdNo_inj (Nat.eq_of_beq_eq_true h1)
          rw [this, Nat.eq_of_beq_eq_true h2]
          exact ⟨rfl, e1.symm, e2.symm, e3.symm⟩
    | _ => cases h
  | _ :: _ :: _ => cases h
theorem lenF_snd {G : Ctx} : FnS Tryz.prog G 500 lenF := by
  intro F hF ρ ar xs nx nx' bs bs' v w hg hv hh hk
  obtain ⟨rfl, rfl, rfl, rfl⟩ := lenF_get hk
  obtain ⟨x, rfl, hx⟩ := one_arg hv
  have hx : x = .int .u64 2 := by
    cases x <;> simp only [VR] at hx
    obtain ⟨rfl, -, rfl⟩ := hx
    rfl
  subst hx
  refine ⟨enters500 _ w, (Tryz.bits_Len 2 w (by decide) (by decide)).mono ?_⟩
  rintro e w' ⟨rfl, rfl⟩
  exact ⟨_, ρ, rfl, VR_n (m := 2) (by decide), (hh.kept (Kept.refl _)).1, (hh.kept (Kept.refl _)).2⟩
noncomputable def natL : List (Nat × FN) := (500, lenF) :: natO
theorem natL_snd {val : Pos → Option Nat} {fx : Pos → Option Fx} (ht : Tab fx) {b : BinOp → V → V → Option V} {c : IntKind → V → Option V} : AllS Tryz.prog (GG val fx b c) natL := .cons lenF_snd (natO_snd ht)
end Go.Proofs.YtmbnogellhoheaaGreatDoor.Run
