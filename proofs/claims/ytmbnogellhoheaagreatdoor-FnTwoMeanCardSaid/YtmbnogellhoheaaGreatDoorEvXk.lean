/- Regions in whatever order: what holds of every set of operations that are through holds at the end. -/
import Derived.Test.YtmbnogellhoheaaGreatDoorEvXi
namespace Go.Proofs.YtmbnogellhoheaaGreatDoor.Ev
open Go
variable {ρ : Rho}

abbrev Done := Nat → Bool
def Done.put (S : Done) (i : Nat) : Done := fun j => if j = i then true else S j
def doneOf (listed : Array Bool) : Done := fun i => listed.getD i false
theorem doneOf_set {listed : Array Bool} {i : Nat} (h : i < listed.size) : doneOf (listed.setIfInBounds i true) = (doneOf listed).put i := by
  funext j
  unfold doneOf Done.put
  by_cases e : j = i
  · subst e; rw [if_pos rfl]; simp [h]
  · rw [if_neg e]; simp [Array.getElem?_setIfInBounds_ne (Ne.symm e)]
theorem mem_ready {ops : Array Oper} {listed : Array Bool} {i : Nat} (h : i ∈ Region.ready .any ops listed) : i < ops.size ∧ listed.getD i true = false ∧ ∃ o, ops[i]? = some o ∧ ∀ e ∈ o.after, Region.binds .any e = true → doneOf listed e.on = true := by
  unfold Region.ready at h
  rw [List.mem_filter, List.mem_range] at h
  obtain ⟨h1, h2⟩ := h
  rw [Bool.and_eq_true] at h2
  obtain ⟨h2, h3⟩ := h2
  refine ⟨h1, by simpa using h2, ops[i], by simp [h1], ?_⟩
  rw [Array.getElem?_eq_getElem h1] at h3
  simp only [Option.map_some, Option.getD_some, Array.all_eq_true_iff_forall_mem] at h3
  intro e he hb
  have := h3 e he
  rw [hb] at this
  simpa [doneOf] using this
theorem ready_of {ops : Array Oper} {listed : Array Bool} {i : Nat} {o : Oper} (h1 : ops[i]? = some o) (h2 : listed.getD i true = false) (h3 : ∀ e ∈ o.after, Region.binds .any e = true → doneOf listed e.on = true) : i ∈ Region.ready .any ops listed := by
  have hi : i < ops.size := by
    rcases Nat.lt_or_ge i ops.size with h | h
    · exact h
    · rw [Array.getElem?_eq_none h] at h1; cases h1
  unfold Region.ready
  rw [List.mem_filter, List.mem_range]
  refine ⟨hi, ?_⟩
  rw [Bool.and_eq_true]
  refine ⟨by simpa using h2, ?_⟩
  rw [h1]
  simp only [Option.map_some, Option.getD_some, Array.all_eq_true_iff_forall_mem]
  intro e he
  cases hb : Region.binds .any e with
  | false => rfl
  | true => have := h3 e he hb; simpa [doneOf] using this
/-- How many are left. -/
def left (n : Nat) (listed : Array Bool) : Nat := ((List.range n).filter fun i => !listed.getD i true).length
theorem left_set {n i : Nat} {listed : Array Bool} (hi : i < n) (hs : listed.size = n) (h : listed.getD i true = false) : left n (listed.setIfInBounds i true) < left n listed := by
  unfold left
  have key : ∀ l : List Nat, ((l.filter fun j => !(listed.setIfInBounds i true).getD j true).length ≤ (l.filter fun j => !listed.getD j true).length) ∧ (i ∈ l → (l.filter fun j => !(listed.setIfInBounds i true).getD j true).length < (l.filter fun j => !listed.getD j true).length) := by
    intro l
    induction l with
    | nil => simp
    | cons x l ih =>
      obtain ⟨ih1, ih2⟩ := ih
      by_cases e : x = i
      · subst e
        have e1 : (listed.setIfInBounds x true).getD x true = true := by simp [hs, hi]
        rw [List.filter_cons_of_neg (by simp [e1]), List.filter_cons_of_pos (by simp [h]), List.length_cons]
        exact ⟨by omega, fun _ => by omega⟩
      · have e1 : (listed.setIfInBounds i true).getD x true = listed.getD x true := by simp [Array.getElem?_setIfInBounds_ne (Ne.symm e)]
        cases hx : listed.getD x true with
        | true =>
          rw [List.filter_cons_of_neg (by rw [e1, hx]; simp), List.filter_cons_of_neg (by rw [hx]; simp)]
          exact ⟨ih1, fun hm => ih2 (by cases hm with | head => exact absurd rfl e | tail _ h => exact h)⟩
        | false =>
          rw [List.filter_cons_of_pos (by rw [e1, hx]; simp), List.filter_cons_of_pos (by rw [hx]; simp), List.length_cons, List.length_cons]
          exact ⟨by omega, fun hm => by have := ih2 (by cases hm with | head => exact absurd rfl e | tail _ h => exact h); omega⟩
  exact (key _).2 (List.mem_range.2 hi)

theorem wpAny_of {P : Program} {ops : Array Oper} {Q : Exit → Act → World → Prop} (Inv : Done → Act → World → Prop)
    (hedge : ∀ i o, ops[i]? = some o → ∀ e ∈ o.after, Region.binds .any e = true → e.on < i)
    (hstep : ∀ (S : Done) (i : Nat) (o : Oper) (a : Act) (w : World) (K : Act → World → Prop), Inv S a w → ops[i]? = some o → S i = false → (∀ e ∈ o.after, Region.binds .any e = true → S e.on = true) → (∀ a' w', Inv (S.put i) a' w' → K a' w') → wpOp P ops Q i K a w)
    (hfin : ∀ (S : Done) (a : Act) (w : World), (∀ i, i < ops.size → S i = true) → Inv S a w → Q .normal a w) :
    ∀ (fuel : Nat) (listed : Array Bool) (a : Act) (w : World), listed.size = ops.size → left ops.size listed ≤ fuel → Inv (doneOf listed) a w → wpAny P .any ops Q fuel listed a w := by
  have none : ∀ (listed : Array Bool), listed.size = ops.size → Region.ready .any ops listed = [] → ∀ i, i < ops.size → doneOf listed i = true := by
    intro listed hs hr i
    induction i using Nat.strongRecOn with
    | _ i ih =>
      intro hi
      cases hd : doneOf listed i with
      | true => rfl
      | false =>
        have hl : listed.getD i true = false := by
          unfold doneOf at hd
          have hi' : i < listed.size := by omega
          simpa [hi'] using hd
        have := ready_of (ops := ops) (listed := listed) (i := i) (o := ops[i]) (by simp [hi]) hl fun e he hb => by
          have hlt := hedge i ops[i] (by simp [hi]) e he hb
          exact ih e.on hlt (by omega)
        rw [hr] at this
        cases this
  intro fuel
  induction fuel with
  | zero =>
    intro listed a w hs hl hI
    have hr : Region.ready .any ops listed = [] := by
      cases hr : Region.ready .any ops listed with
      | nil => rfl
      | cons i l =>
        have hm : i ∈ Region.ready .any ops listed := by rw [hr]; exact List.mem_cons_self
        obtain ⟨h1, h2, -⟩ := mem_ready hm
        have := left_set h1 hs h2
        omega
    exact ⟨hr, hfin _ a w (none listed hs hr) hI⟩
  | succ fuel ih =>
    intro listed a w hs hl hI
    refine ⟨fun hr => hfin _ a w (none listed hs hr) hI, fun i hm => ?_⟩
    obtain ⟨h1, h2, o, h3, h4⟩ := mem_ready hm
    have hlt := left_set h1 hs h2
    have hS : doneOf listed i = false := by
      unfold doneOf
      have hi' : i < listed.size := by omega
      simpa [hi'] using h2
    refine hstep (doneOf listed) i o a w _ hI h3 hS h4 fun a' w' hI' => ih _ a' w' (by simpa using hs) (by omega) ?_
    rw [doneOf_set (by omega)]
    exact hI'
/-- A region that draws its order. -/
theorem wp_drawn {P : Program} {ops : Array Oper} {Q : Exit → Act → World → Prop} {id : Nat} {a : Act} {w : World} (hm : P.follows .mixedOrders = true) (Inv : Done → Act → World → Prop)
    (hedge : ∀ i o, ops[i]? = some o → ∀ e ∈ o.after, Region.binds .any e = true → e.on < i)
    (hstep : ∀ (S : Done) (i : Nat) (o : Oper) (a : Act) (w : World) (K : Act → World → Prop), Inv S a w → ops[i]? = some o → S i = false → (∀ e ∈ o.after, Region.binds .any e = true → S e.on = true) → (∀ a' w', Inv (S.put i) a' w' → K a' w') → wpOp P ops Q i K a w)
    (hfin : ∀ (S : Done) (a : Act) (w : World), (∀ i, i < ops.size → S i = true) → Inv S a w → Q .normal a w)
    (h0 : Inv (fun _ => false) a { w with drawn := w.drawn + 1 }) : (Code.region id ops true).wp P Q a w := by
  refine wp_region_any hm (wpAny_of Inv hedge hstep hfin ops.size _ a _ (by simp) ?_ ?_)
  · unfold left
    have := List.length_filter_le (fun i => !(Array.replicate ops.size false).getD i true) (List.range ops.size)
    rw [List.length_range] at this
    exact this
  · have e : doneOf (Array.replicate ops.size false) = fun _ => false := by
      funext i
      unfold doneOf
      by_cases h : i < ops.size
      · simp [h]
      · simp [h]
    rw [e]; exact h0

end Go.Proofs.YtmbnogellhoheaaGreatDoor.Ev
