/- swNum: the decimal digits of a number. -/
import Derived.Test.YtmbnogellhoheaaGreatDoorFx
import Derived.WalkKit
namespace Go.Proofs.YtmbnogellhoheaaGreatDoor.Run
open Go Go.Proofs.YtmbnogellhoheaaGreatDoor.Ev Go.Proofs.YtmbnogellhoheaaGreatDoor
open Go.RowKit

/-- The digits of a number. -/
def dig (fuel : Nat) (n : Nat) : List UInt8 := match fuel with
  | 0 => []
  | f + 1 => if n < 10 then [(48 + n).toUInt8] else dig f (n / 10) ++ [(48 + n % 10).toUInt8]
theorem step_of {P : Program} {ops : Array Oper} {Q : Exit → Act → World → Prop} {i : Nat} {o : Oper} {a : Act} {w w' : World} {K : Act → World → Prop} {y : Value} (ho : ops[i]? = some o) (hg : o.guard = none) (h : Thru P o a w y w') (hk : K (a.put o.dst y) w') : wpOp P ops Q i K a w := by
  unfold wpOp
  rw [ho]
  simp only
  rw [if_pos (by simp [Region.wanted, hg])]
  exact .inl (h.wp hk)
theorem put_getD {a : Act} {t u : Nat} {y : Value} (ht : t < a.tmps.size) : (a.put (some t) y).tmps.getD u undef = if u = t then y else a.tmps.getD u undef := by
  show (a.tmps.setIfInBounds t y).getD u undef = _
  by_cases h : u = t
  · subst h; simp [ht]
  · rw [if_neg h]; simp [Array.getElem?_setIfInBounds_ne (Ne.symm h)]
noncomputable def ops5 : Array Oper := match Tryz.f19.body with
  | some (.seq _ (.seq _ (.seq _ (.seq (.region _ ops _) _)))) => ops
  | _ => #[]
noncomputable def o5 (i : Nat) : Oper := (ops5[i]?).getD default
theorem ops5_len : ops5.size = 11 := by kernel_rfl
def need (i j : Nat) : Prop := ((o5 i).after.any fun e => Region.binds .any e && e.on == j) = true
theorem need_done {i j : Nat} (h : need i j) {S : Done} (hS : ∀ e ∈ (o5 i).after, Region.binds .any e = true → S e.on = true) : S j = true := by
  unfold need at h
  rw [Array.any_eq_true] at h
  obtain ⟨k, hk, h⟩ := h
  rw [Bool.and_eq_true] at h
  have := hS _ (Array.getElem_mem hk) h.1
  rw [show ((o5 i).after[k]).on = j by simpa using h.2] at this
  exact this
theorem edges5 : ((List.range 11).all fun i => (o5 i).after.all fun e => !Region.binds .any e || decide (e.on < i)) = true := by kernel_rfl
theorem guards5 : ((List.range 11).all fun i => (o5 i).guard == none) = true := by kernel_rfl
def dst5 : List Nat := [16, 17, 18, 19, 20, 21, 22, 23, 24, 25, 2]
theorem dsts5 : ((List.range 11).all fun i => (o5 i).dst == dst5[i]?) = true := by kernel_rfl
theorem get5 {i : Nat} {o : Oper} (h : ops5[i]? = some o) : i < 11 ∧ o = o5 i := by
  have hi : i < ops5.size := by
    rcases Nat.lt_or_ge i ops5.size with hh | hh
    · exact hh
    · rw [Array.getElem?_eq_none hh] at h; cases h
  rw [ops5_len] at hi
  exact ⟨hi, by unfold o5; rw [h]; rfl⟩
theorem op0 : (o5 0).op = .move (.tmp 0) := by kernel_rfl
theorem op1 : (o5 1).op = .binOp .quo 3 (.tmp 16) (.const (.int .i64 10)) 3 := by kernel_rfl
theorem op2 : (o5 2).op = .call { callee := .value (.func 19), args := #[.tmp 17], argTypes := #[3] } := by kernel_rfl
theorem op3 : (o5 3).op = .move (.tmp 0) := by kernel_rfl
theorem op4 : (o5 4).op = .binOp .rem 3 (.tmp 19) (.const (.int .i64 10)) 3 := by kernel_rfl
theorem op5 : (o5 5).op = .binOp .add 3 (.const (.int .i64 48)) (.tmp 20) 3 := by kernel_rfl
theorem op6 : (o5 6).op = .convert 3 5 (.tmp 21) := by kernel_rfl
theorem op7 : (o5 7).op = .buildSlice 22 1 #[(0, .tmp 22)] := by kernel_rfl
theorem op8 : (o5 8).op = .convert 22 9 (.tmp 23) := by kernel_rfl
theorem op9 : (o5 9).op = .binOp .add 9 (.tmp 18) (.tmp 24) 9 := by kernel_rfl
theorem op10 : (o5 10).op = .assign (.tmp 25) := by kernel_rfl
theorem und3 : Tryz.prog.underlying 3 = some (.int .i64) := by kernel_rfl
theorem und5 : Tryz.prog.underlying 5 = some (.int .u8) := by kernel_rfl
theorem und9 : Tryz.prog.underlying 9 = some .string := by kernel_rfl
theorem und22 : Tryz.prog.underlying 22 = some (.slice 5) := by kernel_rfl
theorem spl22 : splan (tiOf Tryz.prog) 22 1 = some (327681, [.y 0]) := by kernel_rfl
/-- What the operations leave: of a number n, whose tenth's digits are l. -/
def fv (n : Nat) (l : List UInt8) (j : Nat) (x : Value) (w : World) : Prop := match j with
  | 0 => x = .int .i64 (n : Int)
  | 1 => x = .int .i64 ((n / 10 : Nat) : Int)
  | 2 => x = .string ⟨l.toArray⟩
  | 3 => x = .int .i64 (n : Int)
  | 4 => x = .int .i64 ((n % 10 : Nat) : Int)
  | 5 => x = .int .i64 ((48 + n % 10 : Nat) : Int)
  | 6 => x = .int .u8 ((48 + n % 10 : Nat) : Int)
  | 7 => ∃ r c, x = .slice (some ⟨r, 0, none⟩) 1 c ∧ w.cell? ⟨r, 0, none⟩ = some (.int .u8 ((48 + n % 10 : Nat) : Int))
  | 8 => x = .string ⟨#[(48 + n % 10).toUInt8]⟩
  | _ => x = .string ⟨(l ++ [(48 + n % 10).toUInt8]).toArray⟩
theorem fv_kept {n : Nat} {l : List UInt8} {j : Nat} {x : Value} {w w' : World} (h : fv n l j x w) (k : Kept w w') : fv n l j x w' := by
  unfold fv at h ⊢
  split at h <;> try exact h
  obtain ⟨r, c, h1, h2⟩ := h
  exact ⟨r, c, h1, k.cell r 0 h2⟩
structure Inv5 (n : Nat) (l : List UInt8) (w0 : World) (S : Done) (a : Act) (w : World) : Prop where
  size : a.tmps.size = 26
  defers : a.defers = []
  arg : a.tmps.getD 0 undef = .int .i64 (n : Int)
  kept : Kept w0 w
  tm : ∀ j t, S j = true → dst5[j]? = some t → fv n l j (a.tmps.getD t undef) w
theorem Inv5.put {n : Nat} {l : List UInt8} {w0 : World} {S : Done} {a : Act} {w w' : World} (h : Inv5 n l w0 S a w) {i t : Nat} (hi : dst5[i]? = some t) (hu : ∀ j, dst5[j]? = some t → j = i) (ht : t < 26) (h0 : t ≠ 0) {y : Value} (hy : fv n l i y w') (k : Kept w w') : Inv5 n l w0 (S.put i) (a.put (some t) y) w' := by
  have hs := h.size
  refine ⟨?_, h.defers, ?_, h.kept.trans k, fun j u hj hu2 => ?_⟩
  · show (a.tmps.setIfInBounds t y).size = 26
    rw [Array.size_setIfInBounds]; exact h.size
  · rw [put_getD (by omega), if_neg (Ne.symm h0)]; exact h.arg
  · rw [put_getD (by omega)]
    by_cases e : u = t
    · subst e
      rw [if_pos rfl, hu j hu2]
      exact hy
    · rw [if_neg e]
      unfold Done.put at hj
      by_cases ej : j = i
      · subst ej; rw [hi] at hu2; injection hu2 with hu2; exact absurd hu2.symm e
      · rw [if_neg ej] at hj
        exact fv_kept (h.tm j u hj hu2) k
theorem dst_uniq : ∀ i t : Nat, dst5[i]? = some t → (∀ j, dst5[j]? = some t → j = i) ∧ t < 26 ∧ t ≠ 0 := by
  intro i t h
  have hlen : ∀ k u, dst5[k]? = some u → k < 11 := fun k u hk => (List.getElem?_eq_some_iff.1 hk).1
  have hi := hlen i t h
  have key : ((List.range 11).all fun i => (List.range 11).all fun j => (dst5[i]? != dst5[j]?) || i == j) = true := by decide
  have key2 : (dst5.all fun t => decide (t < 26) && decide (t ≠ 0)) = true := by decide
  refine ⟨fun j hj => ?_, ?_⟩
  · have hj' := hlen j t hj
    have := List.all_eq_true.1 (List.all_eq_true.1 key i (List.mem_range.2 hi)) j (List.mem_range.2 hj')
    rw [h, hj] at this
    simpa using (by simpa using this : i = j).symm
  · have hm : t ∈ dst5 := List.mem_of_getElem? h
    have := List.all_eq_true.1 key2 t hm
    simpa using this
theorem quo_eq (a b : Int) (t : TypeId) (h : b ≠ 0) : binOp .quo t (.int .i64 a) (.int .i64 b) = pure (.int .i64 (IntKind.i64.wrap (a.tdiv b))) := by
  show Op.intDiv .quo .i64 a b = _
  unfold Op.intDiv
  rw [if_neg h]
theorem rem_eq (a b : Int) (t : TypeId) (h : b ≠ 0) : binOp .rem t (.int .i64 a) (.int .i64 b) = pure (.int .i64 (a.tmod b)) := by
  show Op.intDiv .rem .i64 a b = _
  unfold Op.intDiv
  rw [if_neg h]
theorem cbI {P : Program} {op : BinOp} {t : TypeId} {ox oy : Operand} {a b : Int} {v : Value} {w : World} (h : binOp op t (.int .i64 a) (.int .i64 b) = pure v) : (cbin op t ox oy (.int .i64 a) (.int .i64 b)).run P w = .ok v w := by
  unfold cbin; rw [Sem.run_bind, eqGuard_int, Result.andThen_ok, h]; rfl
theorem region5 {n : Nat} {l : List UInt8} (hn : n < 1000000) (hl : l.length < 1000) {w : World} {a : Act} {Q : Exit → Act → World → Prop} {id : Nat} (hs : a.tmps.size = 26) (hd : a.defers = []) (h0 : a.tmps.getD 0 undef = .int .i64 (n : Int))
    (hrec : ∀ w', (callFunc 19 #[.int .i64 ((n / 10 : Nat) : Int)]).run Tryz.prog w' = .ok (.enter 19 #[.int .i64 ((n / 10 : Nat) : Int)]) w' ∧ Calls Tryz.prog 19 #[.int .i64 ((n / 10 : Nat) : Int)] w' fun e w'' => e = .returned (.string ⟨l.toArray⟩) ∧ Kept w' w'')
    (hQ : ∀ a' w', a'.tmps.size = 26 → a'.defers = [] → a'.tmps.getD 2 undef = .string ⟨(l ++ [(48 + n % 10).toUInt8]).toArray⟩ → Kept w w' → Q .normal a' w') : (Code.region id ops5 true).wp Tryz.prog Q a w := by
  refine wp_drawn mixed (Inv5 n l w) ?_ ?_ ?_ ?_
  · intro i o ho e he hb
    obtain ⟨hi, rfl⟩ := get5 ho
    have := List.all_eq_true.1 edges5 i (List.mem_range.2 hi)
    rw [Array.all_eq_true_iff_forall_mem] at this
    have := this e he
    rw [hb] at this
    simpa using this
  · intro S i o a' w' K hI ho hSi hanc hK
    obtain ⟨hi, rfl⟩ := get5 ho
    have hg : (o5 i).guard = none := by simpa using List.all_eq_true.1 guards5 i (List.mem_range.2 hi)
    have hdst : (o5 i).dst = dst5[i]? := by simpa using List.all_eq_true.1 dsts5 i (List.mem_range.2 hi)
    have fin : ∀ t y w'', dst5[i]? = some t → Thru Tryz.prog (o5 i) a' w' y w'' → fv n l i y w'' → Kept w' w'' → wpOp Tryz.prog ops5 Q i K a' w' := by
      intro t y w'' ht hth hy hk
      refine step_of ho hg hth ?_
      rw [hdst, ht]
      obtain ⟨u1, u2, u3⟩ := dst_uniq i t ht
      exact hK _ _ (hI.put ht u1 u2 u3 hy hk)
    have tmp : ∀ (j t : Nat), need i j → dst5[j]? = some t → fv n l j (a'.eval (.tmp t)) w' := fun j t hn ht => hI.tm j t (need_done hn hanc) ht
    rcases i with _ | _ | _ | _ | _ | _ | _ | _ | _ | _ | _ | i
    · exact fin 16 _ w' rfl (.inl (by unfold execOp; rw [op0]; rfl)) hI.arg (Kept.refl _)
    · have e0 : a'.eval (.tmp 16) = .int .i64 (n : Int) := tmp 0 16 (by unfold need; kernel_rfl) rfl
      refine fin 17 (.int .i64 (IntKind.i64.wrap ((n : Int).tdiv 10))) w' rfl (thru_val (s := cbin .quo 3 (.tmp 16) (.const (.int .i64 10)) (a'.eval (.tmp 16)) (.int .i64 10)) (by unfold execOp; rw [op1]; rfl) ?_) ?_ (Kept.refl _)
      · rw [e0]; exact cbI (quo_eq _ _ 3 (by decide))
      · show Value.int _ _ = .int .i64 ((n / 10 : Nat) : Int)
        rw [show (n : Int).tdiv 10 = ((n / 10 : Nat) : Int) from rfl, wrap_n _ (by omega), if_pos (by omega)]
    · have e0 : a'.eval (.tmp 17) = .int .i64 ((n / 10 : Nat) : Int) := tmp 1 17 (by unfold need; kernel_rfl) rfl
      obtain ⟨c1, c2⟩ := hrec w'
      unfold wpOp
      rw [ho]
      simp only
      rw [if_pos (by simp [Region.wanted, hg])]
      refine .inl ?_
      unfold Oper.wp
      rw [exec_call a' op2 (j := 19) (xs := #[]) rfl]
      have ea : (#[Operand.tmp 17].map a'.eval ++ #[] : Array Value) = #[.int .i64 ((n / 10 : Nat) : Int)] := by simp [e0]
      rw [ea, c1, Oper.upon_enter]
      refine c2.mono ?_
      rintro e w'' ⟨rfl, hk⟩
      show K (a'.put (o5 2).dst _) w''
      rw [hdst]
      obtain ⟨u1, u2, u3⟩ := dst_uniq 2 18 rfl
      exact hK _ _ (hI.put rfl u1 u2 u3 (show fv n l 2 _ w'' from rfl) hk)
    · exact fin 19 _ w' rfl (.inl (by unfold execOp; rw [op3]; rfl)) hI.arg (Kept.refl _)
    · have e0 : a'.eval (.tmp 19) = .int .i64 (n : Int) := tmp 3 19 (by unfold need; kernel_rfl) rfl
      refine fin 20 (.int .i64 ((n : Int).tmod 10)) w' rfl (thru_val (s := cbin .rem 3 (.tmp 19) (.const (.int .i64 10)) (a'.eval (.tmp 19)) (.int .i64 10)) (by unfold execOp; rw [op4]; rfl) ?_) ?_ (Kept.refl _)
      · rw [e0]; exact cbI (rem_eq _ _ 3 (by decide))
      · show Value.int _ _ = .int .i64 ((n % 10 : Nat) : Int)
        rw [show (n : Int).tmod 10 = ((n % 10 : Nat) : Int) from rfl]
    · have e0 : a'.eval (.tmp 20) = .int .i64 ((n % 10 : Nat) : Int) := tmp 4 20 (by unfold need; kernel_rfl) rfl
      refine fin 21 (.int .i64 (IntKind.i64.wrap (48 + ((n % 10 : Nat) : Int)))) w' rfl (thru_val (s := cbin .add 3 (.const (.int .i64 48)) (.tmp 20) (.int .i64 48) (a'.eval (.tmp 20))) (by unfold execOp; rw [op5]; rfl) ?_) ?_ (Kept.refl _)
      · rw [e0]; exact cbI rfl
      · show Value.int _ _ = .int .i64 ((48 + n % 10 : Nat) : Int)
        rw [show (48 : Int) + ((n % 10 : Nat) : Int) = ((48 + n % 10 : Nat) : Int) by omega, wrap_n _ (by omega), if_pos (by omega)]
    · have e0 : a'.eval (.tmp 21) = .int .i64 ((48 + n % 10 : Nat) : Int) := tmp 5 21 (by unfold need; kernel_rfl) rfl
      refine fin 22 (.int .u8 (IntKind.u8.wrap ((48 + n % 10 : Nat) : Int))) w' rfl (thru_val (s := convert 3 5 (a'.eval (.tmp 21))) (by unfold execOp; rw [op6]) ?_) ?_ (Kept.refl _)
      · rw [e0]; exact Ev.run_convert_int Tryz.prog w' und3 und5
      · show Value.int _ _ = .int .u8 ((48 + n % 10 : Nat) : Int)
        rw [IntKind.wrap_u8]; congr 1; omega
    · have e0 : a'.eval (.tmp 22) = .int .u8 ((48 + n % 10 : Nat) : Int) := tmp 6 22 (by unfold need; kernel_rfl) rfl
      have hs7 := snd_bslV (ρ := fun _ => none) Tryz.prog (t := 22) (len := 1) spl22 w' (n := .l 327681 1 2 [.y (48 + n % 10)]) (ps := [(0, 1, .y (48 + n % 10))]) (qs := #[(0, .int .u8 ((48 + n % 10 : Nat) : Int))]) (.cons ⟨rfl, rfl, Nat.le_refl 1, by unfold VR; exact ⟨rfl, by omega, rfl⟩⟩ .nil) rfl
      obtain ⟨y, w'', C, fz, h1, hev, h2, -, h4, -, h6⟩ := hs7
      obtain ⟨x, hx, hxv⟩ := h4 0 _ rfl
      have hx2 : x = .int .u8 ((48 + n % 10 : Nat) : Int) := hxv.y.2
      subst hx2
      have hy := h6 (fun _ => some ⟨w'.heap.size, 0, C.size, (NV.l 327681 1 2 [.y (48 + n % 10)]).es, none, none⟩) .h rfl
      obtain ⟨q, z, c, hq, rfl, hlc, -, hz, -⟩ := hy.l
      have hq : (⟨w'.heap.size, 0, C.size, (NV.l 327681 1 2 [.y (48 + n % 10)]).es, none, none⟩ : Pl) = q := Option.some.inj hq
      subst hq
      have hkept : Kept w' w'' := ⟨hev, fun i hi => by rw [h2, Array.getElem?_push, if_neg (by omega)]⟩
      refine fin 23 (.slice (some ⟨w'.heap.size, z, none⟩) 1 c) w'' rfl (thru_val (exec_bsl a' op7) ?_) ?_ hkept
      · have eq : (#[(0, Operand.tmp 22)].map fun (i, x) => (i, a'.eval x)) = #[(0, Value.int .u8 ((48 + n % 10 : Nat) : Int))] := by simp [e0]
        rw [eq]; exact h1
      · refine ⟨w'.heap.size, c, ?_, ?_⟩
        · have hz2 : z = 0 + 0 := by
            rcases hz with hc0 | hz
            · omega
            · exact hz
          rw [hz2]
        · rw [show w''.cell? ⟨w'.heap.size, 0, none⟩ = C[0]? from cell_of (by rw [h2, Array.getElem?_push, if_pos rfl]) 0]
          exact hx
    · obtain ⟨r, c, e0, hc⟩ := tmp 7 23 (by unfold need; kernel_rfl) rfl
      refine fin 24 (.string ⟨#[(48 + n % 10).toUInt8]⟩) w' rfl (thru_val (s := convert 22 9 (a'.eval (.tmp 23))) (by unfold execOp; rw [op8]) ?_) rfl (Kept.refl _)
      rw [e0]
      refine run_convert_bytes_back (P := Tryz.prog) w' 22 9 5 ⟨r, 0, none⟩ c [(48 + n % 10).toUInt8] und22 und5 und9 fun j hj => ?_
      have : j = 0 := by simpa using hj
      subst this
      show w'.cell? ⟨r, 0 + 0, none⟩ = _
      rw [hc]
      simp; omega
    · have e0 : a'.eval (.tmp 18) = .string ⟨l.toArray⟩ := tmp 2 18 (by unfold need; kernel_rfl) rfl
      have e1 : a'.eval (.tmp 24) = .string ⟨#[(48 + n % 10).toUInt8]⟩ := tmp 8 24 (by unfold need; kernel_rfl) rfl
      refine fin 25 (.string (⟨l.toArray⟩ ++ ⟨#[(48 + n % 10).toUInt8]⟩)) w' rfl (thru_val (s := cbin .add 9 (.tmp 18) (.tmp 24) (a'.eval (.tmp 18)) (a'.eval (.tmp 24))) (by unfold execOp; rw [op9]; rfl) ?_) ?_ (Kept.refl _)
      · rw [e0, e1]
        unfold cbin
        rw [Sem.run_bind, eqGuard_string, Result.andThen_ok]
        show (Op.stringOp .add _ _).run Tryz.prog w' = _
        unfold Op.stringOp
        have hnn : ¬ (((ByteArray.size ⟨l.toArray⟩ + ByteArray.size ⟨#[(48 + n % 10).toUInt8]⟩ : Nat) : Int) > IntKind.i64.max) := by
          have e2 : ByteArray.size ⟨l.toArray⟩ = l.length := by show l.toArray.size = _; simp
          have e3 : ByteArray.size ⟨#[(48 + n % 10).toUInt8]⟩ = 1 := rfl
          have : IntKind.i64.max = 9223372036854775807 := rfl
          rw [this, e2, e3]; omega
        simp only [hnn, if_false]
        rfl
      · show Value.string _ = .string ⟨(l ++ [(48 + n % 10).toUInt8]).toArray⟩
        refine congrArg Value.string (ByteArray.ext ?_)
        rw [ByteArray.data_append]
        apply Array.ext'
        simp
    · have e0 : a'.eval (.tmp 25) = .string ⟨(l ++ [(48 + n % 10).toUInt8]).toArray⟩ := tmp 9 25 (by unfold need; kernel_rfl) rfl
      exact fin 2 _ w' rfl (.inl (by unfold execOp; rw [op10]; rfl)) e0 (Kept.refl _)
    · omega
  · intro S a' w' hS hI
    exact hQ a' w' hI.size hI.defers (hI.tm 10 2 (hS 10 (by rw [ops5_len]; omega)) rfl) hI.kept
  · exact ⟨hs, hd, h0, ⟨⟨rfl, rfl⟩, fun _ _ => rfl⟩, fun j t h => by cases h⟩
theorem dig_one {n f : Nat} (h : n < 10) : dig (f + 1) n = [(48 + n).toUInt8] := by unfold dig; rw [if_pos h]
theorem dig_more {n f : Nat} (h : ¬ n < 10) : dig (f + 1) n = dig f (n / 10) ++ [(48 + n % 10).toUInt8] := by conv => lhs; unfold dig; rw [if_neg h]
theorem dig_len : ∀ (f n : Nat), (dig f n).length ≤ f
  | 0, n => Nat.le_refl 0
  | f + 1, n => by
    unfold dig
    split
    · simp
    · have := dig_len f (n / 10)
      simp; exact this
theorem num0 : chkP (callN (tabOf YF XT (fun _ => none) tab0 fil) 60 (pos 19) [.n 0] (pos 64) .e) (.s 1 48) = true := by kernel_rfl
theorem num1 : chkP (callN (tabOf YF XT (fun _ => none) tab0 fil) 60 (pos 19) [.n 1] (pos 64) .e) (.s 1 49) = true := by kernel_rfl
theorem num2 : chkP (callN (tabOf YF XT (fun _ => none) tab0 fil) 60 (pos 19) [.n 2] (pos 64) .e) (.s 1 50) = true := by kernel_rfl
theorem num3 : chkP (callN (tabOf YF XT (fun _ => none) tab0 fil) 60 (pos 19) [.n 3] (pos 64) .e) (.s 1 51) = true := by kernel_rfl
theorem num4 : chkP (callN (tabOf YF XT (fun _ => none) tab0 fil) 60 (pos 19) [.n 4] (pos 64) .e) (.s 1 52) = true := by kernel_rfl
theorem num5 : chkP (callN (tabOf YF XT (fun _ => none) tab0 fil) 60 (pos 19) [.n 5] (pos 64) .e) (.s 1 53) = true := by kernel_rfl
theorem num6 : chkP (callN (tabOf YF XT (fun _ => none) tab0 fil) 60 (pos 19) [.n 6] (pos 64) .e) (.s 1 54) = true := by kernel_rfl
theorem num7 : chkP (callN (tabOf YF XT (fun _ => none) tab0 fil) 60 (pos 19) [.n 7] (pos 64) .e) (.s 1 55) = true := by kernel_rfl
theorem num8 : chkP (callN (tabOf YF XT (fun _ => none) tab0 fil) 60 (pos 19) [.n 8] (pos 64) .e) (.s 1 56) = true := by kernel_rfl
theorem num9 : chkP (callN (tabOf YF XT (fun _ => none) tab0 fil) 60 (pos 19) [.n 9] (pos 64) .e) (.s 1 57) = true := by kernel_rfl
theorem nums : ∀ k, k < 10 → chkP (callN (tabOf YF XT (fun _ => none) tab0 fil) 60 (pos 19) [.n k] (pos 64) .e) (.s 1 (48 + k)) = true
  | 0, _ => num0
  | 1, _ => num1
  | 2, _ => num2
  | 3, _ => num3
  | 4, _ => num4
  | 5, _ => num5
  | 6, _ => num6
  | 7, _ => num7
  | 8, _ => num8
  | 9, _ => num9
  | k + 10, h => absurd h (by omega)
theorem hr_any (w : World) : HR (fun _ => none) (pos 64) .e w := by
  refine ⟨⟨fun id es sz cs hl => ?_, fun id id' es sz cs es' sz' cs' q q' hl => ?_, fun id _ => ⟨rfl, TB.get_e id⟩, fun id q h => (nomatch h)⟩, by rw [pos64]; exact Nat.le_refl _, fun id q o _ h => (nomatch h)⟩
  · unfold Live at hl; rw [TB.get_e] at hl; cases hl
  · unfold Live at hl; rw [TB.get_e] at hl; cases hl
theorem gr_any : GR ⟨fun _ => false, fun _ => none, false, tab0⟩ (fun _ => none) :=
  ⟨fun _ _ e => (nomatch e), fun _ _ e => (nomatch e), fun _ _ _ e => (nomatch e), fun _ _ e => (nomatch e), tab0_ok⟩
theorem swNum_base (n : Nat) (w : World) (h10 : n < 10) : Calls Tryz.prog 19 #[.int .i64 (n : Int)] w fun e w' => e = .returned (.string ⟨(dig 1 n).toArray⟩) ∧ Kept w w' := by
  rw [dig_one h10]
  have hok : PureOk Tryz.prog ⟨fun _ => false, fun _ => none, false, tab0⟩ 19 [.n n] (.s 1 (48 + n)) := pureOk_of (callN_snd mixed XT_ok fil_ok.get (G := ⟨fun _ => false, fun _ => none, false, tab0⟩) 60) rfl rfl rfl tab0_ok rfl rfl (by rw [← YF_eq]; exact nums n h10)
  obtain ⟨-, k2⟩ := hok (fun _ => none) #[.int .i64 (n : Int)] (pos 64) .e w gr_any (by
    show VRs _ [.n n] [.int .i64 (n : Int)]
    simp only [VRs, VR, and_true, true_and]; exact ⟨by omega, by rw [wrap_n n (by omega), if_pos (by omega)]⟩) (hr_any w)
  refine k2.mono ?_
  rintro e w' ⟨y, rfl, hy, hk⟩
  obtain ⟨s, rfl, h1, h2⟩ := hy.s
  refine ⟨?_, hk⟩
  have hl : s.data.toList = [(48 + n).toUInt8] := by
    match hsl : s.data.toList, h1 with
    | [b], _ =>
      rw [hsl] at h2
      have h2 : b.toNat + 256 * 0 = 48 + n := h2
      congr 1
      apply UInt8.toNat_inj.1
      rw [show b.toNat = 48 + n by omega]
      simp; omega
  refine congrArg (fun z => Ending.returned (.string z)) (ByteArray.ext (Array.ext' ?_))
  rw [hl]
theorem enters19 (args : Array Value) (w : World) : (callFunc 19 args).run Tryz.prog w = .ok (.enter 19 args) w := by
  have h1 : Tryz.f19.name ≠ "runtime.NumGoroutine" := by simpa using nm19
  obtain ⟨c, hc⟩ : ∃ c, Tryz.f19.body = some c := Option.isSome_iff_exists.1 (by kernel_rfl)
  simp [callFunc, Tryz.func19, h1, hc]
set_option maxRecDepth 100000 in
theorem swNum_ok : ∀ (f n : Nat) (w : World), n < 10 ^ (f + 1) → f ≤ 5 → Calls Tryz.prog 19 #[.int .i64 (n : Int)] w fun e w' => e = .returned (.string ⟨(dig (f + 1) n).toArray⟩) ∧ Kept w w' := by
  intro f
  induction f with
  | zero =>
    intro n w hn _
    exact swNum_base n w (by omega)
  | succ f ih =>
    intro n w hn hf
    have hbig : n < 1000000 := by
      have : 10 ^ (f + 1 + 1) ≤ 10 ^ 6 := Nat.pow_le_pow_right (by decide) (by omega)
      omega
    by_cases h10 : n < 10
    · rw [dig_one h10]
      have := swNum_base n w h10
      rw [dig_one h10] at this
      exact this
    · rw [dig_more h10]
      have ih := fun w' => ih (n / 10) w' (by rw [Nat.pow_succ] at hn; omega) (by omega)
      go_enter Tryz.func19, Tryz.ntmps19
      go_wp2_with fail
      refine region5 (n := n) (l := dig (f + 1) (n / 10)) hbig (by have := dig_len (f + 1) (n / 10); omega) rfl rfl rfl (fun w' => ⟨enters19 _ w', ih w'⟩) ?_
      intro a' w' h1 h2 h3 h4
      rename_i K hK
      refine hK a' w' (wp_ret ⟨h2, .string ⟨(dig (f + 1) (n / 10) ++ [(48 + n % 10).toUInt8]).toArray⟩, ?_, rfl, h4⟩)
      rw [results_eq, show Tryz.f19.results = #[.tmp 2] by kernel_rfl]
      show ((do let vs ← #[ResultVar.tmp 2].mapM (rv1 a'.tmps); pure (if h : vs.size = 1 then vs[0] else .tuple vs)) : Sem Value).run Tryz.prog w' = _
      rw [← h3]
      simp [rv1]
/-- The text of a number. -/
theorem swNum_text (f n : Nat) (hn : n < 10 ^ (f + 1)) (hf : f ≤ 5) (G : Ctx) : PureOk Tryz.prog G 19 [.n n] (.s (dig (f + 1) n).length (enc (dig (f + 1) n))) := by
  intro ρ xs nx bs w _ hv _
  have hbig : n < 1000000 := by
    have : 10 ^ (f + 1) ≤ 10 ^ 6 := Nat.pow_le_pow_right (by decide) (by omega)
    omega
  have hx : xs = #[.int .i64 (n : Int)] := by
    match hxs : xs.toList, hv with
    | [x], hv =>
      simp only [VRs, and_true] at hv
      obtain ⟨h1, rfl⟩ := hv.n
      apply Array.ext'
      rw [hxs, wrap_n n h1, if_pos (by omega)]
    | [], hv => simp [VRs] at hv
    | _ :: _ :: _, hv => simp [VRs] at hv
  subst hx
  refine ⟨enters19 _ w, (swNum_ok f n w hn hf).mono ?_⟩
  rintro e w' ⟨rfl, hk⟩
  exact ⟨_, rfl, VR_s (by simp) (by simp), hk⟩
theorem swNum_neg (f n : Nat) (w : World) (hn : n < 10 ^ (f + 1)) (hf : f ≤ 5) (h0 : 1 ≤ n) : Calls Tryz.prog 19 #[.int .i64 (-(n : Int))] w fun e w' => e = .returned (.string ⟨(45 :: dig (f + 1) n).toArray⟩) ∧ Kept w w' := by
  have hbig : n < 1000000 := by
    have : 10 ^ (f + 1) ≤ 10 ^ 6 := Nat.pow_le_pow_right (by decide) (by omega)
    omega
  have hl := dig_len (f + 1) n
  go_enter Tryz.func19, Tryz.ntmps19
  go_wp2_with (go_at_call 19; refine (swNum_ok f n w hn hf).mono ?_; rintro e w' ⟨rfl, hw⟩)
  go_ret
  refine ⟨?_, hw⟩
  show Ending.returned (Value.string (⟨#[45]⟩ ++ ⟨(dig (f + 1) n).toArray⟩)) = _
  refine congrArg (fun z => Ending.returned (.string z)) (ByteArray.ext ?_)
  rw [ByteArray.data_append]
  apply Array.ext'
  simp
end Go.Proofs.YtmbnogellhoheaaGreatDoor.Run
