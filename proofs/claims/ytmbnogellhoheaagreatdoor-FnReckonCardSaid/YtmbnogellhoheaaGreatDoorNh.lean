/- A number's text and a text's number, by the library's own functions. -/
import Derived.Test.YtmbnogellhoheaaGreatDoorNa
import Derived.Test.YtmbnogellhoheaaGreatDoorShelf
import Derived.Lib.SmallJoins
namespace Go.Proofs.YtmbnogellhoheaaGreatDoor.Run
open Go Go.Proofs.YtmbnogellhoheaaGreatDoor.Ev Go.Proofs.YtmbnogellhoheaaGreatDoor Go.RowKit Go.Sort
theorem kept_below {w w' : World} (h : Below w.heap.size w w') : Kept w w' := ⟨⟨h.os, h.output⟩, fun i hi => h.block i hi⟩
theorem kept_grown (w : World) (k : Nat) (os : Array Obj) : Kept w (grow (w.drewN k) os) :=
  ⟨⟨rfl, rfl⟩, fun i hi => by
    show (w.heap ++ os)[i]? = w.heap[i]?
    exact Array.getElem?_append_left hi⟩
theorem enters74 (args : Array Value) (w : World) : (callFunc 74 args).run Tryz.prog w = .ok (.enter 74 args) w := by
  have h1 : Tryz.f74.name ≠ "runtime.NumGoroutine" := by simpa using nm74
  obtain ⟨c, hc⟩ : ∃ c, Tryz.f74.body = some c := Option.isSome_iff_exists.1 (by kernel_rfl)
  simp [callFunc, Tryz.func74, h1, hc]
theorem enters161 (args : Array Value) (w : World) : (callFunc 161 args).run Tryz.prog w = .ok (.enter 161 args) w := by
  have h1 : Tryz.f161.name ≠ "runtime.NumGoroutine" := by simpa using nm161
  obtain ⟨c, hc⟩ : ∃ c, Tryz.f161.body = some c := Option.isSome_iff_exists.1 (by kernel_rfl)
  simp [callFunc, Tryz.func161, h1, hc]
/-- What the powers' table is. -/
theorem pow_tab {w : World} {C : Array Value} {E : TypeId} (hC : w.heap[7]? = some (.cells C E)) (hz : C.toList = Lib.pow10Tab.map fun (z : Int) => Value.int .u64 z) : Lib.TabIs Tryz.prog w "internal/strconv.uint64pow10" .u64 Lib.pow10Tab := by
  have hg : Tryz.prog.globalNamed "internal/strconv.uint64pow10" = some 7 := by kernel_rfl
  unfold Lib.TabIs World.var?
  rw [hg, Option.bind_some, hC, ← hz]
section
variable {len : Nat} {z : Int} {u : Nat} {l : List UInt8} {bin : BinOp → V → V → Option V} {cvt : IntKind → V → Option V}
theorem vr_pair {ρ : Rho} (hr : ValR (valQ len z u l) ρ) (hz : -32768 ≤ z ∧ z < 32768) : VR ρ (.t [vN, .i0]) (.tuple #[.int .i64 z, .nilIface]) := by
  have hN := (iN (numV_Q len z u l) hz).2 ρ hr
  unfold VR
  exact ⟨hN, by unfold VR; trivial, trivial⟩
theorem atoi_ok {fx : Pos → Option Fx} {cs : List V} {pre : List UInt8} (hz : -32768 ≤ z ∧ z < 32768) (hl : l.length ≤ 5) (hcs : ∀ ρ bs, ValR (valQ len z u l) ρ → VRs ρ cs (bs.map byteVal) → bs = pre ++ l) (hp : pre.length ≤ 1) (ha : Lib.atoi (pre ++ l) = some z) :
    PureOk Tryz.prog (GG (valQ len z u l) fx bin cvt) 74 [.w cs] (.t [vN, .i0]) := by
  intro ρ xs nx bs w hg hv _
  obtain ⟨x, rfl, hx⟩ := one_arg hv
  obtain ⟨s, rfl, hs⟩ := w_str hx
  have e := hcs ρ _ hg.valR hs
  have hsz : s.size ≤ 18 := by
    have : s.data.toList.length = (pre ++ l).length := by rw [e]
    rw [List.length_append] at this
    have h2 : s.size = s.data.toList.length := (Array.length_toList ..).symm
    omega
  refine ⟨enters74 _ w, (Tryz.strconv_Atoi s z hsz (by rw [e]; exact ha) w).mono ?_⟩
  rintro e w' ⟨rfl, t, rfl⟩
  exact ⟨_, rfl, vr_pair hg.valR hz, kept_below (Joins.below_bytesWorld _ _ _ _ (Nat.le_refl _))⟩
theorem itoa_ok {oT oP oC : Obj} {x : Value} {bl : Nat} {C : Array Value} {E : TypeId} {cs : List V} {pre : List UInt8} (hz : -32768 ≤ z ∧ z < 32768) (hP : oP = .cells C E) (hC : C.toList = Lib.pow10Tab.map fun (z : Int) => Value.int .u64 z)
    (hcs : ∀ ρ, ValR (valQ len z u l) ρ → VRs ρ cs ((pre ++ l).map byteVal)) (ha : Lib.itoa z = pre ++ l) :
    PureOk Tryz.prog (GG (valQ len z u l) (fxQ oT oP x bl oC) bin cvt) 161 [vN] (.w cs) := by
  intro ρ xs nx bs w hg hv hh
  obtain ⟨y, rfl, hy⟩ := one_arg hv
  have hy := (iN (numV_Q len z u l) hz).1 ρ hg.valR y hy
  rw [hy]
  obtain ⟨hlo, q2, hq2, hr, -, hob⟩ := hg.fxo (pb 2) 7 oP rfl
  have hw : w.heap[7]? = some oP := by
    have := (hh.fix (pb 2) q2 oP hlo hq2 hob).1
    rwa [hr] at this
  rw [hP] at hw
  refine ⟨enters161 _ w, (Tryz.strconv_Itoa z (by omega) (by omega) w (pow_tab hw hC)).mono ?_⟩
  rintro e w' ⟨rfl, k, os, rfl⟩
  refine ⟨_, rfl, str_w ?_, kept_grown w k os⟩
  rw [ha]
  exact hcs ρ hg.valR
end
/-! ### at a number of so many digits -/
theorem wpos {len : Nat} {z : Int} {u : Nat} {l : List UInt8} (h : l.length ≤ 5) : ∀ ρ, ValR (valQ len z u l) ρ → VRs ρ (dgs l.length) (([] ++ l).map byteVal) := fun _ hr => dgs_vr hr h
theorem wneg {len : Nat} {z : Int} {u : Nat} {l : List UInt8} (h : l.length ≤ 5) : ∀ ρ, ValR (valQ len z u l) ρ → VRs ρ (.y 45 :: dgs l.length) (([45] ++ l).map byteVal) := fun _ hr => ⟨vr_minus, dgs_vr hr h⟩
theorem ipos {len : Nat} {z : Int} {u : Nat} {l : List UInt8} (h : l.length ≤ 5) : ∀ ρ bs, ValR (valQ len z u l) ρ → VRs ρ (dgs l.length) (bs.map byteVal) → bs = [] ++ l := fun _ _ hr hv => dgs_inv hr h hv
theorem ineg {len : Nat} {z : Int} {u : Nat} {l : List UInt8} (h : l.length ≤ 5) : ∀ ρ bs, ValR (valQ len z u l) ρ → VRs ρ (.y 45 :: dgs l.length) (bs.map byteVal) → bs = [45] ++ l := by
  intro ρ bs hr hv
  cases bs with
  | nil => exact absurd hv (by simp [VRs])
  | cons b bs =>
    obtain ⟨h1, h2⟩ := hv
    have h3 := dgs_inv hr h h2
    have h4 : b = 45 := by
      have h1 : VR ρ (.y 45) (.int .u8 ((b.toNat : Nat) : Int)) := h1
      simp only [VR] at h1
      obtain ⟨-, -, h5⟩ := h1
      exact UInt8.toNat.inj (by show b.toNat = 45; omega)
    rw [h3, h4]; rfl
/-- What is known of a number's functions: of the number of two bytes, of its text, of the text's number. -/
noncomputable def numN (w : List V) : List (Nat × FN) := [(21, memoV [([.a 1 (pb 1), .n 0], vN)]), (19, memoV [([vN], .w w)]), (161, memoV [([vN], .w w)]), (74, memoV [([.w w], .t [vN, .i0])]), (137, memoR [opRow])]
noncomputable abbrev wP (k : Nat) : List V := dgs k
noncomputable abbrev wM (k : Nat) : List V := .y 45 :: dgs k
/-- What a law's run is about: the slice, its number, the tables. -/
structure Case (len : Nat) (z : Int) (u : Nat) (l : List UInt8) (W : World) (b : Nat → Nat) (a : Option Addr) (oT oP oC : Obj) (bl : Nat) : Prop where
  hb : ∀ i, b i < 256
  hlen : len ≤ 9223372036854775807
  hC : W.heap[bl]? = some oC
  hc : ∀ i, i < len → ∃ ad, a = some ad ∧ ad.block = bl ∧ W.cell? (ad.add i) = some (.int .u8 ((b i : Nat) : Int))
  hz : z = (acc b len 0 2 : Nat) - 32768
  hT : ∃ C, oT = .cells C 357 ∧ C.toList = asc.map fun (z : Nat) => Value.int .u8 z
  hP : ∃ C E, oP = .cells C E ∧ C.toList = Lib.pow10Tab.map fun (z : Int) => Value.int .u64 z
section
variable {len : Nat} {z : Int} {u : Nat} {l : List UInt8} {W : World} {b : Nat → Nat} {a : Option Addr} {oT oP oC : Obj} {bl cap : Nat} {bin : BinOp → V → V → Option V} {cvt : IntKind → V → Option V}
theorem Case.range (h : Case len z u l W b a oT oP oC bl) : -32768 ≤ z ∧ z < 32768 := by
  have := acc_lt h.hb len 0 2
  have := h.hz
  omega
theorem Case.tab (h : Case len z u l W b a oT oP oC bl) (x : Value) : Tab (fxQ oT oP x bl oC) := by
  obtain ⟨C, h1, h2⟩ := h.hT
  exact ⟨C, by rw [← h1]; rfl, h2⟩
theorem numN_pos (h : Case len z u l W b a oT oP oC bl) {n : Nat} (hn : n < 32768) (hzn : z = n) (hl : l = dig 5 n) : AllS Tryz.prog (GG (valQ len z u l) (fxQ oT oP (.slice a len cap) bl oC) bin cvt) (numN (wP l.length)) := by
  obtain ⟨C, E, hP, hPC⟩ := h.hP
  have h5 : l.length ≤ 5 := dig5_len hl
  have hlt : n < 10 ^ (4 + 1) := by omega
  exact .cons (memoV_snd (.cons (short_ok h.hb h.hlen h.hC h.hc h.hz) .nil)) (.cons (memoV_snd (.cons (num_pos hn hzn hl) .nil)) (.cons (memoV_snd (.cons (itoa_ok h.range hP hPC (wpos h5) (by rw [hzn, hl, itoa_pos hlt]; rfl)) .nil))
    (.cons (memoV_snd (.cons (atoi_ok h.range h5 (ipos h5) (by decide) (by rw [hzn, hl]; exact atoi_pos hlt)) .nil)) (.cons (memoR_snd (.cons (op_ok (h.tab _)) .nil)) .nil))))
theorem numN_neg (h : Case len z u l W b a oT oP oC bl) {n : Nat} (h0 : 1 ≤ n) (hn : n ≤ 32768) (hzn : z = -(n : Int)) (hl : l = dig 5 n) : AllS Tryz.prog (GG (valQ len z u l) (fxQ oT oP (.slice a len cap) bl oC) bin cvt) (numN (wM l.length)) := by
  obtain ⟨C, E, hP, hPC⟩ := h.hP
  have h5 : l.length ≤ 5 := dig5_len hl
  have hlt : n < 10 ^ (4 + 1) := by omega
  exact .cons (memoV_snd (.cons (short_ok h.hb h.hlen h.hC h.hc h.hz) .nil)) (.cons (memoV_snd (.cons (num_neg h0 hn hzn hl) .nil)) (.cons (memoV_snd (.cons (itoa_ok h.range hP hPC (wneg h5) (by rw [hzn, hl, itoa_neg hlt h0]; rfl)) .nil))
    (.cons (memoV_snd (.cons (atoi_ok h.range h5 (ineg h5) (by decide) (by rw [hzn, hl]; exact atoi_neg hlt)) .nil)) (.cons (memoR_snd (.cons (op_ok (h.tab _)) .nil)) .nil))))
end
end Go.Proofs.YtmbnogellhoheaaGreatDoor.Run

/- A law over one slice of bytes that draws one number: its run, out of its runs at each sign and each number of digits. -/
namespace Go.Proofs.YtmbnogellhoheaaGreatDoor.Run
open Go Go.Proofs.YtmbnogellhoheaaGreatDoor.Ev Go.Proofs.YtmbnogellhoheaaGreatDoor
noncomputable abbrev vL : V := .a 0 (pb 1)
/-- The operations of a law's run: on the slice's length, on the number. -/
noncomputable def lenB (d v : Nat) (l : List BE) : List BE := ⟨15, vL, .n 1048576, .b false⟩ :: ⟨4, vL, .n d, .n v⟩ :: l
noncomputable def posT (q : Bool) (d v : Nat) : List BE := lenB d v (cond q (⟨14, vN, .n 0, .b false⟩ :: posB) posB)
noncomputable def negT (d v : Nat) : List BE := lenB d v negB
noncomputable abbrev binP (q : Bool) (d v : Nat) : BinOp → V → V → Option V := binD 11 16 (posT q d v)
noncomputable abbrev binN (d v : Nat) : BinOp → V → V → Option V := binD 11 16 (negT d v)
noncomputable abbrev cvtN : IntKind → V → Option V := cvtD numC
section
variable {len : Nat} {z : Int} {u : Nat} {l : List UInt8}
theorem iL (hlen : len ≤ 1048576) : IV (valQ len z u l) vL .i64 len := (IV.a0 (val := valQ len z u l) (m := len) rfl (by omega)).cast (wrap_nat' (by omega))
theorem lenB_ok (hlen : len ≤ 1048576) {d v : Nat} (hd0 : d ≠ 0) (hd1 : d ≤ 1048576) (hv : v = len % d) {B : List BE} (hB : AllBE (valQ len z u l) B) : AllBE (valQ len z u l) (lenB d v B) := by
  have hm : len % d < d := Nat.mod_lt _ (by omega)
  refine .cons (op := .gtr) rfl (BR.cmp (iL hlen) (cN 1048576 (by decide)) (decide_eq_false (by omega))) (.cons (op := .rem) rfl (BR.rem (iL hlen) (cN d (by omega)) (cN v (by omega)) (by omega) ?_) hB)
  rw [hv, Int.tmod_eq_emod_of_nonneg (by omega)]
  rfl
theorem posT_ok (hlen : len ≤ 1048576) {d v : Nat} (hd0 : d ≠ 0) (hd1 : d ≤ 1048576) (hv : v = len % d) {q : Bool} (hz : 0 ≤ z ∧ z < 32768) (hq : q = true → 1 ≤ z) (hu : z = u) : AllBE (valQ len z u l) (posT q d v) := by
  have hB := posB_ok (numV_Q len z u l) hz hu
  refine lenB_ok hlen hd0 hd1 hv ?_
  cases q with
  | false => exact hB
  | true =>
    have h1 := hq rfl
    exact .cons (op := .leq) rfl (BR.cmp (iN (numV_Q len z u l) (by omega)) (cN 0 (by decide)) (decide_eq_false (by omega))) hB
theorem negT_ok (hlen : len ≤ 1048576) {d v : Nat} (hd0 : d ≠ 0) (hd1 : d ≤ 1048576) (hv : v = len % d) (hz : -32768 ≤ z ∧ z < 0) (hu : z = (u : Int) - 65536) : AllBE (valQ len z u l) (negT d v) :=
  lenB_ok hlen hd0 hd1 hv (negB_ok (numV_Q len z u l) hz hu)
theorem valQ1 : ∀ id : Pos, id.val = 1 → valQ len z u l id = some len := fun id h => by unfold valQ; rw [if_pos h]
theorem okL {d : Nat} (hlen : len ≤ 9223372036854775807) (hd0 : d ≠ 0) (hd1 : d ≤ 1048576) {fx : Pos → Option Fx} {g : Bool} {k : Nat} (hg : g = decide (1048576 < len)) (hk : k = len % d) : (GG (valQ len z u l) fx (binM d g k) no1).tab.OK :=
  ⟨fun _ hr _ _ _ _ h P t ox oy w _ _ hx hx' => binM_snd valQ1 hlen hd0 hd1 hg hk hr h P t ox oy w hx hx', no1_cvt⟩
end
theorem natO_snd {val : Pos → Option Nat} {fx : Pos → Option Fx} (ht : Tab fx) {b : BinOp → V → V → Option V} {c : IntKind → V → Option V} : AllS Tryz.prog (GG val fx b c) natO := .cons (memoR_snd (.cons (op_ok ht) .nil)) .nil
theorem chkP_both {r r' : RC} {v v' : V} (h : cond (chkP r v) (chkP r' v') false = true) : chkP r v = true ∧ chkP r' v' = true := cond_true' h
/-- What is known where the number is zero. -/
noncomputable def numZ : List (Nat × FN) := [(21, memoV [([.a 1 (pb 1), .n 0], .n 0)]), (137, memoR [opRow])]
section
variable {len : Nat} {z : Int} {u : Nat} {l : List UInt8} {W : World} {b : Nat → Nat} {a : Option Addr} {oT oP oC : Obj} {bl cap : Nat} {bin : BinOp → V → V → Option V} {cvt : IntKind → V → Option V}
theorem short_zero (h : Case len z u l W b a oT oP oC bl) (h0 : z = 0) : PureOk Tryz.prog (GG (valQ len z u l) (fxQ oT oP (.slice a len cap) bl oC) bin cvt) 21 [.a 1 (pb 1), .n 0] (.n 0) := by
  intro ρ xs nx bs w hg hv hh
  obtain ⟨k1, k2⟩ := short_ok (bin := bin) (cvt := cvt) (l := l) (u := u) (oT := oT) (oP := oP) h.hb h.hlen h.hC h.hc h.hz ρ xs nx bs w hg hv hh
  refine ⟨k1, k2.mono ?_⟩
  rintro e w' ⟨y, rfl, h1, h2⟩
  have h3 := (iN (numV_Q len z u l) h.range).1 ρ hg.valR y h1
  refine ⟨y, rfl, ?_, h2⟩
  rw [h3, h0]
  exact VR_n (m := 0) (by decide)
theorem numZ_snd (h : Case len z u l W b a oT oP oC bl) (h0 : z = 0) : AllS Tryz.prog (GG (valQ len z u l) (fxQ oT oP (.slice a len cap) bl oC) bin cvt) numZ :=
  .cons (memoV_snd (.cons (short_zero h h0) .nil)) (.cons (memoR_snd (.cons (op_ok (h.tab _)) .nil)) .nil)
end
/-- The runs of a law: at a number that is not negative, at a negative one, at zero (where it is asked apart), each for every number of digits. -/
structure Runs (F : FuncId) (q : Bool) (d : Nat) : Prop where
  big : ∀ k val fx, chkP (FF natO val fx (binM d true k) no1 (pos F) [.a 1 (pb 1)] (pos 64) .e) (.b true) = true
  pos : ∀ v k, v < d → 1 ≤ k → k ≤ 5 → ∀ {val : Pos → Option Nat} {fx : Pos → Option Fx}, Tab fx → (∀ {b c}, AllS Tryz.prog (GG val fx b c) (numN (wP k))) → (GG val fx (binP q d v) cvtN).tab.OK → PureOk Tryz.prog (GG val fx (binP q d v) cvtN) F [.a 1 (pb 1)] (.b true)
  neg : ∀ v k, v < d → 1 ≤ k → k ≤ 5 → ∀ {val : Pos → Option Nat} {fx : Pos → Option Fx}, Tab fx → (∀ {b c}, AllS Tryz.prog (GG val fx b c) (numN (wM k))) → (GG val fx (binN d v) cvtN).tab.OK → PureOk Tryz.prog (GG val fx (binN d v) cvtN) F [.a 1 (pb 1)] (.b true)
  zero : q = true → ∀ v, v < d → ∀ {val : Pos → Option Nat} {fx : Pos → Option Fx}, Tab fx → (∀ {b c}, AllS Tryz.prog (GG val fx b c) numZ) → (GG val fx (binM d false v) no1).tab.OK → PureOk Tryz.prog (GG val fx (binM d false v) no1) F [.a 1 (pb 1)] (.b true)
theorem dig_ge (n : Nat) : 1 ≤ (dig 5 n).length := by
  have := dig_ne 4 n
  cases h : dig 5 n with
  | nil => exact absurd h this
  | cons _ _ => simp
theorem run_law {F : FuncId} {q : Bool} {d : Nat} (hd0 : d ≠ 0) (hd1 : d ≤ 1048576) (R : Runs F q d) {W : World} {C C7 : Array Value} {E7 : TypeId} (hC : W.heap[3]? = some (.cells C 357)) (hz : C.toList = asc.map fun (z : Nat) => Value.int .u8 z)
    (hP : W.heap[7]? = some (.cells C7 E7)) (hPz : C7.toList = Lib.pow10Tab.map fun (z : Int) => Value.int .u64 z) (a : Option Addr) (len cap : Nat) (b : Nat → Nat) (hlen : len ≤ 9223372036854775807) (hb : ∀ i, b i < 256)
    (hc : ∀ i, i < len → ∃ ad, a = some ad ∧ ad.block < W.heap.size ∧ W.cell? (ad.add i) = some (.int .u8 ((b i : Nat) : Int))) :
    Calls Tryz.prog F #[.slice a len cap] W fun e w' => e = .returned (.bool true) ∧ Kept W w' := by
  obtain ⟨bl, oC, hbl, hc'⟩ : ∃ bl oC, W.heap[bl]? = some oC ∧ ∀ i, i < len → ∃ ad, a = some ad ∧ ad.block = bl ∧ W.cell? (ad.add i) = some (.int .u8 ((b i : Nat) : Int)) := by
    by_cases h0 : 0 < len
    · obtain ⟨ad, h1, h2, h3⟩ := hc 0 h0
      refine ⟨ad.block, W.heap[ad.block], Array.getElem?_eq_getElem h2, fun i hi => ?_⟩
      obtain ⟨ad', h4, h5, h6⟩ := hc i hi
      rw [h1] at h4; injection h4 with h4; subst h4
      exact ⟨ad, h1, rfl, h6⟩
    · exact ⟨3, _, hC, fun i hi => absurd hi (by omega)⟩
  have hacc := acc_lt hb len 0 2
  let z : Int := (acc b len 0 2 : Nat) - 32768
  have hz0 : z = (acc b len 0 2 : Nat) - 32768 := rfl
  have hcase : ∀ u l, Case len z u l W b a (.cells C 357) (.cells C7 E7) oC bl := fun u l => ⟨hb, hlen, hbl, hc', rfl, ⟨C, rfl, hz⟩, ⟨C7, E7, rfl, hPz⟩⟩
  have hr : -32768 ≤ z ∧ z < 32768 := by omega
  clear_value z
  by_cases hg : 1048576 < len
  · have hok := okL (z := z) (u := 0) (l := []) (fx := fxQ (.cells C 357) (.cells C7 E7) (.slice a len cap) bl oC) hlen hd0 hd1 (decide_eq_true hg).symm (rfl : len % d = len % d)
    exact run_Q hC hP hbl hlen hok (pure_ok hok (natO_snd ((hcase 0 []).tab _)) rfl rfl (R.big (len % d) _ _))
  have hl20 : len ≤ 1048576 := by omega
  have hv : len % d < d := Nat.mod_lt _ (by omega)
  by_cases hneg : z < 0
  · obtain ⟨n, hn⟩ : ∃ n : Nat, z = -(n : Int) := ⟨(-z).toNat, by omega⟩
    have hu : z = (((65536 - n : Nat)) : Int) - 65536 := by omega
    have hdig : ∀ b ∈ dig 5 n, 48 ≤ b.toNat ∧ b.toNat ≤ 57 := dig_byte 5 n
    have hok : (GG (valQ len z (65536 - n) (dig 5 n)) (fxQ (.cells C 357) (.cells C7 E7) (.slice a len cap) bl oC) (binN d (len % d)) cvtN).tab.OK :=
      tabD_ok (digQ hdig) (negT_ok hl20 hd0 hd1 rfl ⟨hr.1, hneg⟩ hu) (numC_ok (numV_Q len z (65536 - n) (dig 5 n)) hr (by omega) (Or.inr hu))
    exact run_Q hC hP hbl hlen hok (R.neg (len % d) (dig 5 n).length hv (dig_ge n) (dig_len 5 n) ((hcase 0 []).tab _) (fun {_ _} => numN_neg (hcase _ _) (by omega) (by omega) hn rfl) hok)
  by_cases hq0 : q = true ∧ z = 0
  · have hok := okL (z := z) (u := 0) (l := []) (fx := fxQ (.cells C 357) (.cells C7 E7) (.slice a len cap) bl oC) hlen hd0 hd1 (decide_eq_false hg).symm (rfl : len % d = len % d)
    exact run_Q hC hP hbl hlen hok (R.zero hq0.1 (len % d) hv ((hcase 0 []).tab _) (fun {_ _} => numZ_snd (hcase 0 []) hq0.2) hok)
  · obtain ⟨n, hn⟩ : ∃ n : Nat, z = (n : Int) := ⟨z.toNat, by omega⟩
    have hdig : ∀ b ∈ dig 5 n, 48 ≤ b.toNat ∧ b.toNat ≤ 57 := dig_byte 5 n
    have hok : (GG (valQ len z n (dig 5 n)) (fxQ (.cells C 357) (.cells C7 E7) (.slice a len cap) bl oC) (binP q d (len % d)) cvtN).tab.OK :=
      tabD_ok (digQ hdig) (posT_ok hl20 hd0 hd1 rfl ⟨by omega, hr.2⟩ (fun hq => by
        have : z ≠ 0 := fun h0 => hq0 ⟨hq, h0⟩
        omega) hn) (numC_ok (numV_Q len z n (dig 5 n)) hr (by omega) (Or.inl hn))
    exact run_Q hC hP hbl hlen hok (R.pos (len % d) (dig 5 n).length hv (dig_ge n) (dig_len 5 n) ((hcase 0 []).tab _) (fun {_ _} => numN_pos (hcase _ _) (by omega) hn rfl) hok)
end Go.Proofs.YtmbnogellhoheaaGreatDoor.Run
