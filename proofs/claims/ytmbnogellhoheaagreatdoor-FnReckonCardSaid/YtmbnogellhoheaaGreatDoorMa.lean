/- Two numbers of 16 bits that a law draws: the names of its run, what is known of them, and the run. -/
import Derived.Test.YtmbnogellhoheaaGreatDoorNh
namespace Go.Proofs.YtmbnogellhoheaaGreatDoor.Run.Two
open Go Go.Proofs.YtmbnogellhoheaaGreatDoor.Ev Go.Proofs.YtmbnogellhoheaaGreatDoor Go.Proofs.YtmbnogellhoheaaGreatDoor.Run Go.ChangeShapes Go.WideShapes Go.ChangeAt Go.RowKit Go.Sort
theorem pbv {n : Nat} (h : n < 64) : (pb n).val = n :=
  Nat.eq_of_beq_eq_true (List.all_eq_true.1 (show ((List.range 64).all fun n => Nat.beq (pb n).val n) = true by kernel_rfl) n (List.mem_range.2 h))
noncomputable abbrev vN (o : Nat) : V := .a 0 (pb (o + 3))
noncomputable abbrev vU (o : Nat) : V := .a 0 (pb (o + 4))
noncomputable abbrev vHI (o : Nat) : V := .a 2 (pb (o + 5))
noncomputable abbrev vLO (o : Nat) : V := .a 2 (pb (o + 6))
noncomputable abbrev vHIi (o : Nat) : V := .a 0 (pb (o + 7))
noncomputable abbrev vLOi (o : Nat) : V := .a 0 (pb (o + 8))
noncomputable abbrev vHM (o : Nat) : V := .a 0 (pb (o + 9))
noncomputable abbrev vSH (o : Nat) : V := .a 0 (pb (o + 10))
noncomputable def dgs (o k : Nat) : List V := [V.a 2 (pb (o + 11)), V.a 2 (pb (o + 12)), V.a 2 (pb (o + 13)), V.a 2 (pb (o + 14)), V.a 2 (pb (o + 15))].take k
/-- A number's names, from `o` on: the number z, its 16 bits u, its digits l. -/
structure Num (val : Pos → Option Nat) (o : Nat) (z : Int) (u : Nat) (l : List UInt8) : Prop where
  fn : val (pb (o + 3)) = some (z % 18446744073709551616).toNat
  fu : val (pb (o + 4)) = some u
  hi : val (pb (o + 5)) = some (u / 256)
  lo : val (pb (o + 6)) = some (u % 256)
  hii : val (pb (o + 7)) = some (u / 256)
  loi : val (pb (o + 8)) = some (u % 256)
  hm : val (pb (o + 9)) = some (u / 256 * 256)
  sh : val (pb (o + 10)) = some ((z / 256) % 18446744073709551616).toNat
  dg : ∀ i, i < 5 → val (pb (o + (11 + i))) = some (l.getD i 48).toNat
  hz : -32768 ≤ z ∧ z < 32768
  hu : u < 65536
  zu : z = u ∨ z = (u : Int) - 65536
  hl : l.length ≤ 5
  hd : ∀ b ∈ l, 48 ≤ b.toNat ∧ b.toNat ≤ 57
section iv
variable {val : Pos → Option Nat} {o : Nat} {z : Int} {u : Nat} {l : List UInt8} (h : Num val o z u l)
include h
theorem iN : IV val (vN o) .i64 z := (IV.a0 h.fn (toNat_lt z)).cast (wrap_toNat (by have := h.hz; omega) (by have := h.hz; omega))
theorem iSH : IV val (vSH o) .i64 (z / 256) := (IV.a0 h.sh (toNat_lt _)).cast (wrap_toNat (by have := h.hz; omega) (by have := h.hz; omega))
theorem iU : IV val (vU o) .i64 u := (IV.a0 h.fu (by have := h.hu; omega)).cast (wrap_nat' (by have := h.hu; omega))
theorem iHI : IV val (vHI o) .u8 ((u / 256 : Nat) : Int) := IV.a2 h.hi (by have := h.hu; omega)
theorem iLO : IV val (vLO o) .u8 ((u % 256 : Nat) : Int) := IV.a2 h.lo (by omega)
theorem iHIi : IV val (vHIi o) .i64 ((u / 256 : Nat) : Int) := (IV.a0 h.hii (by have := h.hu; omega)).cast (wrap_nat' (by have := h.hu; omega))
theorem iLOi : IV val (vLOi o) .i64 ((u % 256 : Nat) : Int) := (IV.a0 h.loi (by omega)).cast (wrap_nat' (by omega))
theorem iHM : IV val (vHM o) .i64 ((u / 256 * 256 : Nat) : Int) := (IV.a0 h.hm (by have := h.hu; omega)).cast (wrap_nat' (by have := h.hu; omega))
end iv
/-- The operations on a number. -/
noncomputable def posB (o : Nat) : List BE := [⟨0, vHM o, vLOi o, vN o⟩, ⟨0, .n 0, vHIi o, vHIi o⟩, ⟨16, vN o, .n 32768, .b false⟩, ⟨15, vN o, .n 2147483647, .b false⟩, ⟨15, vN o, .n 32767, .b false⟩,
  ⟨13, vN o, .n 18446744071562067968, .b false⟩, ⟨2, vHIi o, .n 256, vHM o⟩, ⟨2, .n 256, vHIi o, vHM o⟩, ⟨12, vN o, vN o, .b false⟩, ⟨11, vN o, vN o, .b true⟩, ⟨4, vN o, .n 4294967296, vN o⟩, ⟨9, vN o, .k .u64 8, vSH o⟩]
noncomputable def negB (o : Nat) : List BE := [⟨0, vHM o, vLOi o, vU o⟩, ⟨0, .n 0, vHIi o, vHIi o⟩, ⟨16, vU o, .n 32768, .b true⟩, ⟨15, vN o, .n 2147483647, .b false⟩, ⟨15, vU o, .n 32767, .b true⟩, ⟨1, vU o, .n 65536, vN o⟩,
  ⟨13, vN o, .n 18446744071562067968, .b false⟩, ⟨2, vHIi o, .n 256, vHM o⟩, ⟨2, .n 256, vHIi o, vHM o⟩, ⟨12, vN o, vN o, .b false⟩, ⟨11, vN o, vN o, .b true⟩, ⟨4, vN o, .n 4294967296, vN o⟩, ⟨9, vN o, .k .u64 8, vSH o⟩]
noncomputable def numC (o : Nat) : List CE := [⟨3, vHI o, vHIi o⟩, ⟨3, vLO o, vLOi o⟩, ⟨4, vSH o, vHI o⟩, ⟨4, vN o, vLO o⟩]
noncomputable def numB (neg : Bool) (o : Nat) : List BE := cond neg (negB o) (posB o)
section
variable {val : Pos → Option Nat} {o : Nat} {z : Int} {u : Nat} {l : List UInt8}
theorem numC_ok (h : Num val o z u l) {r : List CE} (hr : AllCE val r) : AllCE val (numC o ++ r) := by
  have hz := h.hz
  have hu := h.hu
  have zu := h.zu
  exact .cons (k := .i64) rfl (CR.mk (iHI h) (iHIi h) (i64_id (by omega) (by omega)).symm) (.cons (k := .i64) rfl (CR.mk (iLO h) (iLOi h) (i64_id (by omega) (by omega)).symm)
    (.cons (k := .u8) rfl (CR.mk (iSH h) (iHI h) (by rw [IntKind.wrap_u8]; omega)) (.cons (k := .u8) rfl (CR.mk (iN h) (iLO h) (by rw [IntKind.wrap_u8]; omega)) hr)))
theorem posB_ok (h : Num val o z u l) (h0 : 0 ≤ z) {r : List BE} (hr : AllBE val r) : AllBE val (posB o ++ r) := by
  have hz := h.hz
  have hu := h.hu
  have zu := h.zu
  have hN := iN h
  exact .cons (op := .add) rfl (BR.add (iHM h) (iLOi h) hN (by rw [i64_id (by omega) (by omega)]; omega))
    (.cons (op := .add) rfl (BR.add (cN 0 (by decide)) (iHIi h) (iHIi h) (by rw [i64_id (by omega) (by omega)]; omega))
    (.cons (op := .geq) rfl (BR.cmp hN (cN 32768 (by decide)) (decide_eq_false (by omega)))
    (.cons (op := .gtr) rfl (BR.cmp hN (cN 2147483647 (by decide)) (decide_eq_false (by omega)))
    (.cons (op := .gtr) rfl (BR.cmp hN (cN 32767 (by decide)) (decide_eq_false (by omega)))
    (.cons (op := .lss) rfl (BR.cmp hN cM (decide_eq_false (by omega)))
    (.cons (op := .mul) rfl (BR.mul (iHIi h) (cN 256 (by decide)) (iHM h) (by rw [i64_id (by omega) (by omega)]; omega))
    (.cons (op := .mul) rfl (BR.mul (cN 256 (by decide)) (iHIi h) (iHM h) (by rw [i64_id (by omega) (by omega)]; omega))
    (.cons (op := .neq) rfl (BR.cmp hN hN (by simp))
    (.cons (op := .eql) rfl (BR.cmp hN hN (by simp))
    (.cons (op := .rem) rfl (BR.rem hN (cN 4294967296 (by decide)) hN (by omega) (tmod_big hz).symm)
    (.cons (op := .shr) rfl (BR.shr hN c8 (iSH h) (by decide) (fdiv256 z).symm) hr)))))))))))
theorem negB_ok (h : Num val o z u l) (h0 : z < 0) {r : List BE} (hr : AllBE val r) : AllBE val (negB o ++ r) := by
  have hz := h.hz
  have hu := h.hu
  have zu := h.zu
  have hN := iN h
  have hU := iU h
  exact .cons (op := .add) rfl (BR.add (iHM h) (iLOi h) hU (by rw [i64_id (by omega) (by omega)]; omega))
    (.cons (op := .add) rfl (BR.add (cN 0 (by decide)) (iHIi h) (iHIi h) (by rw [i64_id (by omega) (by omega)]; omega))
    (.cons (op := .geq) rfl (BR.cmp hU (cN 32768 (by decide)) (decide_eq_true (by omega)))
    (.cons (op := .gtr) rfl (BR.cmp hN (cN 2147483647 (by decide)) (decide_eq_false (by omega)))
    (.cons (op := .gtr) rfl (BR.cmp hU (cN 32767 (by decide)) (decide_eq_true (by omega)))
    (.cons (op := .sub) rfl (BR.sub hU (cN 65536 (by decide)) hN (by rw [i64_id (by omega) (by omega)]; omega))
    (.cons (op := .lss) rfl (BR.cmp hN cM (decide_eq_false (by omega)))
    (.cons (op := .mul) rfl (BR.mul (iHIi h) (cN 256 (by decide)) (iHM h) (by rw [i64_id (by omega) (by omega)]; omega))
    (.cons (op := .mul) rfl (BR.mul (cN 256 (by decide)) (iHIi h) (iHM h) (by rw [i64_id (by omega) (by omega)]; omega))
    (.cons (op := .neq) rfl (BR.cmp hN hN (by simp))
    (.cons (op := .eql) rfl (BR.cmp hN hN (by simp))
    (.cons (op := .rem) rfl (BR.rem hN (cN 4294967296 (by decide)) hN (by omega) (tmod_big hz).symm)
    (.cons (op := .shr) rfl (BR.shr hN c8 (iSH h) (by decide) (fdiv256 z).symm) hr))))))))))))
end
/-! ### the digits' bytes -/
section
variable {val : Pos → Option Nat} {o : Nat} {z : Int} {u : Nat} {l : List UInt8}
theorem dgs_at {k i : Nat} {c : V} (h : (dgs o k)[i]? = some c) : i < k ∧ i < 5 ∧ c = .a 2 (pb (o + (11 + i))) := by
  unfold dgs at h
  rw [List.getElem?_take] at h
  split at h
  · rename_i hk
    match i, h with
    | 0, h => injection h with h; exact ⟨hk, by omega, h.symm⟩
    | 1, h => injection h with h; exact ⟨hk, by omega, h.symm⟩
    | 2, h => injection h with h; exact ⟨hk, by omega, h.symm⟩
    | 3, h => injection h with h; exact ⟨hk, by omega, h.symm⟩
    | 4, h => injection h with h; exact ⟨hk, by omega, h.symm⟩
    | i + 5, h => simp at h
  · cases h
theorem dgs_len {k : Nat} (h : k ≤ 5) : (dgs o k).length = k := by unfold dgs; rw [List.length_take]; simp only [List.length_cons, List.length_nil]; omega
theorem dg_iv (h : Num val o z u l) {i : Nat} (h5 : i < 5) (hl : i < l.length) : IV val (.a 2 (pb (o + (11 + i)))) .u8 ((l[i].toNat : Nat) : Int) := by
  have := h.dg i h5
  rw [getD_lt hl] at this
  exact IV.a2 this l[i].toNat_lt
theorem dgs_vr (h : Num val o z u l) {ρ : Rho} (hr : ValR val ρ) : VRs ρ (dgs o l.length) (l.map byteVal) := by
  refine VRs.mk (by rw [dgs_len h.hl, List.length_map]) fun i c x hc hx => ?_
  obtain ⟨h1, h2, rfl⟩ := dgs_at hc
  rw [List.getElem?_map, List.getElem?_eq_getElem h1] at hx
  injection hx with hx; subst hx
  exact (dg_iv h h2 h1).2 ρ hr
theorem dgs_inv (h : Num val o z u l) {ρ : Rho} (hr : ValR val ρ) {bs : List UInt8} (hv : VRs ρ (dgs o l.length) (bs.map byteVal)) : bs = l := by
  have hlen : bs.length = l.length := by have := hv.length; rw [dgs_len h.hl, List.length_map] at this; exact this.symm
  refine List.ext_getElem hlen fun i h1 h2 => ?_
  have h5 := h.hl
  have hc : (dgs o l.length)[i]? = some (.a 2 (pb (o + (11 + i)))) := by
    have hi : i < (dgs o l.length).length := by rw [dgs_len h.hl]; exact h2
    obtain ⟨_, _, e⟩ := dgs_at (List.getElem?_eq_getElem hi)
    rw [List.getElem?_eq_getElem hi, e]
  obtain ⟨x, hx, hvx⟩ := hv.get i _ hc
  rw [List.getElem?_map, List.getElem?_eq_getElem h1] at hx
  injection hx with hx; subst hx
  have := (dg_iv h (by omega) h2).1 ρ hr _ hvx
  have : Value.int .u8 ((bs[i].toNat : Nat) : Int) = .int .u8 ((l[i].toNat : Nat) : Int) := this
  injection this with _ this
  exact UInt8.toNat.inj (by omega)
end
/-- A number's text. -/
noncomputable def wS (neg : Bool) (o k : Nat) : List V := cond neg (.y 45 :: dgs o k) (dgs o k)
/-- A number's sign and digits. -/
def Sgn (neg : Bool) (z : Int) (u : Nat) (l : List UInt8) : Prop := match neg with
  | true => ∃ n : Nat, 1 ≤ n ∧ n ≤ 32768 ∧ z = -(n : Int) ∧ u = 65536 - n ∧ l = dig 5 n
  | false => ∃ n : Nat, n < 32768 ∧ z = n ∧ u = n ∧ l = dig 5 n
theorem sgn_ex {z : Int} (h : -32768 ≤ z ∧ z < 32768) : ∃ neg u l, Sgn neg z u l := by
  by_cases h0 : z < 0
  · exact ⟨true, 65536 - (-z).toNat, dig 5 (-z).toNat, (-z).toNat, by omega, by omega, by omega, rfl, rfl⟩
  · exact ⟨false, z.toNat, dig 5 z.toNat, z.toNat, by omega, by omega, rfl, rfl⟩
section
variable {val : Pos → Option Nat} {o : Nat} {z : Int} {u : Nat} {l : List UInt8} {neg : Bool}
theorem Sgn.facts (h : Sgn neg z u l) : (-32768 ≤ z ∧ z < 32768) ∧ u < 65536 ∧ (z = u ∨ z = (u : Int) - 65536) ∧ l.length ≤ 5 ∧ (∀ b ∈ l, 48 ≤ b.toNat ∧ b.toNat ≤ 57) ∧ 1 ≤ l.length := by
  cases neg with
  | true =>
    obtain ⟨n, h1, h2, h3, h4, h5⟩ := h
    subst h5
    exact ⟨by omega, by omega, by omega, dig_len 5 n, dig_byte 5 n, dig_ge n⟩
  | false =>
    obtain ⟨n, h1, h2, h3, h4⟩ := h
    subst h4
    exact ⟨by omega, by omega, by omega, dig_len 5 n, dig_byte 5 n, dig_ge n⟩
theorem Sgn.neg_iff (h : Sgn neg z u l) : neg = decide (z < 0) := by
  cases neg with
  | true => obtain ⟨n, h1, h2, h3, h4, h5⟩ := h; exact (decide_eq_true (by omega)).symm
  | false => obtain ⟨n, h1, h2, h3, h4⟩ := h; exact (decide_eq_false (by omega)).symm
theorem numB_ok (hs : Sgn neg z u l) (h : Num val o z u l) {r : List BE} (hr : AllBE val r) : AllBE val (numB neg o ++ r) := by
  have h0 := hs.neg_iff
  cases neg with
  | true => exact negB_ok h (of_decide_eq_true h0.symm) hr
  | false => exact posB_ok h (by have := of_decide_eq_false h0.symm; omega) hr
theorem wS_vr (h : Num val o z u l) {ρ : Rho} (hr : ValR val ρ) : VRs ρ (wS neg o l.length) (((cond neg [45] []) ++ l).map byteVal) := by
  cases neg with
  | true => exact ⟨vr_minus, dgs_vr h hr⟩
  | false => exact dgs_vr h hr
theorem wS_inv (h : Num val o z u l) {ρ : Rho} (hr : ValR val ρ) {bs : List UInt8} (hv : VRs ρ (wS neg o l.length) (bs.map byteVal)) : bs = cond neg [45] [] ++ l := by
  cases neg with
  | false => exact dgs_inv h hr hv
  | true =>
    cases bs with
    | nil => exact absurd hv (by simp [wS, VRs])
    | cons b bs =>
      obtain ⟨h1, h2⟩ := hv
      have h3 := dgs_inv h hr h2
      have h4 : b = 45 := by
        have h1 : VR ρ (.y 45) (.int .u8 ((b.toNat : Nat) : Int)) := h1
        simp only [VR] at h1
        obtain ⟨-, -, h5⟩ := h1
        exact UInt8.toNat.inj (by show b.toNat = 45; omega)
      rw [h3, h4]; rfl
theorem Sgn.atoi (h : Sgn neg z u l) : Lib.atoi (cond neg [45] [] ++ l) = some z := by
  cases neg with
  | true =>
    obtain ⟨n, h1, h2, h3, h4, h5⟩ := h
    rw [h3, h5]
    exact atoi_neg (f := 4) (by omega)
  | false =>
    obtain ⟨n, h1, h2, h3, h4⟩ := h
    rw [h2, h4]
    exact atoi_pos (f := 4) (by omega)
theorem Sgn.itoa (h : Sgn neg z u l) : Lib.itoa z = cond neg [45] [] ++ l := by
  cases neg with
  | true =>
    obtain ⟨n, h1, h2, h3, h4, h5⟩ := h
    rw [h3, h5]
    exact itoa_neg (f := 4) (by omega) h1
  | false =>
    obtain ⟨n, h1, h2, h3, h4⟩ := h
    rw [h2, h4]
    exact itoa_pos (f := 4) (by omega)
end
/-! ### the functions of a number -/
section
variable {val : Pos → Option Nat} {o : Nat} {z : Int} {u : Nat} {l : List UInt8} {neg : Bool} {fx : Pos → Option Fx} {bin : BinOp → V → V → Option V} {cvt : IntKind → V → Option V}
theorem num_ok (hs : Sgn neg z u l) (h : Num val o z u l) : PureOk Tryz.prog (GG val fx bin cvt) 19 [vN o] (.w (wS neg o l.length)) := by
  intro ρ xs nx bs w hg hv _
  obtain ⟨x, rfl, hx⟩ := one_arg hv
  have hx := (iN h).1 ρ hg.valR x hx
  have hw := wS_vr (neg := neg) h hg.valR
  cases neg with
  | true =>
    obtain ⟨n, h1, h2, h3, h4, h5⟩ := hs
    rw [hx, h3]
    refine ⟨enters19 _ w, (swNum_neg 4 n w (by omega) (by omega) h1).mono ?_⟩
    rintro e w' ⟨rfl, hk⟩
    refine ⟨_, rfl, str_w ?_, hk⟩
    rw [← h5]; exact hw
  | false =>
    obtain ⟨n, h1, h2, h3, h4⟩ := hs
    rw [hx, h2]
    refine ⟨enters19 _ w, (swNum_ok 4 n w (by omega) (by omega)).mono ?_⟩
    rintro e w' ⟨rfl, hk⟩
    refine ⟨_, rfl, str_w ?_, hk⟩
    rw [← h4]; exact hw
theorem atoi_ok2 (hs : Sgn neg z u l) (h : Num val o z u l) : PureOk Tryz.prog (GG val fx bin cvt) 74 [.w (wS neg o l.length)] (.t [vN o, .i0]) := by
  intro ρ xs nx bs w hg hv _
  obtain ⟨x, rfl, hx⟩ := one_arg hv
  obtain ⟨s, rfl, hs'⟩ := w_str hx
  have e := wS_inv h hg.valR hs'
  have h5 := h.hl
  have hsz : s.size ≤ 18 := by
    have : s.data.toList.length = (cond neg [45] [] ++ l).length := by rw [e]
    rw [List.length_append] at this
    have h2 : s.size = s.data.toList.length := (Array.length_toList ..).symm
    have h3 : (cond neg [45] [] : List UInt8).length ≤ 1 := by cases neg <;> decide
    omega
  refine ⟨enters74 _ w, (Tryz.strconv_Atoi s z hsz (by rw [e]; exact hs.atoi) w).mono ?_⟩
  rintro e w' ⟨rfl, t, rfl⟩
  refine ⟨_, rfl, ?_, kept_below (Joins.below_bytesWorld _ _ _ _ (Nat.le_refl _))⟩
  have hN := (iN h).2 ρ hg.valR
  unfold VR
  exact ⟨hN, by unfold VR; trivial, trivial⟩
end
section
variable {val : Pos → Option Nat} {o : Nat} {z : Int} {u : Nat} {l : List UInt8} {neg : Bool} {bin : BinOp → V → V → Option V} {cvt : IntKind → V → Option V}
variable {len : Nat} {W : World} {b : Nat → Nat} {a : Option Addr} {oT oP oC : Obj} {x : Value} {bl cap : Nat}
theorem itoa_ok2 {C : Array Value} {E : TypeId} (hs : Sgn neg z u l) (h : Num val o z u l) (hP : oP = .cells C E) (hC : C.toList = Lib.pow10Tab.map fun (z : Int) => Value.int .u64 z) :
    PureOk Tryz.prog (GG val (fxQ oT oP x bl oC) bin cvt) 161 [vN o] (.w (wS neg o l.length)) := by
  intro ρ xs nx bs w hg hv hh
  obtain ⟨y, rfl, hy⟩ := one_arg hv
  have hz := h.hz
  have hy := (iN h).1 ρ hg.valR y hy
  rw [hy]
  obtain ⟨hlo, q2, hq2, hr, -, hob⟩ := hg.fxo (pb 2) 7 oP rfl
  have hw : w.heap[7]? = some oP := by
    have := (hh.fix (pb 2) q2 oP hlo hq2 hob).1
    rwa [hr] at this
  rw [hP] at hw
  refine ⟨enters161 _ w, (Tryz.strconv_Itoa z (by omega) (by omega) w (pow_tab hw hC)).mono ?_⟩
  rintro e w' ⟨rfl, k, os, rfl⟩
  refine ⟨_, rfl, str_w ?_, kept_grown w k os⟩
  rw [hs.itoa]
  exact wS_vr h hg.valR
/-- The number at a place of the slice. -/
theorem short_at {at_ : Nat} (hat : at_ ≤ 2) {r : V} (hr : ∀ ρ, ValR val ρ → VR ρ r (.int .i64 z)) (hb : ∀ i, b i < 256) (hlen : len ≤ 9223372036854775807) (hC : W.heap[bl]? = some oC) (hc : ∀ i, i < len → ∃ ad, a = some ad ∧ ad.block = bl ∧ W.cell? (ad.add i) = some (.int .u8 ((b i : Nat) : Int)))
    (hz : z = (acc b len at_ 2 : Nat) - 32768) : PureOk Tryz.prog (GG val (fxQ oT oP (.slice a len cap) bl oC) bin cvt) 21 [.a 1 (pb 1), .n at_] r := by
  intro ρ xs nx bs w hg hv hh
  obtain ⟨x, y, rfl, h1, h2⟩ := two_args (P := fun x y => VR ρ (.a 1 (pb 1)) x ∧ VR ρ (.n at_) y) hv fun x y h h' => ⟨h, h'⟩
  obtain ⟨-, q, hq, hqv⟩ := hg.fxv (pb 1) (.slice a len cap) rfl
  obtain ⟨q', hq', hat'⟩ := h1.a
  rw [hq] at hq'; injection hq' with hq'; subst hq'
  have hx : x = .slice a len cap := by
    unfold AtR at hat'
    split at hat'
    · rename_i he; cases he
    · exact (hat'.2.2 _ hqv).symm
    · rename_i he; cases he
    · rename_i he; omega
    · exact hat'.elim
  subst hx
  obtain ⟨-, rfl⟩ := h2.n
  obtain ⟨hlo, q2, hq2, hr2, -, hob⟩ := hg.fxo (pb 16) bl oC rfl
  have hw : w.heap[bl]? = some oC := by
    have := (hh.fix (pb 16) q2 oC hlo hq2 hob).1
    rwa [hr2] at this
  rw [wrap_nat' (by omega)]
  refine ⟨enters21 _ w, (swShort_ok b hb at_ hat a len cap hlen w fun i hi => ?_).mono ?_⟩
  · obtain ⟨ad, h3, h4, h5⟩ := hc i hi
    exact ⟨ad, h3, by rw [cell_same (W := W)]; exact h5; rw [block_add, h4, hw, hC]⟩
  · rintro e w' ⟨rfl, rfl⟩
    exact ⟨_, rfl, by rw [← hz]; exact hr ρ hg.valR, Kept.refl _⟩
end
/-! ### the names of a run -/
def valF (z : Int) (u : Nat) (l : List UInt8) (n : Nat) : Option Nat :=
  if n = 3 then some (z % 18446744073709551616).toNat else if n = 4 then some u else if n = 5 then some (u / 256) else if n = 6 then some (u % 256) else
  if n = 7 then some (u / 256) else if n = 8 then some (u % 256) else if n = 9 then some (u / 256 * 256) else if n = 10 then some ((z / 256) % 18446744073709551616).toNat else
  if 11 ≤ n ∧ n < 16 then some (l.getD (n - 11) 48).toNat else none
/-- 1: the slice's length; 3 to 15 the one number; 23 to 35 the other; from 40 on what is reckoned. -/
def val2 (len : Nat) (za : Int) (ua : Nat) (la : List UInt8) (zb : Int) (ub : Nat) (lb : List UInt8) (ar : Nat → Option Nat) : Pos → Option Nat := fun id =>
  if id.val = 1 then some len else if id.val < 20 then valF za ua la id.val else if id.val < 40 then valF zb ub lb (id.val - 20) else if id.val < 60 then ar (id.val - 40) else none
theorem valF_dig (z : Int) (u : Nat) (l : List UInt8) {i : Nat} (h : i < 5) : valF z u l (11 + i) = some (l.getD i 48).toNat := by
  unfold valF
  rw [if_neg (by omega), if_neg (by omega), if_neg (by omega), if_neg (by omega), if_neg (by omega), if_neg (by omega), if_neg (by omega), if_neg (by omega), if_pos (by omega), Nat.add_sub_cancel_left]
section
variable {len : Nat} {za zb : Int} {ua ub : Nat} {la lb : List UInt8} {ar : Nat → Option Nat} {na nb : Bool}
theorem val2_lt : ∀ id m, val2 len za ua la zb ub lb ar id = some m → id.val < 60 := by
  intro id m h
  unfold val2 at h
  by_cases h60 : id.val < 60
  · exact h60
  · rw [if_neg (by omega), if_neg (by omega), if_neg (by omega), if_neg h60] at h; cases h
theorem val2_a {n : Nat} (h1 : n ≠ 1) (h : n < 20) : val2 len za ua la zb ub lb ar (pb n) = valF za ua la n := by
  unfold val2; rw [pbv (by omega), if_neg h1, if_pos h]
theorem val2_b {n : Nat} (h : n < 20) : val2 len za ua la zb ub lb ar (pb (20 + n)) = valF zb ub lb n := by
  unfold val2; rw [pbv (by omega), if_neg (by omega), if_neg (by omega), if_pos (by omega), Nat.add_sub_cancel_left]
theorem val2_r {n : Nat} (h : n < 20) : val2 len za ua la zb ub lb ar (pb (40 + n)) = ar n := by
  unfold val2; rw [pbv (by omega), if_neg (by omega), if_neg (by omega), if_neg (by omega), if_pos (by omega), Nat.add_sub_cancel_left]
theorem num_a (h : Sgn na za ua la) : Num (val2 len za ua la zb ub lb ar) 0 za ua la := by
  obtain ⟨h1, h2, h3, h4, h5, -⟩ := h.facts
  exact ⟨val2_a (by decide) (by decide), val2_a (by decide) (by decide), val2_a (by decide) (by decide), val2_a (by decide) (by decide), val2_a (by decide) (by decide), val2_a (by decide) (by decide), val2_a (by decide) (by decide), val2_a (by decide) (by decide),
    fun i hi => by rw [Nat.zero_add, val2_a (by omega) (by omega)]; exact valF_dig _ _ _ hi, h1, h2, h3, h4, h5⟩
theorem num_b (h : Sgn nb zb ub lb) : Num (val2 len za ua la zb ub lb ar) 20 zb ub lb := by
  obtain ⟨h1, h2, h3, h4, h5, -⟩ := h.facts
  exact ⟨val2_b (n := 3) (by decide), val2_b (n := 4) (by decide), val2_b (n := 5) (by decide), val2_b (n := 6) (by decide), val2_b (n := 7) (by decide), val2_b (n := 8) (by decide), val2_b (n := 9) (by decide), val2_b (n := 10) (by decide),
    fun i hi => by rw [val2_b (by omega)]; exact valF_dig _ _ _ hi, h1, h2, h3, h4, h5⟩
theorem dig_a (h : Sgn na za ua la) : ∀ id : Pos, 11 ≤ id.val → id.val < 16 → ∃ m, val2 len za ua la zb ub lb ar id = some m ∧ 48 ≤ m ∧ m ≤ 57 := by
  intro id h1 h2
  obtain ⟨-, -, -, -, h5, -⟩ := h.facts
  refine ⟨(la.getD (id.val - 11) 48).toNat, ?_, ?_⟩
  · have e := valF_dig za ua la (i := id.val - 11) (by omega)
    rw [show 11 + (id.val - 11) = id.val by omega] at e
    unfold val2
    rw [if_neg (by omega), if_pos (by omega), e]
  · by_cases h : id.val - 11 < la.length
    · have : la.getD (id.val - 11) 48 ∈ la := by rw [getD_lt h]; exact List.getElem_mem h
      exact h5 _ this
    · rw [getD_ge (by omega)]
      decide
theorem dig_b (h : Sgn nb zb ub lb) : ∀ id : Pos, 31 ≤ id.val → id.val < 36 → ∃ m, val2 len za ua la zb ub lb ar id = some m ∧ 48 ≤ m ∧ m ≤ 57 := by
  intro id h1 h2
  obtain ⟨-, -, -, -, h5, -⟩ := h.facts
  refine ⟨(lb.getD (id.val - 31) 48).toNat, ?_, ?_⟩
  · have e := valF_dig zb ub lb (i := id.val - 31) (by omega)
    rw [show 11 + (id.val - 31) = id.val - 20 by omega] at e
    unfold val2
    rw [if_neg (by omega), if_neg (by omega), if_pos (by omega), e]
  · by_cases h : id.val - 31 < lb.length
    · have : lb.getD (id.val - 31) 48 ∈ lb := by rw [getD_lt h]; exact List.getElem_mem h
      exact h5 _ this
    · rw [getD_ge (by omega)]
      decide
end
def rho2 (val : Pos → Option Nat) (fx : Pos → Option Fx) : Rho := fun id =>
  if id.val < 60 then some ⟨match fx id with | some (.ob r _) => r | _ => 3, 0, match val id with | some m => m | none => 256, 357 * 65536, match fx id with | some (.ob _ o) => some o | _ => none, match fx id with | some (.v x) => some x | _ => none⟩ else none
theorem rho2_at {val : Pos → Option Nat} {fx : Pos → Option Fx} {id : Pos} (h : id.val < 60) : rho2 val fx id = some ⟨match fx id with | some (.ob r _) => r | _ => 3, 0, match val id with | some m => m | none => 256, 357 * 65536, match fx id with | some (.ob _ o) => some o | _ => none, match fx id with | some (.v x) => some x | _ => none⟩ := if_pos h
theorem gr_2 {val : Pos → Option Nat} {fx : Pos → Option Fx} {bin : BinOp → V → V → Option V} {cvt : IntKind → V → Option V} {oT : Obj} (hT : fx .h = some (.ob 3 oT)) (hval : ∀ id m, val id = some m → id.val < 60) (hfx : ∀ id y, fx id = some y → id.val < 17)
    (hok : (GG val fx bin cvt).tab.OK) : GR (GG val fx bin cvt) (rho2 val fx) := by
  refine ⟨fun g p e => ?_, fun id m e => ?_, fun id r o e => ?_, fun id y e => ?_, hok⟩
  · obtain ⟨rfl, rfl⟩ := glF_ok g p e
    exact ⟨by decide, _, rho2_at (by decide), by rw [hT], rfl⟩
  · have e : val id = some m := e
    have h := hval id m e
    exact ⟨by omega, _, rho2_at h, by rw [e]⟩
  · have e : fx id = some (.ob r o) := e
    have h := hfx id _ e
    exact ⟨by omega, _, rho2_at (by omega), by rw [e], rfl, by rw [e]⟩
  · have e : fx id = some (.v y) := e
    have h := hfx id _ e
    exact ⟨by omega, _, rho2_at (by omega), by rw [e]⟩
/-- The run. -/
theorem run_2 {val : Pos → Option Nat} {len : Nat} {bin : BinOp → V → V → Option V} {cvt : IntKind → V → Option V} {f : FuncId} {W : World} {oT oP oC : Obj} {bl : Nat} {a : Option Addr} {cap : Nat} (hval : ∀ id m, val id = some m → id.val < 60) (hv1 : val (pb 1) = some len)
    (hT : W.heap[3]? = some oT) (hP : W.heap[7]? = some oP) (hC : W.heap[bl]? = some oC)
    (hlen : len ≤ 9223372036854775807) (hok : (GG val (fxQ oT oP (.slice a len cap) bl oC) bin cvt).tab.OK) (h : PureOk Tryz.prog (GG val (fxQ oT oP (.slice a len cap) bl oC) bin cvt) f [.a 1 (pb 1)] (.b true)) :
    Calls Tryz.prog f #[.slice a len cap] W fun e w' => e = .returned (.bool true) ∧ Kept W w' := by
  have h3 : 3 < W.heap.size := (Array.getElem?_eq_some_iff.1 hT).1
  have hob := fxQ_ob (x := .slice a len cap) hT hP hC
  refine run_true h (ρ := rho2 val (fxQ oT oP (.slice a len cap) bl oC)) (gr_2 (oT := oT) rfl hval fxQ_lt hok) ?_ (hr_start (fun id q e => ?_) fun id q o e he => ?_)
  · have hv : VR (rho2 val (fxQ oT oP (.slice a len cap) bl oC)) (.a 1 (pb 1)) (.slice a len cap) := by
      refine ⟨_, rho2_at (id := pb 1) (by decide +kernel), ?_⟩
      rw [hv1]
      exact ⟨rfl, hlen, fun y hy => by
        have hy : some (Value.slice a len cap) = some y := hy
        injection hy with hy; exact hy.symm⟩
    exact ⟨hv, trivial⟩
  · unfold rho2 at e
    by_cases h0 : id.val < 60
    · rw [if_pos h0] at e; injection e with e; subst e
      refine ⟨by omega, ?_⟩
      show (match fxQ oT oP (.slice a len cap) bl oC id with | some (.ob r _) => r | _ => 3) < W.heap.size
      split
      · rename_i r o hh; exact (Array.getElem?_eq_some_iff.1 (hob _ _ _ hh)).1
      · exact h3
    · rw [if_neg h0] at e; cases e
  · unfold rho2 at e
    by_cases h0 : id.val < 60
    · rw [if_pos h0] at e; injection e with e; subst e
      have he : (match fxQ oT oP (.slice a len cap) bl oC id with | some (.ob _ o) => some o | _ => none) = some o := he
      show W.heap[(match fxQ oT oP (.slice a len cap) bl oC id with | some (.ob r _) => r | _ => 3)]? = some o
      split at he
      · rename_i r o' hh
        injection he with he; subst he
        first | exact hob _ _ _ hh | (rw [hh]; exact hob _ _ _ hh)
      · cases he
    · rw [if_neg h0] at e; cases e
/-! ### operations of a run -/
noncomputable def bin2 (l : List BE) : BinOp → V → V → Option V := fun op x y => Option.rec (motive := fun _ => Option V) (binD 31 36 l op x y) (fun r => some r) (binD 11 16 [] op x y)
theorem bin2_snd {val : Pos → Option Nat} {l : List BE} (h1 : ∀ id : Pos, 11 ≤ id.val → id.val < 16 → ∃ m, val id = some m ∧ 48 ≤ m ∧ m ≤ 57) (h2 : ∀ id : Pos, 31 ≤ id.val → id.val < 36 → ∃ m, val id = some m ∧ 48 ≤ m ∧ m ≤ 57) (hl : AllBE val l) {op : BinOp} {x y r : V} (h : bin2 l op x y = some r) : BR val op x y r := by
  cases e : binD 11 16 [] op x y with
  | some r' =>
    have h : Option.rec (motive := fun _ => Option V) (binD 31 36 l op x y) (fun r => some r) (binD 11 16 [] op x y) = some r := h
    rw [e] at h
    injection h with h; subst h
    exact binD_snd h1 .nil e
  | none =>
    have h : Option.rec (motive := fun _ => Option V) (binD 31 36 l op x y) (fun r => some r) (binD 11 16 [] op x y) = some r := h
    rw [e] at h
    exact binD_snd h2 hl h
theorem tab2_ok {val : Pos → Option Nat} {fx : Pos → Option Fx} {l : List BE} {cs : List CE} (h1 : ∀ id : Pos, 11 ≤ id.val → id.val < 16 → ∃ m, val id = some m ∧ 48 ≤ m ∧ m ≤ 57) (h2 : ∀ id : Pos, 31 ≤ id.val → id.val < 36 → ∃ m, val id = some m ∧ 48 ≤ m ∧ m ≤ 57) (hl : AllBE val l) (hc : AllCE val cs) : (GG val fx (bin2 l) (cvtD cs)).tab.OK :=
  ⟨fun ρ hr _ _ _ _ h P t ox oy w x x' hx hx' => bin2_snd h1 h2 hl h ρ hr P t ox oy w x x' hx hx', fun ρ hr _ _ _ h x hx => lookC_snd hc h ρ hr x hx⟩
/-- The table of a run: the slice's length, the numbers, what is reckoned. -/
noncomputable def tabB (na nb : Bool) (r : List BE) : List BE := ⟨15, vL, .n 1048576, .b false⟩ :: (numB na 0 ++ (numB nb 20 ++ r))
noncomputable def tabC (r : List CE) : List CE := numC 0 ++ (numC 20 ++ r)
/-- What is known of the numbers' functions. -/
noncomputable def numN (wa wb : List V) : List (Nat × FN) := [(21, memoV [([.a 1 (pb 1), .n 0], vN 0), ([.a 1 (pb 1), .n 2], vN 20)]), (19, memoV [([vN 0], .w wa), ([vN 20], .w wb)]), (161, memoV [([vN 0], .w wa), ([vN 20], .w wb)]), (74, memoV [([.w wa], .t [vN 0, .i0]), ([.w wb], .t [vN 20, .i0])]), (137, memoR [opRow])]
/-- The same where the second number is zero. -/
noncomputable def numZ (wa : List V) : List (Nat × FN) := [(21, memoV [([.a 1 (pb 1), .n 0], vN 0), ([.a 1 (pb 1), .n 2], .n 0)]), (19, memoV [([vN 0], .w wa)]), (161, memoV [([vN 0], .w wa)]), (74, memoV [([.w wa], .t [vN 0, .i0])]), (137, memoR [opRow])]
/-- What a law's run is about. -/
structure Case (len : Nat) (za zb : Int) (W : World) (b : Nat → Nat) (a : Option Addr) (oT oP oC : Obj) (bl : Nat) : Prop where
  hb : ∀ i, b i < 256
  hlen : len ≤ 9223372036854775807
  hT : W.heap[3]? = some oT
  hP : W.heap[7]? = some oP
  hC : W.heap[bl]? = some oC
  hc : ∀ i, i < len → ∃ ad, a = some ad ∧ ad.block = bl ∧ W.cell? (ad.add i) = some (.int .u8 ((b i : Nat) : Int))
  hza : za = (acc b len 0 2 : Nat) - 32768
  hzb : zb = (acc b len 2 2 : Nat) - 32768
  tT : ∃ C, oT = .cells C 357 ∧ C.toList = asc.map fun (z : Nat) => Value.int .u8 z
  tP : ∃ C E, oP = .cells C E ∧ C.toList = Lib.pow10Tab.map fun (z : Int) => Value.int .u64 z
section
variable {len : Nat} {za zb : Int} {ua ub : Nat} {la lb : List UInt8} {ar : Nat → Option Nat} {na nb : Bool} {W : World} {b : Nat → Nat} {a : Option Addr} {oT oP oC : Obj} {bl cap : Nat} {bin : BinOp → V → V → Option V} {cvt : IntKind → V → Option V}
theorem Case.tab (h : Case len za zb W b a oT oP oC bl) (x : Value) : Tab (fxQ oT oP x bl oC) := by
  obtain ⟨C, h1, h2⟩ := h.tT
  exact ⟨C, by rw [← h1]; rfl, h2⟩
theorem numN_snd (h : Case len za zb W b a oT oP oC bl) (ha : Sgn na za ua la) (hb : Sgn nb zb ub lb) : AllS Tryz.prog (GG (val2 len za ua la zb ub lb ar) (fxQ oT oP (.slice a len cap) bl oC) bin cvt) (numN (wS na 0 la.length) (wS nb 20 lb.length)) := by
  obtain ⟨C, E, hP, hPC⟩ := h.tP
  have nA := num_a (len := len) (zb := zb) (ub := ub) (lb := lb) (ar := ar) ha
  have nB := num_b (len := len) (za := za) (ua := ua) (la := la) (ar := ar) hb
  exact .cons (memoV_snd (.cons (short_at (by decide) (iN nA).2 h.hb h.hlen h.hC h.hc h.hza) (.cons (short_at (by decide) (iN nB).2 h.hb h.hlen h.hC h.hc h.hzb) .nil)))
    (.cons (memoV_snd (.cons (num_ok ha nA) (.cons (num_ok hb nB) .nil)))
    (.cons (memoV_snd (.cons (itoa_ok2 ha nA hP hPC) (.cons (itoa_ok2 hb nB hP hPC) .nil)))
    (.cons (memoV_snd (.cons (atoi_ok2 ha nA) (.cons (atoi_ok2 hb nB) .nil))) (.cons (memoR_snd (.cons (op_ok (h.tab _)) .nil)) .nil))))
theorem numZ_snd (h : Case len za zb W b a oT oP oC bl) (ha : Sgn na za ua la) (hb : zb = 0) : AllS Tryz.prog (GG (val2 len za ua la zb ub lb ar) (fxQ oT oP (.slice a len cap) bl oC) bin cvt) (numZ (wS na 0 la.length)) := by
  obtain ⟨C, E, hP, hPC⟩ := h.tP
  have nA := num_a (len := len) (zb := zb) (ub := ub) (lb := lb) (ar := ar) ha
  exact .cons (memoV_snd (.cons (short_at (by decide) (iN nA).2 h.hb h.hlen h.hC h.hc h.hza) (.cons (short_at (z := zb) (by decide) (fun _ _ => by rw [hb]; exact VR_n (m := 0) (by decide)) h.hb h.hlen h.hC h.hc h.hzb) .nil)))
    (.cons (memoV_snd (.cons (num_ok ha nA) .nil)) (.cons (memoV_snd (.cons (itoa_ok2 ha nA hP hPC) .nil)) (.cons (memoV_snd (.cons (atoi_ok2 ha nA) .nil)) (.cons (memoR_snd (.cons (op_ok (h.tab _)) .nil)) .nil))))
theorem iL2 (hlen : len ≤ 1048576) : IV (val2 len za ua la zb ub lb ar) vL .i64 len := (IV.a0 (val := val2 len za ua la zb ub lb ar) (m := len) rfl (by omega)).cast (wrap_nat' (by omega))
theorem tabB_ok (hlen : len ≤ 1048576) (ha : Sgn na za ua la) (hb : Sgn nb zb ub lb) {r : List BE} (hr : AllBE (val2 len za ua la zb ub lb ar) r) : AllBE (val2 len za ua la zb ub lb ar) (tabB na nb r) :=
  .cons (op := .gtr) rfl (BR.cmp (iL2 hlen) (cN 1048576 (by decide)) (decide_eq_false (by omega))) (numB_ok ha (num_a ha) (numB_ok hb (num_b hb) hr))
theorem tabC_ok (ha : Sgn na za ua la) (hb : Sgn nb zb ub lb) {r : List CE} (hr : AllCE (val2 len za ua la zb ub lb ar) r) : AllCE (val2 len za ua la zb ub lb ar) (tabC r) := numC_ok (num_a ha) (numC_ok (num_b hb) hr)
/-- A law's run at two numbers of known signs and numbers of digits. -/
theorem run_case {F : FuncId} {eB : List BE} {eC : List CE} (h : Case len za zb W b a oT oP oC bl) (hl : len ≤ 1048576) (ha : Sgn na za ua la) (hb : Sgn nb zb ub lb) (hB : AllBE (val2 len za ua la zb ub lb ar) eB) (hC : AllCE (val2 len za ua la zb ub lb ar) eC)
    (R : ∀ {val : Pos → Option Nat} {fx : Pos → Option Fx}, Tab fx → (∀ {b c}, AllS Tryz.prog (GG val fx b c) (numN (wS na 0 la.length) (wS nb 20 lb.length))) → (GG val fx (bin2 (tabB na nb [])) (cvtD (tabC []))).tab.OK → (GG val fx (bin2 (tabB na nb eB)) (cvtD (tabC eC))).tab.OK → PureOk Tryz.prog (GG val fx (bin2 (tabB na nb eB)) (cvtD (tabC eC))) F [.a 1 (pb 1)] (.b true)) :
    Calls Tryz.prog F #[.slice a len cap] W fun e w' => e = .returned (.bool true) ∧ Kept W w' := by
  have hok : (GG (val2 len za ua la zb ub lb ar) (fxQ oT oP (.slice a len cap) bl oC) (bin2 (tabB na nb eB)) (cvtD (tabC eC))).tab.OK := tab2_ok (dig_a ha) (dig_b hb) (tabB_ok hl ha hb hB) (tabC_ok ha hb hC)
  exact run_2 val2_lt rfl h.hT h.hP h.hC h.hlen hok (R (h.tab _) (fun {_ _} => numN_snd h ha hb) (tab2_ok (dig_a ha) (dig_b hb) (tabB_ok hl ha hb .nil) (tabC_ok ha hb .nil)) hok)
/-- The same where the second number is zero. -/
theorem run_zero {F : FuncId} {eB : List BE} {eC : List CE} (h : Case len za zb W b a oT oP oC bl) (hl : len ≤ 1048576) (ha : Sgn na za ua la) (hb : Sgn false zb ub lb) (h0 : zb = 0) (hB : AllBE (val2 len za ua la zb ub lb ar) eB) (hC : AllCE (val2 len za ua la zb ub lb ar) eC)
    (R : ∀ {val : Pos → Option Nat} {fx : Pos → Option Fx}, Tab fx → (∀ {b c}, AllS Tryz.prog (GG val fx b c) (numZ (wS na 0 la.length))) → (GG val fx (bin2 (tabB na false [])) (cvtD (tabC []))).tab.OK → (GG val fx (bin2 (tabB na false eB)) (cvtD (tabC eC))).tab.OK → PureOk Tryz.prog (GG val fx (bin2 (tabB na false eB)) (cvtD (tabC eC))) F [.a 1 (pb 1)] (.b true)) :
    Calls Tryz.prog F #[.slice a len cap] W fun e w' => e = .returned (.bool true) ∧ Kept W w' := by
  have hok : (GG (val2 len za ua la zb ub lb ar) (fxQ oT oP (.slice a len cap) bl oC) (bin2 (tabB na false eB)) (cvtD (tabC eC))).tab.OK := tab2_ok (dig_a ha) (dig_b hb) (tabB_ok hl ha hb hB) (tabC_ok ha hb hC)
  exact run_2 val2_lt rfl h.hT h.hP h.hC h.hlen hok (R (h.tab _) (fun {_ _} => numZ_snd h ha h0) (tab2_ok (dig_a ha) (dig_b hb) (tabB_ok hl ha hb .nil) (tabC_ok ha hb .nil)) hok)
/-- The same at a slice that is too long. -/
theorem run_big {F : FuncId} (h : Case len za zb W b a oT oP oC bl) (hg : 1048576 < len) (E : ∀ val fx, chkP (FF natO val fx (binM 1 true 0) no1 (pos F) [.a 1 (pb 1)] (pos 64) .e) (.b true) = true) :
    Calls Tryz.prog F #[.slice a len cap] W fun e w' => e = .returned (.bool true) ∧ Kept W w' := by
  have hv : ∀ id : Pos, id.val = 1 → val2 len za 0 [] zb 0 [] (fun _ => none) id = some len := fun id h => by unfold val2; rw [if_pos h]
  have hok : (GG (val2 len za 0 [] zb 0 [] fun _ => none) (fxQ oT oP (.slice a len cap) bl oC) (binM 1 true 0) no1).tab.OK :=
    ⟨fun _ hr _ _ _ _ h' P t ox oy w _ _ hx hx' => binM_snd hv h.hlen (by decide) (by decide) (decide_eq_true hg).symm (Nat.mod_one len).symm hr h' P t ox oy w hx hx', no1_cvt⟩
  exact run_2 val2_lt rfl h.hT h.hP h.hC h.hlen hok (pure_ok hok (natO_snd (h.tab _)) rfl rfl (E _ _))
end
/-- A law over a slice of bytes out of its cases. -/
theorem run_law2 {F : FuncId} {W : World} {C C7 : Array Value} {E7 : TypeId} (hC : W.heap[3]? = some (.cells C 357)) (hz : C.toList = asc.map fun (z : Nat) => Value.int .u8 z)
    (hP : W.heap[7]? = some (.cells C7 E7)) (hPz : C7.toList = Lib.pow10Tab.map fun (z : Int) => Value.int .u64 z) (a : Option Addr) (len cap : Nat) (b : Nat → Nat) (hlen : len ≤ 9223372036854775807) (hb : ∀ i, b i < 256)
    (hc : ∀ i, i < len → ∃ ad, a = some ad ∧ ad.block < W.heap.size ∧ W.cell? (ad.add i) = some (.int .u8 ((b i : Nat) : Int)))
    (E : ∀ val fx, chkP (FF natO val fx (binM 1 true 0) no1 (pos F) [.a 1 (pb 1)] (pos 64) .e) (.b true) = true)
    (R : ∀ {za zb oT oP oC bl na ua la nb ub lb}, Case len za zb W b a oT oP oC bl → len ≤ 1048576 → Sgn na za ua la → Sgn nb zb ub lb → Calls Tryz.prog F #[.slice a len cap] W fun e w' => e = .returned (.bool true) ∧ Kept W w') :
    Calls Tryz.prog F #[.slice a len cap] W fun e w' => e = .returned (.bool true) ∧ Kept W w' := by
  obtain ⟨bl, oC, hbl, hc'⟩ : ∃ bl oC, W.heap[bl]? = some oC ∧ ∀ i, i < len → ∃ ad, a = some ad ∧ ad.block = bl ∧ W.cell? (ad.add i) = some (.int .u8 ((b i : Nat) : Int)) := by
    by_cases h0 : 0 < len
    · obtain ⟨ad, h1, h2, h3⟩ := hc 0 h0
      refine ⟨ad.block, W.heap[ad.block], Array.getElem?_eq_getElem h2, fun i hi => ?_⟩
      obtain ⟨ad', h4, h5, h6⟩ := hc i hi
      rw [h1] at h4; injection h4 with h4; subst h4
      exact ⟨ad, h1, rfl, h6⟩
    · exact ⟨3, _, hC, fun i hi => absurd hi (by omega)⟩
  have h1 := acc_lt hb len 0 2
  have h2 := acc_lt hb len 2 2
  have hcase : Case len ((acc b len 0 2 : Nat) - 32768) ((acc b len 2 2 : Nat) - 32768) W b a (.cells C 357) (.cells C7 E7) oC bl := ⟨hb, hlen, hC, hP, hbl, hc', rfl, rfl, ⟨C, rfl, hz⟩, ⟨C7, E7, rfl, hPz⟩⟩
  by_cases hg : 1048576 < len
  · exact run_big hcase hg E
  · obtain ⟨na, ua, la, hs⟩ := sgn_ex (z := (acc b len 0 2 : Nat) - 32768) (by omega)
    obtain ⟨nb, ub, lb, hs'⟩ := sgn_ex (z := (acc b len 2 2 : Nat) - 32768) (by omega)
    exact R hcase (by omega) hs hs'
end Go.Proofs.YtmbnogellhoheaaGreatDoor.Run.Two

/- What FnReckon reckons of two numbers: names, and what the operations give. -/
namespace Go.Proofs.YtmbnogellhoheaaGreatDoor.Run.Two
open Go Go.Proofs.YtmbnogellhoheaaGreatDoor.Ev Go.Proofs.YtmbnogellhoheaaGreatDoor Go.Proofs.YtmbnogellhoheaaGreatDoor.Run
noncomputable abbrev sA : V := .a 0 (pb 40)
noncomputable abbrev sS : V := .a 0 (pb 41)
noncomputable abbrev sM : V := .a 0 (pb 42)
noncomputable abbrev s4 : V := .a 0 (pb 43)
noncomputable abbrev sp : V := .a 0 (pb 44)
noncomputable abbrev sw : V := .a 0 (pb 45)
noncomputable abbrev sq : V := .a 0 (pb 46)
noncomputable abbrev tA : V := .a 18 (pb 50)
noncomputable abbrev tS : V := .a 18 (pb 51)
noncomputable abbrev tM : V := .a 18 (pb 52)
noncomputable abbrev t4 : V := .a 18 (pb 53)
noncomputable abbrev tq : V := .a 18 (pb 54)
noncomputable abbrev tN : V := .a 18 (pb 55)
/-- The product's square in 32 bits, without and with a sign. -/
def sqr (x y : Int) : Int := (x * y) * (x * y)
def pmod (x y : Int) : Int := sqr x y % 4294967296
def pbig (x y : Int) : Bool := decide (pmod x y > 2147483647)
def psgn (x y : Int) : Int := if pmod x y > 2147483647 then pmod x y - 4294967296 else pmod x y
def m64 (z : Int) : Nat := (z % 18446744073709551616).toNat
def m32 (z : Int) : Nat := (z % 4294967296).toNat
def arR (x y : Int) : Nat → Option Nat := fun n =>
  if n = 0 then some (m64 (x + y)) else if n = 1 then some (m64 (x - y)) else if n = 2 then some (m64 (x * y)) else if n = 3 then some (m64 (sqr x y)) else if n = 4 then some (m64 (pmod x y)) else
  if n = 5 then some (m64 (psgn x y)) else if n = 6 then some (m64 (x.tdiv y)) else if n = 10 then some (m32 (x + y)) else if n = 11 then some (m32 (x - y)) else if n = 12 then some (m32 (x * y)) else
  if n = 13 then some (m32 (psgn x y)) else if n = 14 then some (m32 (x.tdiv y)) else if n = 15 then some (m32 x) else none
theorem IV.a18 {val : Pos → Option Nat} {id : Pos} {m : Nat} (hv : val id = some m) (h : m < 4294967296) : IV val (.a 18 id) .i32 (IntKind.i32.wrap m) := by
  refine ⟨fun ρ hr x hx => ?_, fun ρ hr => ?_⟩
  · obtain ⟨q, h1, h2⟩ := hr id m hv
    obtain ⟨q', h3, h4⟩ := hx.a
    rw [h1] at h3; injection h3 with h3; subst h3
    cases x with
    | int kd z =>
      have h4 : kdNo kd = 2 ∧ q.n < 2 ^ kd.bits ∧ z = kd.wrap q.n := h4
      have : kd = .i32 := by cases kd <;> first | rfl | exact absurd h4.1 (by decide)
      subst this
      rw [h4.2.2, h2]
    | _ => exact absurd h4 (by simp [AtR])
  · obtain ⟨q, h1, h2⟩ := hr id m hv
    unfold VR
    exact ⟨q, h1, rfl, by rw [h2]; exact h, by rw [h2]⟩
theorem wrap32_m (z : Int) : IntKind.i32.wrap ((m32 z : Nat) : Int) = IntKind.i32.wrap z := by
  unfold m32
  rw [IntKind.wrap_i32, IntKind.wrap_i32]
  omega
theorem i32_id {z : Int} (h0 : -2147483648 ≤ z) (h1 : z < 2147483648) : IntKind.i32.wrap z = z := by rw [IntKind.wrap_i32]; omega
theorem mul_bound {x y : Int} (hx : -32768 ≤ x ∧ x < 32768) (hy : -32768 ≤ y ∧ y < 32768) : -1073741824 ≤ x * y ∧ x * y ≤ 1073741824 := by
  have h : (x * y).natAbs ≤ 32768 * 32768 := by
    rw [Int.natAbs_mul]
    exact Nat.mul_le_mul (by omega) (by omega)
  omega
theorem sqr_bound {x y : Int} (hx : -32768 ≤ x ∧ x < 32768) (hy : -32768 ≤ y ∧ y < 32768) : 0 ≤ sqr x y ∧ sqr x y ≤ 1152921504606846976 := by
  have h := mul_bound hx hy
  have h1 : (sqr x y).natAbs ≤ 1073741824 * 1073741824 := by
    unfold sqr
    rw [Int.natAbs_mul]
    exact Nat.mul_le_mul (by omega) (by omega)
  have h2 : 0 ≤ sqr x y := by
    unfold sqr
    rcases Int.lt_or_le (x * y) 0 with h0 | h0
    · exact Int.le_of_lt (Int.mul_pos_of_neg_of_neg h0 h0)
    · exact Int.mul_nonneg h0 h0
  omega
theorem quo_bound {x y : Int} (hx : -32768 ≤ x ∧ x < 32768) : -32768 ≤ x.tdiv y ∧ x.tdiv y ≤ 32768 := by
  have h : (x.tdiv y).natAbs ≤ 32768 := by
    rw [Int.natAbs_tdiv]
    exact Nat.le_trans (Nat.div_le_self _ _) (by omega)
  omega
theorem tmod_pow {z : Int} (h : -4294967296 < z ∧ z < 4294967296) : z.tmod 4294967296 = z := by
  rcases Int.lt_or_le z 0 with h0 | h0
  · obtain ⟨m, hm⟩ : ∃ m : Nat, z = -(m : Int) := ⟨(-z).toNat, by omega⟩
    subst hm
    rw [Int.neg_tmod, Int.tmod_eq_emod_of_nonneg (by omega)]
    omega
  · rw [Int.tmod_eq_emod_of_nonneg h0]; omega
noncomputable abbrev wv (big : Bool) : V := cond big sw sp
/-- What is asked of a number that is reckoned. -/
noncomputable def askB (x : V) : List BE := [⟨4, x, .n 4294967296, x⟩, ⟨13, x, .n 18446744071562067968, .b false⟩, ⟨15, x, .n 2147483647, .b false⟩, ⟨12, x, x, .b false⟩]
noncomputable def recB (big : Bool) : List BE := [⟨0, vN 0, vN 20, sA⟩, ⟨1, vN 0, vN 20, sS⟩, ⟨2, vN 0, vN 20, sM⟩, ⟨2, sM, sM, s4⟩, ⟨11, vN 20, .n 0, .b false⟩, ⟨3, vN 0, vN 20, sq⟩] ++ (askB sA ++ (askB sS ++ (askB sM ++ (askB sq ++
  [⟨4, s4, .n 4294967296, sp⟩, ⟨13, sp, .n 18446744071562067968, .b false⟩, ⟨15, sp, .n 2147483647, .b big⟩, ⟨12, wv big, wv big, .b false⟩] ++ cond big [⟨1, sp, .n 4294967296, sw⟩] []))))
noncomputable def recC (big : Bool) : List CE := [⟨2, sA, tA⟩, ⟨3, tA, sA⟩, ⟨2, sS, tS⟩, ⟨3, tS, sS⟩, ⟨2, sM, tM⟩, ⟨3, tM, sM⟩, ⟨2, sq, tq⟩, ⟨3, tq, sq⟩, ⟨2, s4, t4⟩, ⟨3, t4, wv big⟩]
noncomputable def recZ : List BE := [⟨0, vN 0, .n 0, vN 0⟩, ⟨1, vN 0, .n 0, vN 0⟩, ⟨2, vN 0, .n 0, .n 0⟩]
noncomputable def recZC : List CE := [⟨2, vN 0, tN⟩, ⟨3, tN, vN 0⟩]
section
variable {len : Nat} {x y : Int} {ua ub : Nat} {la lb : List UInt8} {na nb : Bool}
/-- The names of a run. -/
abbrev valR (len : Nat) (x : Int) (ua : Nat) (la : List UInt8) (y : Int) (ub : Nat) (lb : List UInt8) : Pos → Option Nat := val2 len x ua la y ub lb (arR x y)
theorem iv64 {n : Nat} {z : Int} (hn : n < 20) (h : arR x y n = some (m64 z)) (hz : -9223372036854775808 ≤ z ∧ z < 9223372036854775808) : IV (valR len x ua la y ub lb) (.a 0 (pb (40 + n))) .i64 z :=
  (IV.a0 ((val2_r hn).trans h) (toNat_lt z)).cast (wrap_toNat hz.1 hz.2)
theorem iv32 {n : Nat} {z : Int} (hn : n < 20) (h : arR x y n = some (m32 z)) (hz : -2147483648 ≤ z ∧ z < 2147483648) : IV (valR len x ua la y ub lb) (.a 18 (pb (40 + n))) .i32 z :=
  (IV.a18 ((val2_r hn).trans h) (by unfold m32; omega)).cast (by rw [wrap32_m]; exact i32_id hz.1 hz.2)
theorem askB_ok {v : V} {z : Int} (h : IV (valR len x ua la y ub lb) v .i64 z) (hz : -2147483648 ≤ z ∧ z < 2147483648) {r : List BE} (hr : AllBE (valR len x ua la y ub lb) r) : AllBE (valR len x ua la y ub lb) (askB v ++ r) :=
  .cons (op := .rem) rfl (BR.rem h (cN 4294967296 (by decide)) h (by omega) (tmod_pow (by omega)).symm) (.cons (op := .lss) rfl (BR.cmp h cM (decide_eq_false (by omega)))
    (.cons (op := .gtr) rfl (BR.cmp h (cN 2147483647 (by decide)) (decide_eq_false (by omega))) (.cons (op := .neq) rfl (BR.cmp h h (by simp)) hr)))
theorem recB_ok (ha : Sgn na x ua la) (hb : Sgn nb y ub lb) (h0 : y ≠ 0) {big : Bool} (hg : big = pbig x y) : AllBE (valR len x ua la y ub lb) (recB big) := by
  obtain ⟨hx, -⟩ := ha.facts
  obtain ⟨hy, -⟩ := hb.facts
  have hm := mul_bound hx hy
  have hs := sqr_bound hx hy
  have hq := quo_bound (y := y) hx
  have hp : 0 ≤ pmod x y ∧ pmod x y < 4294967296 := by unfold pmod; omega
  have nA := iN (num_a (len := len) (zb := y) (ub := ub) (lb := lb) (ar := arR x y) ha)
  have nB := iN (num_b (len := len) (za := x) (ua := ua) (la := la) (ar := arR x y) hb)
  have iA : IV (valR len x ua la y ub lb) sA .i64 (x + y) := iv64 (n := 0) (by decide) rfl (by omega)
  have iS : IV (valR len x ua la y ub lb) sS .i64 (x - y) := iv64 (n := 1) (by decide) rfl (by omega)
  have iM : IV (valR len x ua la y ub lb) sM .i64 (x * y) := iv64 (n := 2) (by decide) rfl (by omega)
  have i4 : IV (valR len x ua la y ub lb) s4 .i64 (sqr x y) := iv64 (n := 3) (by decide) rfl (by omega)
  have ip : IV (valR len x ua la y ub lb) sp .i64 (pmod x y) := iv64 (n := 4) (by decide) rfl (by omega)
  have iq : IV (valR len x ua la y ub lb) sq .i64 (x.tdiv y) := iv64 (n := 6) (by decide) rfl (by omega)
  have hsg : big = true → psgn x y = pmod x y - 4294967296 := fun e => by
    rw [hg] at e
    unfold psgn
    rw [if_pos (of_decide_eq_true e)]
  have iw : big = true → IV (valR len x ua la y ub lb) sw .i64 (pmod x y - 4294967296) := fun e => by
    have := iv64 (len := len) (ua := ua) (la := la) (ub := ub) (lb := lb) (n := 5) (x := x) (y := y) (z := psgn x y) (by decide) rfl (by rw [hsg e]; omega)
    rwa [hsg e] at this
  refine .cons (op := .add) rfl (BR.add nA nB iA (i64_id (by omega) (by omega)).symm) (.cons (op := .sub) rfl (BR.sub nA nB iS (i64_id (by omega) (by omega)).symm) (.cons (op := .mul) rfl (BR.mul nA nB iM (i64_id (by omega) (by omega)).symm)
    (.cons (op := .mul) rfl (BR.mul iM iM i4 (i64_id (z := sqr x y) (by omega) (by omega)).symm) (.cons (op := .eql) rfl (BR.cmp nB (cN 0 (by decide)) (beq_eq_false_iff_ne.2 h0)) (.cons (op := .quo) rfl (BR.quo nA nB iq h0 (i64_id (by omega) (by omega)).symm)
    (askB_ok iA (by omega) (askB_ok iS (by omega) (askB_ok iM (by omega) (askB_ok iq (by omega)
    (.cons (op := .rem) rfl (BR.rem i4 (cN 4294967296 (by decide)) ip (by omega) ?_) (.cons (op := .lss) rfl (BR.cmp ip cM (decide_eq_false (by omega)))
    (.cons (op := .gtr) rfl (BR.cmp ip (cN 2147483647 (by decide)) hg.symm) (.cons (op := .neq) rfl ?_ ?_)))))))))))))
  · show pmod x y = (sqr x y).tmod 4294967296
    rw [Int.tmod_eq_emod_of_nonneg hs.1]; rfl
  · cases big with
    | true => exact BR.cmp (iw rfl) (iw rfl) (by simp)
    | false => exact BR.cmp ip ip (by simp)
  · cases big with
    | true => exact .cons (op := .sub) rfl (BR.sub ip (cN 4294967296 (by decide)) (iw rfl) (i64_id (by omega) (by omega)).symm) .nil
    | false => exact .nil
theorem recC_ok (ha : Sgn na x ua la) (hb : Sgn nb y ub lb) {big : Bool} (hg : big = pbig x y) : AllCE (valR len x ua la y ub lb) (recC big) := by
  obtain ⟨hx, -⟩ := ha.facts
  obtain ⟨hy, -⟩ := hb.facts
  have hm := mul_bound hx hy
  have hs := sqr_bound hx hy
  have hq := quo_bound (y := y) hx
  have hp : 0 ≤ pmod x y ∧ pmod x y < 4294967296 := by unfold pmod; omega
  have iA : IV (valR len x ua la y ub lb) sA .i64 (x + y) := iv64 (n := 0) (by decide) rfl (by omega)
  have iS : IV (valR len x ua la y ub lb) sS .i64 (x - y) := iv64 (n := 1) (by decide) rfl (by omega)
  have iM : IV (valR len x ua la y ub lb) sM .i64 (x * y) := iv64 (n := 2) (by decide) rfl (by omega)
  have i4 : IV (valR len x ua la y ub lb) s4 .i64 (sqr x y) := iv64 (n := 3) (by decide) rfl (by omega)
  have ip : IV (valR len x ua la y ub lb) sp .i64 (pmod x y) := iv64 (n := 4) (by decide) rfl (by omega)
  have iq : IV (valR len x ua la y ub lb) sq .i64 (x.tdiv y) := iv64 (n := 6) (by decide) rfl (by omega)
  have jA : IV (valR len x ua la y ub lb) tA .i32 (x + y) := iv32 (n := 10) (by decide) rfl (by omega)
  have jS : IV (valR len x ua la y ub lb) tS .i32 (x - y) := iv32 (n := 11) (by decide) rfl (by omega)
  have jM : IV (valR len x ua la y ub lb) tM .i32 (x * y) := iv32 (n := 12) (by decide) rfl (by omega)
  have jq : IV (valR len x ua la y ub lb) tq .i32 (x.tdiv y) := iv32 (n := 14) (by decide) rfl (by omega)
  have hpb : -2147483648 ≤ psgn x y ∧ psgn x y < 2147483648 := by unfold psgn; split <;> omega
  have j4 : IV (valR len x ua la y ub lb) t4 .i32 (psgn x y) := iv32 (n := 13) (by decide) rfl hpb
  have iw : IV (valR len x ua la y ub lb) (wv big) .i64 (psgn x y) := by
    cases big with
    | true => exact iv64 (n := 5) (by decide) rfl (by omega)
    | false =>
      have : psgn x y = pmod x y := by
        unfold psgn
        rw [if_neg (of_decide_eq_false hg.symm)]
      rw [this]; exact ip
  have h4 : psgn x y = IntKind.i32.wrap (sqr x y) := by
    rw [IntKind.wrap_i32]
    unfold psgn pmod
    split <;> omega
  exact .cons (k := .i32) rfl (CR.mk iA jA (i32_id (by omega) (by omega)).symm) (.cons (k := .i64) rfl (CR.mk jA iA (i64_id (by omega) (by omega)).symm)
    (.cons (k := .i32) rfl (CR.mk iS jS (i32_id (by omega) (by omega)).symm) (.cons (k := .i64) rfl (CR.mk jS iS (i64_id (by omega) (by omega)).symm)
    (.cons (k := .i32) rfl (CR.mk iM jM (i32_id (by omega) (by omega)).symm) (.cons (k := .i64) rfl (CR.mk jM iM (i64_id (by omega) (by omega)).symm)
    (.cons (k := .i32) rfl (CR.mk iq jq (i32_id (by omega) (by omega)).symm) (.cons (k := .i64) rfl (CR.mk jq iq (i64_id (by omega) (by omega)).symm)
    (.cons (k := .i32) rfl (CR.mk i4 j4 h4) (.cons (k := .i64) rfl (CR.mk j4 iw (i64_id (by omega) (by omega)).symm) .nil)))))))))
theorem recZ_ok (ha : Sgn na x ua la) : AllBE (valR len x ua la y ub lb) recZ ∧ AllCE (valR len x ua la y ub lb) recZC := by
  obtain ⟨hx, -⟩ := ha.facts
  have nA := iN (num_a (len := len) (zb := y) (ub := ub) (lb := lb) (ar := arR x y) ha)
  have z0 : IV (valR len x ua la y ub lb) (.n 0) .i64 0 := cN 0 (by decide)
  have jN : IV (valR len x ua la y ub lb) tN .i32 x := iv32 (n := 15) (by decide) rfl (by omega)
  exact ⟨.cons (op := .add) rfl (BR.add nA z0 nA (by rw [i64_id (by omega) (by omega)]; omega)) (.cons (op := .sub) rfl (BR.sub nA z0 nA (by rw [i64_id (by omega) (by omega)]; omega)) (.cons (op := .mul) rfl (BR.mul nA z0 z0 (by rw [i64_id (by omega) (by omega)]; omega)) .nil)),
    .cons (k := .i32) rfl (CR.mk nA jN (i32_id (by omega) (by omega)).symm) (.cons (k := .i64) rfl (CR.mk jN nA (i64_id (by omega) (by omega)).symm) .nil)⟩
end
end Go.Proofs.YtmbnogellhoheaaGreatDoor.Run.Two
