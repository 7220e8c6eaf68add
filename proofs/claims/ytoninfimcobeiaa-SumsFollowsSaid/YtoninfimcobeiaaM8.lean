/- Sums: which ones make it: the plain law; no program in sight. -/
import Derived.Test.YtoninfimcobeiaaM6
namespace Go.Proofs.Ytoninfimcobeiaa.Sy
set_option linter.unusedVariables false

/-! ### Words whose sum is nothing -/
inductive Spn (z : List (BitVec 32)) : BitVec 32 → Prop
  | zero : Spn z 0#32
  | add {g x : BitVec 32} : g ∈ z → Spn z x → Spn z (x ^^^ g)
theorem Spn.mono {z z' : List (BitVec 32)} (hz : ∀ x ∈ z, x ∈ z') {x : BitVec 32} (h : Spn z x) : Spn z' x := by
  induction h with
  | zero => exact .zero
  | add hg _ ih => exact .add (hz _ hg) ih
structure ZK (l : List (BitVec 32)) (t : Nat) (z : List (BitVec 32)) : Prop where
  m : ∀ x ∈ z, sm l x = 0#32 ∧ bel t x
  k : ∀ x, bel t x → sm l x = 0#32 → Spn z x
theorem ZK.start (l : List (BitVec 32)) : ZK l 0 [] := ⟨fun x hx => by simp at hx, fun x hx _ => by
  have : x = 0#32 := bits_ext fun i => ⟨fun h => by have := hx i h; omega, fun h => by simp at h⟩
  rw [this]; exact .zero⟩
theorem bel_low {t : Nat} {x : BitVec 32} (h : bel (t + 1) x) (h0 : x.getLsbD t = false) : bel t x := fun j hj => by
  have := h j hj
  by_cases e : j = t
  · subst e; rw [h0] at hj; cases hj
  · omega
theorem ZK.more {l : List (BitVec 32)} {t : Nat} {z : List (BitVec 32)} (h : ZK l t z) (ht : t < 32) {g y : BitVec 32} (hg : sm l g = 0#32) (hb : bel (t + 1) g) (ey : g = 1#32 <<< t ^^^ y) (hy : bel t y) : ZK l (t + 1) (z ++ [g]) := by
  have hgt : g.getLsbD t = true := by
    have h1 : (1#32 <<< t).getLsbD t = true := (one_shl t t).2 ⟨rfl, ht⟩
    have h2 : y.getLsbD t = false := by
      cases e : y.getLsbD t with
      | false => rfl
      | true => have := hy t e; omega
    rw [ey, xor_bit, h1, h2]; rfl
  refine ⟨fun x hx => ?_, fun x hx hs => ?_⟩
  · rcases List.mem_append.1 hx with hx | hx
    · exact ⟨(h.m x hx).1, bel_mono (h.m x hx).2 (by omega)⟩
    · rw [List.mem_singleton] at hx; subst hx; exact ⟨hg, hb⟩
  · cases e : x.getLsbD t with
    | false => exact (h.k x (bel_low hx e) hs).mono fun q hq => List.mem_append_left _ hq
    | true =>
      have h1 : Spn z (x ^^^ g) := h.k _ (bel_low (xor_bel hx hb) (by rw [xor_bit, e, hgt]; rfl)) (by rw [sm_xor, hs, hg]; simp)
      have h2 : Spn (z ++ [g]) ((x ^^^ g) ^^^ g) := .add (by simp) (h1.mono fun q hq => List.mem_append_left _ hq)
      rwa [BitVec.xor_assoc, BitVec.xor_self, BitVec.xor_zero] at h2
theorem V_pks' {rs : List SumsRow} {tp : Nat → Nat} {p : Nat → Bool} {f : Nat → BitVec 32} : ∀ {t : Nat}, (∀ i, i < t → p i = true → V rs tp (f i)) → V rs tp (pks p f t)
  | 0, _ => V.zero rs tp
  | t + 1, h => by
    simp only [Sy.pks]
    have ih := V_pks' (p := p) (f := f) (t := t) fun i hi => h i (by omega)
    cases hp : p t with
    | false => exact ih
    | true => exact ih.xor (h t (by omega) hp)
theorem V_null {rs : List SumsRow} {tp : Nat → Nat} {x : BitVec 32} (h : V rs tp x) (hz : ∀ i, i < rs.length → x.getLsbD (tp i) = false) : x = 0#32 := by
  rw [← show cmb rs tp x = x from h]
  exact pks_none hz
theorem ZK.keep {l : List (BitVec 32)} {t : Nat} {z : List (BitVec 32)} (h : ZK l t z) (ht : t < 32) {rs : List SumsRow} {tp : Nat → Nat} (hs : ∀ q, q < t → V rs tp (wd l q)) (hn : ¬V rs tp (wd l t)) (htl : t < l.length := by omega) (h32 : l.length ≤ 32 := by omega) : ZK l (t + 1) z := by
  refine ⟨fun x hx => ⟨(h.m x hx).1, bel_mono (h.m x hx).2 (by omega)⟩, fun x hx hs0 => ?_⟩
  cases e : x.getLsbD t with
  | false => exact h.k x (bel_low hx e) hs0
  | true =>
    have hb : bel t (x ^^^ 1#32 <<< t) := bel_low (xor_bel hx fun j hj => by have := ((one_shl t j).1 hj).1; omega) (by rw [xor_bit, e, (one_shl t t).2 ⟨rfl, ht⟩]; rfl)
    have h1 : sm l (x ^^^ 1#32 <<< t) = wd l t := by rw [sm_xor, hs0, sm_one htl h32]; simp
    refine absurd ?_ hn
    rw [← h1]
    exact V_pks' fun i _ hi => hs i (hb i hi)

theorem buildz_eq {n : Int} {l : List (BitVec 32)} {s : BitVec 32} {k : Nat} (hA : AOk n l s k) : ∃ rs tp z, sums_build l = some (some { l := rs, zero := z }) ∧ RI k l l.length rs tp ∧ ZK l l.length z ∧ z.length ≤ l.length := by
  have h12 := hA.len
  have k8 := hA.k8
  unfold sums_build
  refine for0_q (Q := fun o => ∃ rs tp z, o = some (some ({ l := rs, zero := z } : T78)) ∧ RI k l l.length rs tp ∧ ZK l l.length z ∧ z.length ≤ l.length) (fun t (c : List (BitVec 32) × List SumsRow) => (c.1.length ≤ t ∧ ZK l t c.1) ∧ ∃ tp, RI k l t c.2 tp) rfl ([], []) ⟨⟨by simp, ZK.start l⟩, fun _ => 0, by simp, fun i hi => by simp at hi, fun i hi => by simp at hi, fun i j hi => by simp at hi, fun i hi => by simp at hi, fun q hq => by omega⟩ (fun t c nx ht hI hnx => ?_) (fun c hI => ?_)
  · obtain ⟨z, rs⟩ := c
    obtain ⟨⟨hz, hK⟩, tp, h⟩ := hI
    simp only at hz hK h ⊢
    have hlen := h.len
    unfold sums_build_b24
    rw [geti_wd ht, Option.bind_some, Int.toNat_natCast]
    obtain ⟨r, er, r1, r2, ⟨y, hy, ey⟩, r4, r5, y2, _, ey2, hy2⟩ := less_eq h k8 (by omega) z { set_ := wd l t, by_ := 1#32 <<< t } (hA.q t ht)
    have hsm := r4 (sm_one ht (by omega))
    have hb := r5 (t + 1) (by omega) (fun j hj => by have := ((one_shl t j).1 hj).1; omega)
    simp only at ey
    rw [er, Option.bind_some]
    cases h0 : (r.set_ == 0#32) with
    | true =>
      rw [beq_iff_eq] at h0
      rw [cond_true, decide_eq_true (by simp only [List.length_cons, List.length_nil]; omega), cond_true]
      refine hnx _ ⟨⟨by simp; omega, hK.more (by omega) (by rw [hsm]; exact h0) hb ey2 hy2⟩, tp, by simp only; omega, fun i hi => ⟨bel_mono (h.b i hi).1 (by omega), (h.b i hi).2⟩, h.top, h.own, h.bl, fun q hq => ?_⟩
      by_cases e : q = t
      · subst e
        rw [h0] at ey
        rw [xor_back ey]
        simpa using hy
      · exact h.spn q (by omega)
    | false =>
      rw [cond_false]
      have hne : r.set_ ≠ 0#32 := by simpa using h0
      obtain ⟨p, hp32, hl, p1, p2⟩ := len_eq (bel256 k8 r1) hne
      rw [hl, Option.bind_some]
      rw [for_rec (n := rs.length) (fun u => tab rs.length fun i => if i < u then upd rs r p i else rw_ rs i) rfl ((tab_of _ rfl).trans (tab_congr fun i hi => by rw [if_neg (by omega)])) (fun u nx' hu => by
        unfold sums_build_b55
        rw [tab_geti hu, Option.bind_some, if_neg (by omega), show ((p : Int) + 1 - 1) = (p : Int) by omega, w64_id (by omega) (by omega), decide_eq_true (by omega), cond_true, Int.toNat_natCast, bit_shr, Option.bind_some, cond_nx, Int.toNat_natCast, tab_set hu]
        congr 1
        cases hbb : (rw_ rs u).set_.getLsbD p with
        | true =>
          rw [cond_true]
          refine tab_congr fun i hi => ?_
          by_cases e : i = u
          · subst e
            rw [if_pos rfl, if_pos (by omega)]
            unfold upd
            rw [show (st rs i).getLsbD p = true from hbb, cond_true]
          · rw [if_neg e]
            by_cases hlt : i < u
            · rw [if_pos hlt, if_pos (by omega)]
            · rw [if_neg hlt, if_neg (by omega)]
        | false =>
          rw [cond_false]
          refine tab_congr fun i hi => ?_
          by_cases e : i = u
          · subst e
            rw [if_neg (by omega), if_pos (by omega)]
            unfold upd
            rw [show (st rs i).getLsbD p = false from hbb, cond_false]
          · by_cases hlt : i < u
            · rw [if_pos hlt, if_pos (by omega)]
            · rw [if_neg hlt, if_neg (by omega)])]
      unfold sums_build_k47
      rw [show (tab rs.length fun i => if i < rs.length then upd rs r p i else rw_ rs i) = tab rs.length (upd rs r p) from tab_congr fun i hi => by rw [if_pos hi], decide_eq_true (by rw [tab_len]; simp only [List.length_cons, List.length_nil]; omega), cond_true]
      exact hnx _ ⟨⟨by simp only; omega, hK.keep (by omega) h.spn fun hV => hne (V_null (by rw [ey]; exact hV.xor hy) r2) ⟩, _, more h r1 r2 hy ey hsm hb p1 p2⟩
  · obtain ⟨z, rs⟩ := c
    obtain ⟨⟨hz, hK⟩, tp, h⟩ := hI
    exact ⟨rs, tp, z, rfl, h, hK, hz⟩

end Go.Proofs.Ytoninfimcobeiaa.Sy
