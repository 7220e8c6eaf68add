/- Sums: how many are left: the plain law; no program in sight. -/
import Derived.Test.YtoninfimcobeiaaM6
namespace Go.Proofs.Ytoninfimcobeiaa.Sy
set_option linter.unusedVariables false

/-! ### Counting -/
theorem cntN_filter {p : Nat → Bool} : ∀ {n : Nat}, cntN n p = ((List.range n).filter p).length
  | 0 => rfl
  | n + 1 => by
    rw [cntN, cntN_filter, List.range_succ, List.filter_append, List.length_append]
    cases h : p n <;> simp [h]
theorem cntN_inj {N : Nat} {p q : Nat → Bool} (f : Nat → Nat) (hf : ∀ a b, f a = f b → a = b) (h : ∀ a, a < N → p a = true → f a < N ∧ q (f a) = true) : cntN N p ≤ cntN N q := by
  rw [cntN_filter, cntN_filter, ← List.length_map (f := f)]
  refine nodup_lenG ?_ fun x hx => ?_
  · exact List.Pairwise.map (R := fun a b : Nat => a ≠ b) f (fun a b (hab : a ≠ b) (e : f a = f b) => hab (hf a b e)) (List.Pairwise.filter _ List.nodup_range)
  · obtain ⟨a, ha, rfl⟩ := List.mem_map.1 hx
    rw [List.mem_filter, List.mem_range] at ha
    rw [List.mem_filter, List.mem_range]
    exact h a ha.1 ha.2
theorem cntN_split {p d : Nat → Bool} : ∀ {N : Nat}, cntN N p = cntN N (fun x => p x && !d x) + cntN N (fun x => p x && d x)
  | 0 => rfl
  | N + 1 => by
    rw [cntN, cntN, cntN, cntN_split (p := p) (d := d) (N := N)]
    cases p N <;> cases d N <;> simp <;> omega
theorem cnt_par : ∀ {n : Nat} {p : Nat → Bool}, (((cntN n p : Int)).tmod 2 == 1) = xorN n p
  | 0, p => rfl
  | n + 1, p => by
    have ih := cnt_par (n := n) (p := p)
    rw [cntN, xorN, ← ih]
    cases p n with
    | false => rw [cond_false, Bool.bne_false]
    | true =>
      rw [cond_true, Bool.bne_true, Int.tmod_eq_emod_of_nonneg (by omega), Int.tmod_eq_emod_of_nonneg (by omega)]
      rw [Bool.eq_iff_iff, Bool.not_eq_true', beq_iff_eq, beq_eq_false_iff_ne]
      omega

def dot (x q : BitVec 32) : Bool := xorN 32 fun i => x.getLsbD i && q.getLsbD i
theorem dot_xor (x y q : BitVec 32) : dot (x ^^^ y) q = (dot x q != dot y q) := by
  unfold dot
  rw [← xorN_ne]
  exact xorN_congr fun i _ => by
    rw [xor_bit]
    cases x.getLsbD i <;> cases y.getLsbD i <;> cases q.getLsbD i <;> rfl
theorem dot_comm (x y : BitVec 32) : dot x y = dot y x := xorN_congr fun i _ => Bool.and_comm _ _
theorem dot_one {b : Nat} (hb : b < 32) (q : BitVec 32) : dot (1#32 <<< b) q = q.getLsbD b := by
  unfold dot
  rw [← xorN_one (n := 32) (s := b) (f := q.getLsbD) hb]
  exact xorN_congr fun i _ => by
    congr 1
    rw [Bool.eq_iff_iff, one_shl, beq_iff_eq]
    exact ⟨fun h => h.1, fun h => ⟨h, by omega⟩⟩
theorem dot_pks {x : BitVec 32} {p : Nat → Bool} {f : Nat → BitVec 32} : ∀ {t : Nat}, (∀ i, i < t → dot x (f i) = false) → dot x (pks p f t) = false
  | 0, _ => by
    rw [dot_comm]
    unfold dot pks
    rw [show (fun i => (0#32).getLsbD i && x.getLsbD i) = fun i => (i == 32) && false from funext fun i => by simp]
    rw [xorN_congr (q := fun i => (i == 0) && false) (fun i _ => by simp), xorN_one (by omega)]
  | t + 1, h => by
    simp only [pks]
    have ih := dot_pks (x := x) (p := p) (f := f) (t := t) fun i hi => h i (by omega)
    cases p t with
    | false => exact ih
    | true =>
      rw [cond_true, dot_comm, dot_xor, dot_comm _ x, dot_comm (f t) x, ih, h t (by omega)]; rfl
theorem odd_eq (x q : BitVec 32) : syllogistref_Odd x q = some (dot x q) := by
  unfold syllogistref_Odd
  have hs : syllogistref_Size (x &&& q) = some (cntN 32 (x &&& q).getLsbD : Int) := by
    unfold syllogistref_Size
    refine (for_cnt (n := 32) (x &&& q).getLsbD rfl (by omega) (fun j s nx hj => ?_)).trans rfl
    unfold syllogistref_Size_b9
    rw [bit_eq _ _ hj, Option.bind_some, cond_nx]
  rw [hs, Option.bind_some, cnt_par]
  exact congrArg some (xorN_congr fun i _ => by rw [BitVec.getLsbD_and])

/-- Words that are even with the first rows. -/
noncomputable def evn (rs : List SumsRow) (u : Nat) (x : Nat) : Bool := tru (∀ j, j < u → dot (BitVec.ofNat 32 x) (st rs j) = false)
theorem halve {k : Nat} {l : List (BitVec 32)} {t : Nat} {rs : List SumsRow} {tp : Nat → Nat} (h : RI k l t rs tp) (k8 : k ≤ 8) {u : Nat} (hu : u < rs.length) : cntN (2 ^ k) (evn rs u) = 2 * cntN (2 ^ k) (evn rs (u + 1)) := by
  have hp8 : 2 ^ k ≤ 2 ^ 8 := Nat.pow_le_pow_right (n := 2) (by omega) k8
  have htk : tp u < k := h.bl u hu _ (h.top u hu).1
  have e1 : (fun x => evn rs u x && !dot (BitVec.ofNat 32 x) (st rs u)) = evn rs (u + 1) := funext fun x => by
    rw [Bool.eq_iff_iff, Bool.and_eq_true, Bool.not_eq_true']
    unfold evn
    rw [tru_iff, tru_iff]
    constructor
    · rintro ⟨h1, h2⟩ j hj
      by_cases e : j = u
      · subst e; exact h2
      · exact h1 j (by omega)
    · intro h1; exact ⟨fun j hj => h1 j (by omega), h1 u (by omega)⟩
  have hx : ∀ x, x < 2 ^ k → BitVec.ofNat 32 (x ^^^ 2 ^ tp u) = BitVec.ofNat 32 x ^^^ 1#32 <<< tp u := fun x hx => by
    apply BitVec.eq_of_toNat_eq
    rw [BitVec.toNat_xor, one_shl_toNat (by omega), BitVec.toNat_ofNat, BitVec.toNat_ofNat, Nat.mod_eq_of_lt, Nat.mod_eq_of_lt (by omega)]
    have : x ^^^ 2 ^ tp u < 2 ^ k := Nat.xor_lt_two_pow hx (Nat.pow_lt_pow_right (by omega) htk)
    omega
  have hd : ∀ x, x < 2 ^ k → ∀ j, j < rs.length → dot (BitVec.ofNat 32 (x ^^^ 2 ^ tp u)) (st rs j) = (dot (BitVec.ofNat 32 x) (st rs j) != decide (j = u)) := fun x hxk j hj => by
    rw [hx x hxk, dot_xor, dot_one (by omega)]
    congr 1
    by_cases e : j = u
    · subst e; rw [(h.top j hj).1, decide_eq_true rfl]
    · rw [h.own j u hj hu e, decide_eq_false e]
  have hev : ∀ x, x < 2 ^ k → evn rs u (x ^^^ 2 ^ tp u) = evn rs u x := fun x hxk => by
    unfold evn
    refine tru_congr (forall_congr' fun j => forall_congr' fun hj => ?_)
    rw [hd x hxk j (by omega), decide_eq_false (by omega)]; simp
  have hflip : ∀ x, x < 2 ^ k → dot (BitVec.ofNat 32 (x ^^^ 2 ^ tp u)) (st rs u) = !dot (BitVec.ofNat 32 x) (st rs u) := fun x hxk => by
    rw [hd x hxk u hu, decide_eq_true rfl]; simp
  have hlt : ∀ x, x < 2 ^ k → x ^^^ 2 ^ tp u < 2 ^ k := fun x hx => Nat.xor_lt_two_pow hx (Nat.pow_lt_pow_right (by omega) htk)
  have hinj : ∀ a b, a ^^^ 2 ^ tp u = b ^^^ 2 ^ tp u → a = b := fun a b e => by
    have := congrArg (fun z => z ^^^ 2 ^ tp u) e
    simpa [Nat.xor_assoc] using this
  have hle : cntN (2 ^ k) (fun x => evn rs u x && !dot (BitVec.ofNat 32 x) (st rs u)) ≤ cntN (2 ^ k) (fun x => evn rs u x && dot (BitVec.ofNat 32 x) (st rs u)) := cntN_inj _ hinj fun a ha hp => by
    rw [Bool.and_eq_true] at hp
    refine ⟨hlt a ha, ?_⟩
    rw [hev a ha, hflip a ha, hp.1, hp.2]; rfl
  have hge : cntN (2 ^ k) (fun x => evn rs u x && dot (BitVec.ofNat 32 x) (st rs u)) ≤ cntN (2 ^ k) (fun x => evn rs u x && !dot (BitVec.ofNat 32 x) (st rs u)) := cntN_inj _ hinj fun a ha hp => by
    rw [Bool.and_eq_true] at hp
    refine ⟨hlt a ha, ?_⟩
    rw [hev a ha, hflip a ha, hp.1, hp.2]; rfl
  have hs := cntN_split (p := evn rs u) (d := fun x => dot (BitVec.ofNat 32 x) (st rs u)) (N := 2 ^ k)
  rw [e1] at hs hle hge
  omega
theorem cnt_rows {k : Nat} {l : List (BitVec 32)} {t : Nat} {rs : List SumsRow} {tp : Nat → Nat} (h : RI k l t rs tp) (k8 : k ≤ 8) : ∀ u, u ≤ rs.length → u ≤ k ∧ cntN (2 ^ k) (evn rs u) = 2 ^ (k - u)
  | 0, _ => by
    refine ⟨by omega, ?_⟩
    have : ∀ n, cntN n (evn rs 0) = n := fun n => by
      induction n with
      | zero => rfl
      | succ n ih =>
        rw [cntN, ih, show evn rs 0 n = true from tru_iff.2 fun j hj => by omega]; rfl
    rw [this]; rfl
  | u + 1, hu => by
    obtain ⟨h1, h2⟩ := cnt_rows h k8 u (by omega)
    have hh := halve h k8 (show u < rs.length by omega)
    rw [h2] at hh
    have hne : u ≠ k := fun e => by
      subst e
      rw [Nat.sub_self] at hh
      omega
    refine ⟨by omega, ?_⟩
    rw [show k - u = (k - (u + 1)) + 1 by omega, Nat.pow_succ] at hh
    omega

theorem left_eq {n : Int} {l : List (BitVec 32)} {s : BitVec 32} {k : Nat} (hA : AOk n l s k) {rs : List SumsRow} {tp : Nat → Nat} (h : RI k l l.length rs tp) {fuel : Nat} (hf : 100 < fuel) : syllogistref_Left fuel k l = some ((k : Int) - rs.length) := by
  have k8 := hA.k8
  have h12 := hA.len
  have hB : (1#32 <<< k).toNat = 2 ^ k := one_shl_toNat (by omega)
  have hp8 : 2 ^ k ≤ 2 ^ 8 := Nat.pow_le_pow_right (n := 2) (by omega) k8
  unfold syllogistref_Left
  rw [ofInt64 (by omega)]
  rw [forU_rec (fun j => (cntN j (evn rs rs.length) : Int)) (s := (0 : Int)) rfl (fun c nx hc => by
    have hcl := cntN_le (n := c.toNat) (p := evn rs rs.length)
    unfold syllogistref_Left_b19
    rw [for_all (n := l.length) (fun t => !dot c (wd l t)) rfl (fun t ok nx' ht => by
      unfold syllogistref_Left_b31
      rw [geti_wd ht, Option.bind_some, odd_eq]
      simp only [Option.isSome_some, Bool.or_true, cond_true, Option.getD_some])]
    unfold syllogistref_Left_k27
    have : (true && allN l.length fun t => !dot c (wd l t)) = evn rs rs.length c.toNat := by
      rw [Bool.true_and]
      unfold evn
      have hcc : BitVec.ofNat 32 c.toNat = c := by simp
      rw [hcc]
      refine tru_of ?_
      rw [allN_iff]
      constructor
      · intro h1 j hj
        rw [← (h.b j hj).2]
        exact dot_pks fun i hi => by simpa using h1 i hi
      · intro h1 t ht
        rw [← show cmb rs tp (wd l t) = wd l t from h.spn t ht, Bool.not_eq_true']
        exact dot_pks h1
    rw [this, cond_nx, cntN]
    congr 1
    cases evn rs rs.length c.toNat with
    | true => rw [cond_true, cond_true, w64_id (by omega) (by omega)]; omega
    | false => rfl)]
  rw [hB]
  obtain ⟨hm, hcnt⟩ := cnt_rows h k8 rs.length (Nat.le_refl _)
  rw [hcnt]
  unfold syllogistref_Left_k6
  refine while_rec (fun t => (((2 ^ (k - rs.length - t) : Nat) : Int), (t : Int))) (k - rs.length) _ (fun t nx ht => ?_) (fun nx => ?_) (by omega) rfl
  · simp only
    unfold syllogistref_Left_b15
    have hpow : 2 ^ (k - rs.length - t) = 2 ^ (k - rs.length - (t + 1)) * 2 := by
      rw [← Nat.pow_succ]; congr 1; omega
    have hpos : 0 < 2 ^ (k - rs.length - (t + 1)) := Nat.two_pow_pos _
    have hle : 2 ^ (k - rs.length - (t + 1)) ≤ 2 ^ 8 := Nat.pow_le_pow_right (n := 2) (by omega) (by omega)
    have hdiv : (((2 ^ (k - rs.length - t) : Nat) : Int)).tdiv 2 = ((2 ^ (k - rs.length - (t + 1)) : Nat) : Int) := by
      rw [hpow, Int.tdiv_eq_ediv_of_nonneg (by omega)]; omega
    rw [decide_eq_true (by rw [hpow]; omega), cond_true, hdiv, w64_id (by omega) (by omega), w64_succ (by omega)]
  · simp only
    unfold syllogistref_Left_b15
    rw [Nat.sub_self]
    rw [decide_eq_false (by simp), cond_false]
    unfold syllogistref_Left_k13
    congr 1
    omega

theorem sumsLeft_true (fuel : Nat) (n : Int) (l : List (BitVec 32)) (hf : 100 < fuel := by decide) : syllogistlaw_SumsLeft fuel n l = some true := by
  unfold syllogistlaw_SumsLeft sums_Left
  obtain ⟨r, e1, e2, h0⟩ := acheck n l 0#32
  rw [e1, e2]
  by_cases hr : r = 0
  · subst hr
    obtain ⟨k, hA⟩ := h0 rfl
    have hn := hA.n
    subst hn
    have k8 := hA.k8
    have h12 := hA.len
    obtain ⟨rs, tp, z, eb, hR⟩ := build_eq hA
    have hm := hR.len
    simp only [Option.bind_some, bne_self_eq_false, cond_false]
    rw [eb, left_eq hA hR hf]
    simp only [Option.bind_some]
    rw [w64_id (by omega) (by omega)]
    simp
  · have hb : (r != 0) = true := by simpa using hr
    simp [hb]
end Go.Proofs.Ytoninfimcobeiaa.Sy
