/- Sums: which ones make it: the plain law; no program in sight. -/
import Derived.Test.YtoninfimcobeiaaM8
namespace Go.Proofs.Ytoninfimcobeiaa.Sy
set_option linter.unusedVariables false

theorem lenA : ∀ a : Nat, a < 16 → ∀ b : Nat, b < 256 → 256 * a + b ≠ 0 → math_bits_Len32 (BitVec.ofNat 32 (256 * a + b)) = some ((Nat.log2 (256 * a + b) : Int) + 1) := by decide +kernel
theorem logA : ∀ a : Nat, a < 16 → ∀ b : Nat, b < 256 → 256 * a + b ≠ 0 → (256 * a + b).testBit (Nat.log2 (256 * a + b)) = true := by decide +kernel
theorem topA : ∀ a : Nat, a < 16 → ∀ b : Nat, b < 256 → ∀ j : Nat, j < 32 → Nat.log2 (256 * a + b) < j → (256 * a + b).testBit j = false := by decide +kernel
theorem cut12 {P : Nat → Prop} (h : ∀ a : Nat, a < 16 → ∀ b : Nat, b < 256 → P (256 * a + b)) (x : Nat) (hx : x < 4096) : P x := by
  have e : 256 * (x / 256) + x % 256 = x := by omega
  rw [← e]
  exact h (x / 256) (by omega) (x % 256) (by omega)
theorem len_small12 (x : Nat) (h : x < 4096) (h0 : x ≠ 0) : math_bits_Len32 (BitVec.ofNat 32 x) = some ((Nat.log2 x : Int) + 1) := cut12 (P := fun x => x ≠ 0 → math_bits_Len32 (BitVec.ofNat 32 x) = some ((Nat.log2 x : Int) + 1)) lenA x h h0
theorem log_bit12 (x : Nat) (h : x < 4096) (h0 : x ≠ 0) : x.testBit (Nat.log2 x) = true := cut12 (P := fun x => x ≠ 0 → x.testBit (Nat.log2 x) = true) logA x h h0
theorem log_top12 (x : Nat) (h : x < 4096) (h0 : x ≠ 0) (j : Nat) (hj : j < 32) (hl : Nat.log2 x < j) : x.testBit j = false := cut12 (P := fun x => ∀ j : Nat, j < 32 → Nat.log2 x < j → x.testBit j = false) topA x h j hj hl
theorem len_eq12 {x : BitVec 32} (h : x.toNat < 4096) (h0 : x ≠ 0#32) : ∃ b : Nat, b < 32 ∧ math_bits_Len32 x = some ((b : Int) + 1) ∧ x.getLsbD b = true ∧ ∀ j, b < j → x.getLsbD j = false := by
  have hne : x.toNat ≠ 0 := fun e => h0 (BitVec.eq_of_toNat_eq (by simpa using e))
  have hx : BitVec.ofNat 32 x.toNat = x := by simp
  have h1 := len_small12 _ h hne
  rw [hx] at h1
  have h2 : x.getLsbD (Nat.log2 x.toNat) = true := log_bit12 _ h hne
  refine ⟨Nat.log2 x.toNat, bit32 h2, h1, h2, fun j hj => ?_⟩
  by_cases hj32 : j < 32
  · exact log_top12 _ h hne j hj32 hj
  · exact BitVec.getLsbD_of_ge _ _ (by omega)
theorem bel4096 {k : Nat} (h : k ≤ 12) {s : BitVec 32} (hs : bel k s) : s.toNat < 4096 := by
  have := bel_toNat.1 hs
  have h2 : 2 ^ k ≤ 2 ^ 12 := Nat.pow_le_pow_right (n := 2) (by omega) h
  omega
theorem RI.tl12 {k : Nat} {l : List (BitVec 32)} {t : Nat} {rs : List SumsRow} {tp : Nat → Nat} (h : RI k l t rs tp) (k8 : k ≤ 12) {j : Nat} (hj : j < rs.length) : math_bits_Len32 (st rs j) = some ((tp j : Int) + 1) ∧ tp j < 32 := by
  obtain ⟨t1, t2⟩ := h.top j hj
  have hne : st rs j ≠ 0#32 := fun e => by rw [e] at t1; simp at t1
  obtain ⟨b, hb, e, b1, b2⟩ := len_eq12 (bel4096 k8 (h.bl j hj)) hne
  have : b = tp j := by
    by_cases h1 : b < tp j
    · rw [b2 _ h1] at t1; cases t1
    · by_cases h2 : tp j < b
      · rw [t2 _ h2] at b1; cases b1
      · omega
  subst this
  exact ⟨e, hb⟩
theorem clear_eq {R : Type} {k : Nat} {l : List (BitVec 32)} {t : Nat} {rs : List SumsRow} {tp : Nat → Nat} (h : RI k l t rs tp) {body : Int → BitVec 32 → (BitVec 32 → Option R) → Option R} {kf : BitVec 32 → Option R} {b : Int} (hb : b = (rs.length : Int)) (c : BitVec 32)
    (step : ∀ (u : Nat) c nx, u < rs.length → body u c nx = nx (bif c.getLsbD (tp u) then c ^^^ st rs u else c)) :
    ∃ c', forK body kf (b - 0).toNat 0 c = kf c' ∧ (bel k c → bel k c') ∧ (∀ i, i < rs.length → c'.getLsbD (tp i) = false) ∧ ∃ y, V rs tp y ∧ c' = c ^^^ y ∧ ∃ z, y = sm l z ∧ bel t z := by
  refine for0_q (Q := fun o => ∃ c', o = kf c' ∧ (bel k c → bel k c') ∧ (∀ i, i < rs.length → c'.getLsbD (tp i) = false) ∧ ∃ y, V rs tp y ∧ c' = c ^^^ y ∧ ∃ z, y = sm l z ∧ bel t z) (fun u (c' : BitVec 32) => (bel k c → bel k c') ∧ (∀ i, i < u → c'.getLsbD (tp i) = false) ∧ ∃ y, V rs tp y ∧ c' = c ^^^ y ∧ ∃ z, y = sm l z ∧ bel t z) hb c ⟨id, fun i hi => by omega, 0#32, V.zero rs tp, by simp, 0#32, (show sm l 0#32 = 0#32 from pks_none fun i _ => by simp).symm, fun j hj => by simp at hj⟩ (fun u c1 nx hu hI hnx => ?_) (fun c1 hI => ⟨c1, rfl, hI⟩)
  obtain ⟨i1, i2, y, hy, e1, z, e2, hz⟩ := hI
  rw [step u c1 nx hu]
  cases hbb : c1.getLsbD (tp u) with
  | true =>
    rw [cond_true]
    refine hnx _ ⟨fun hc => xor_bel (i1 hc) (h.bl u hu), fun i hi => ?_, y ^^^ st rs u, hy.xor (h.V hu), by rw [e1, BitVec.xor_assoc], z ^^^ (rw_ rs u).by_, by rw [sm_xor, (h.b u hu).2, e2], xor_bel hz (h.b u hu).1⟩
    rw [xor_bit]
    by_cases e : i = u
    · subst e; rw [hbb, (h.top i hu).1]; rfl
    · rw [i2 i (by omega), h.own u i hu (by omega) (fun e' => e e'.symm)]; rfl
  | false =>
    rw [cond_false]
    refine hnx _ ⟨i1, fun i hi => ?_, y, hy, e1, z, e2, hz⟩
    by_cases e : i = u
    · subst e; exact hbb
    · exact i2 i (by omega)

abbrev sets (rs : List SumsRow) : List (BitVec 32) := tab rs.length (st rs)
theorem sets_more {rs : List SumsRow} {r : SumsRow} {p : Nat} : sets (tab rs.length (upd rs r p) ++ [r]) = tab rs.length (fun i => bif (st rs i).getLsbD p then st rs i ^^^ r.set_ else st rs i) ++ [r.set_] := by
  have hl' : (tab rs.length (upd rs r p) ++ [r]).length = rs.length + 1 := by rw [List.length_append, tab_len]; rfl
  unfold sets
  rw [hl', tab_succ]
  congr 1
  · refine tab_congr fun i hi => ?_
    unfold st rw_
    rw [List.getElem?_append_left (by rw [tab_len]; exact hi), tab_get hi]
    show (upd rs r p i).set_ = _
    unfold upd
    cases (st rs i).getLsbD p <;> rfl
  · unfold st rw_
    rw [List.getElem?_append_right (by rw [tab_len]; exact Nat.le_refl _), tab_len, Nat.sub_self]; rfl

theorem reduced_eq {N : Nat} (hN : N ≤ 12) {zl : List (BitVec 32)} (hz : ∀ i, i < zl.length → bel N (wd zl i)) (h12 : zl.length ≤ 12) : ∃ rs tp, sums_reduced zl = some (sets rs) ∧ RI N zl zl.length rs tp := by
  unfold sums_reduced
  refine for0_q (Q := fun o => ∃ rs tp, o = some (sets rs) ∧ RI N zl zl.length rs tp) (fun t (c : List (BitVec 32)) => ∃ rs tp, c = sets rs ∧ RI N zl t rs tp) rfl [] ⟨[], fun _ => 0, rfl, by simp, fun i hi => by simp at hi, fun i hi => by simp at hi, fun i j hi => by simp at hi, fun i hi => by simp at hi, fun q hq => by omega⟩ (fun t c nx ht hI hnx => ?_) (fun c hI => ?_)
  · obtain ⟨rs, tp, rfl, h⟩ := hI
    have hlen := h.len
    unfold sums_reduced_b14
    rw [geti_wd ht, Option.bind_some]
    obtain ⟨c, ec, c1, c2, y, hy, ey, y2, ey2, hy2⟩ := clear_eq (kf := fun s => sums_reduced_k24 (sets rs) nx s) h (b := ((sets rs).length : Int)) (by rw [tab_len]) (wd zl t) (fun u c nx' hu => by
      show sums_reduced_b54 (sets rs) u c nx' = _
      obtain ⟨hl, h32⟩ := h.tl12 hN hu
      unfold sums_reduced_b54
      rw [tab_geti hu, Option.bind_some, hl, Option.bind_some, show ((tp u : Int) + 1 - 1) = (tp u : Int) by omega, w64_id (by omega) (by omega), decide_eq_true (by omega), cond_true, Int.toNat_natCast, bit_shr, cond_nx])
    refine Eq.mpr (congrArg (fun o => ∃ rs tp, o = some (sets rs) ∧ RI N zl zl.length rs tp) ec) ?_
    have c1 := c1 (hz t ht)
    unfold sums_reduced_k24
    cases h0 : (c == 0#32) with
    | true =>
      rw [beq_iff_eq] at h0
      rw [cond_true]
      refine hnx _ ⟨rs, tp, rfl, by omega, fun i hi => ⟨bel_mono (h.b i hi).1 (by omega), (h.b i hi).2⟩, h.top, h.own, h.bl, fun q hq => ?_⟩
      by_cases e : q = t
      · subst e
        rw [h0] at ey
        rw [xor_back ey]
        simpa using hy
      · exact h.spn q (by omega)
    | false =>
      rw [cond_false]
      have hne : c ≠ 0#32 := by simpa using h0
      obtain ⟨p, hp32, hl, p1, p2⟩ := len_eq12 (bel4096 hN c1) hne
      rw [for_rec (n := rs.length) (fun u => tab rs.length fun i => if i < u then (bif (st rs i).getLsbD p then st rs i ^^^ c else st rs i) else st rs i) (by rw [tab_len]) (tab_congr fun i hi => by rw [if_neg (by omega)]) (fun u nx' hu => by
        unfold sums_reduced_b42
        rw [tab_geti hu, Option.bind_some, if_neg (by omega), hl, Option.bind_some, show ((p : Int) + 1 - 1) = (p : Int) by omega, w64_id (by omega) (by omega), decide_eq_true (by omega), cond_true, Int.toNat_natCast, bit_shr, Option.bind_some, cond_nx, Int.toNat_natCast, tab_set hu]
        congr 1
        cases hbb : (st rs u).getLsbD p with
        | true =>
          rw [cond_true]
          refine tab_congr fun i hi => ?_
          by_cases e : i = u
          · subst e
            rw [if_pos rfl, if_pos (by omega), hbb, cond_true]
          · rw [if_neg e]
            by_cases hlt : i < u
            · rw [if_pos hlt, if_pos (by omega)]
            · rw [if_neg hlt, if_neg (by omega)]
        | false =>
          rw [cond_false]
          refine tab_congr fun i hi => ?_
          by_cases e : i = u
          · subst e
            rw [if_neg (by omega), if_pos (by omega), hbb, cond_false]
          · by_cases hlt : i < u
            · rw [if_pos hlt, if_pos (by omega)]
            · rw [if_neg hlt, if_neg (by omega)])]
      unfold sums_reduced_k34
      have hlist : (tab rs.length fun i => if i < rs.length then (bif (st rs i).getLsbD p then st rs i ^^^ c else st rs i) else st rs i) ++ [c] = sets (tab rs.length (upd rs { set_ := c, by_ := 1#32 <<< t ^^^ y2 } p) ++ [{ set_ := c, by_ := 1#32 <<< t ^^^ y2 }]) := by
        rw [sets_more]
        congr 1
        exact tab_congr fun i hi => by rw [if_pos hi]
      rw [hlist, decide_eq_true (by rw [tab_len]; simp only [List.length_cons, List.length_nil]; omega), cond_true]
      refine hnx _ ⟨_, _, rfl, more h (r := { set_ := c, by_ := 1#32 <<< t ^^^ y2 }) c1 c2 hy ey ?_ ?_ p1 p2⟩
      · simp only
        rw [sm_xor, sm_one ht (by omega), ← ey2, ← ey]
      · exact xor_bel (fun j hj => by have := ((one_shl t j).1 hj).1; omega) (bel_mono hy2 (by omega))
  · obtain ⟨rs, tp, rfl, h⟩ := hI
    exact ⟨rs, tp, rfl, h⟩

theorem pks_bit {p : Nat → Bool} {f : Nat → BitVec 32} {g : Nat} : ∀ {t : Nat}, (pks p f t).getLsbD g = true → ∃ i, i < t ∧ p i = true ∧ (f i).getLsbD g = true
  | 0, h => by simp [pks] at h
  | t + 1, h => by
    simp only [pks] at h
    cases hp : p t with
    | false =>
      rw [hp, cond_false] at h
      obtain ⟨i, hi, h1⟩ := pks_bit h
      exact ⟨i, by omega, h1⟩
    | true =>
      rw [hp, cond_true, xor_bit] at h
      cases e : (pks p f t).getLsbD g with
      | true =>
        obtain ⟨i, hi, h1⟩ := pks_bit e
        exact ⟨i, by omega, h1⟩
      | false => rw [e] at h; exact ⟨t, by omega, hp, by simpa using h⟩
theorem lt_of_tb : ∀ (i : Nat) {x y : Nat}, x.testBit i = false → y.testBit i = true → (∀ j, i < j → x.testBit j = y.testBit j) → x < y
  | 0, x, y, hx, hy, h => by
    have e : x / 2 = y / 2 := Nat.eq_of_testBit_eq fun j => by rw [← Nat.testBit_succ, ← Nat.testBit_succ]; exact h (j + 1) (by omega)
    rw [Nat.testBit_zero] at hx hy
    have := of_decide_eq_false hx
    have := of_decide_eq_true hy
    omega
  | i + 1, x, y, hx, hy, h => by
    have : x / 2 < y / 2 := lt_of_tb i (by rw [← Nat.testBit_succ]; exact hx) (by rw [← Nat.testBit_succ]; exact hy) fun j hj => by rw [← Nat.testBit_succ, ← Nat.testBit_succ]; exact h (j + 1) (by omega)
    omega

theorem Spn.V {rs : List SumsRow} {tp : Nat → Nat} {z : List (BitVec 32)} (h : ∀ i, i < z.length → Sy.V rs tp (wd z i)) {x : BitVec 32} (hx : Spn z x) : Sy.V rs tp x := by
  induction hx with
  | zero => exact V.zero rs tp
  | add hg _ ih =>
    obtain ⟨i, hi, rfl⟩ := List.getElem_of_mem hg
    have := h i hi
    rw [show wd z i = z[i] from getd_at _ hi] at this
    exact ih.xor this

theorem sumsFollows_true (n : Int) (l : List (BitVec 32)) (s : BitVec 32) : syllogistlaw_SumsFollows n l s = some true := by
  unfold syllogistlaw_SumsFollows sums_Follows
  obtain ⟨r, e1, e2, h0⟩ := acheck n l s
  rw [e1, e2]
  by_cases hr : r = 0
  · subst hr
    obtain ⟨k, hA⟩ := h0 rfl
    have hn := hA.n
    subst hn
    have k8 := hA.k8
    have h12 := hA.len
    obtain ⟨rs, tp, z, eb, hR, hK, hzl⟩ := buildz_eq hA
    obtain ⟨q, eq', q1, q2, ⟨y, hy, ey⟩, _, _, y2, ey1, ey2, hy2⟩ := less_eq hR k8 h12 z { set_ := s, by_ := 0#32 } hA.s
    obtain ⟨b, ebb, hb⟩ := by_eq h12 s
    simp only at ey ey1 ey2
    simp only [Option.bind_some, bne_self_eq_false, cond_false]
    rw [eb, Option.bind_some, eq', Option.bind_some, ebb]
    cases hq : (q.set_ != 0#32) with
    | true =>
      have hne : q.set_ ≠ 0#32 := by simpa using hq
      rcases hb with ⟨b2, b3, b4, _⟩ | ⟨rfl, _⟩
      · exfalso
        have hVs : V rs tp s := by rw [← b4]; exact V_pks' fun i hi _ => hR.spn i hi
        exact hne (V_null (by rw [ey]; exact hVs.xor hy) q2)
      · rfl
    | false =>
      have hq0 : q.set_ = 0#32 := by simpa using hq
      have hqb : q.by_ = y2 := by rw [ey2]; simp
      have hs2 : sm l q.by_ = s := by
        rw [hqb]
        rw [hq0] at ey1
        have := xor_back ey1
        rw [this]; simp
      have hN : ∀ i, i < z.length → bel l.length (wd z i) := fun i hi => by
        rw [show wd z i = z[i] from getd_at _ hi]; exact (hK.m _ (List.getElem_mem hi)).2
      obtain ⟨rz, tz, ez, hZ⟩ := reduced_eq h12 hN (by omega)
      simp only [cond_false, Option.bind_some]
      rw [ez, Option.bind_some]
      obtain ⟨c, ec, c1, c2, yy, hyy, eyy, w, ew, _⟩ := clear_eq (kf := fun s_1 => sums_Follows_k31 l s_1) hZ (b := ((sets rz).length : Int)) (by rw [tab_len]) q.by_ (fun u c nx' hu => by
        show sums_Follows_b55 (sets rz) u c nx' = _
        obtain ⟨hl, h32⟩ := hZ.tl12 h12 hu
        unfold sums_Follows_b55
        rw [tab_geti hu, Option.bind_some, hl, Option.bind_some, show ((tz u : Int) + 1 - 1) = (tz u : Int) by omega, w64_id (by omega) (by omega), decide_eq_true (by omega), cond_true, Int.toNat_natCast, bit_shr, cond_nx])
      have c1 := c1 (by rw [hqb]; exact hy2)
      -- what is cleared away is nothing
      have hnul : ∀ w : BitVec 32, sm l (sm z w) = 0#32 := fun w => by
        have key : ∀ t, t ≤ z.length → sm l (pks w.getLsbD (wd z) t) = 0#32 := by
          intro t
          induction t with
          | zero => intro _; exact pks_none fun i _ => by simp [pks]
          | succ t ih =>
            intro ht
            simp only [pks]
            cases w.getLsbD t with
            | false => exact ih (by omega)
            | true =>
              rw [cond_true, sm_xor, ih (by omega), show wd z t = z[t] from getd_at _ (by omega), (hK.m _ (List.getElem_mem (show t < z.length by omega))).1]
              simp
        exact key z.length (Nat.le_refl _)
      have hcs : sm l c = s := by rw [eyy, sm_xor, hs2, ew, hnul]; simp
      -- it is the least one
      have hmin : ∀ x, bel l.length x → sm l x = s → c.toNat ≤ x.toNat := fun x hx hxs => by
        by_cases hxc : x ^^^ c = 0#32
        · have : x = c := by have := xor_back hxc.symm; rw [this]; simp
          rw [this]; exact Nat.le_refl _
        · have hbx := xor_bel hx c1
          obtain ⟨g, hg, _, g1, g2⟩ := len_eq12 (bel4096 h12 hbx) hxc
          have hVx : V rz tz (x ^^^ c) := (hK.k _ hbx (by rw [sm_xor, hxs, hcs]; simp)).V hZ.spn
          have hgb : (cmb rz tz (x ^^^ c)).getLsbD g = true := by rw [show cmb rz tz (x ^^^ c) = x ^^^ c from hVx]; exact g1
          obtain ⟨i, hi, hp, hgi⟩ := pks_bit hgb
          obtain ⟨_, t2⟩ := hZ.top i hi
          have hgt : g = tz i := by
            by_cases h1 : tz i < g
            · rw [t2 g h1] at hgi; cases hgi
            · by_cases h2 : g < tz i
              · rw [g2 _ h2] at hp; cases hp
              · omega
          have hcg : c.getLsbD g = false := by rw [hgt]; exact c2 i hi
          have hxg : x.getLsbD g = true := by
            rw [xor_bit, hcg] at g1
            simpa using g1
          refine Nat.le_of_lt (lt_of_tb g hcg hxg fun j hj => ?_)
          have := g2 j hj
          rw [xor_bit] at this
          show c.getLsbD j = x.getLsbD j
          revert this
          cases x.getLsbD j <;> cases c.getLsbD j <;> simp
      rcases hb with ⟨b2, b3, b4, bmin⟩ | ⟨_, bno⟩
      · have hcb : c = b.1 := BitVec.eq_of_toNat_eq (by have := hmin _ b3 b4; have := bmin _ c1 hcs; omega)
        have ec' : forK (σ := BitVec 32) (fun i s_1 nx_ => sums_Follows_b55 (sets rz) i s_1 nx_) (fun s_1 => sums_Follows_k31 l s_1) (((sets rz).length : Int) - (0 : Int)).toNat (0 : Int) q.by_ = sums_Follows_k31 l c := ec
        have hrun : sums_Follows_k31 l c = some (apps l.length (fun i => bif c.getLsbD i then [(i : Int)] else []), 0) := by
          unfold sums_Follows_k31
          rw [decide_eq_true (by omega), cond_true]
          refine (for_apps (n := l.length) (fun i => bif c.getLsbD i then [(i : Int)] else []) rfl (fun i ls nx hi hs => ?_)).trans rfl
          unfold sums_Follows_b46
          have hlen : ls.length ≤ i * 1 := by subst hs; exact apps_len fun j _ => by cases c.getLsbD j <;> simp
          rw [Int.toNat_natCast, bit_shr, decide_eq_true (by simp only [List.length_cons, List.length_nil]; omega), cond_true]
          cases c.getLsbD i with
          | true => rfl
          | false => rw [cond_false, cond_false, List.append_nil]
        rw [ec', hrun]
        simp only [Option.bind_some, b2, Bool.not_true, cond_false]
        rw [for_apps (n := l.length) (fun i => bif c.getLsbD i then [(i : Int)] else []) rfl (fun i ls nx hi hs => by
          unfold syllogistlaw_SumsFollows_b23
          have hlen : ls.length ≤ i * 1 := by subst hs; exact apps_len fun j _ => by cases c.getLsbD j <;> simp
          rw [bit_eq _ _ (by omega), Option.bind_some, ← hcb, decide_eq_true (by simp only [List.length_cons, List.length_nil]; omega), cond_true]
          cases c.getLsbD i with
          | true => rfl
          | false => rw [cond_false, cond_false, List.append_nil])]
        unfold syllogistlaw_SumsFollows_k18
        rw [show ∀ a b, syllogistref_Ints a b = some (decide (a = b)) from fun a b => lists_eq a b]
        simp
      · exact absurd hcs (bno c c1)
  · have hb : (r != 0) = true := by simpa using hr
    simp [hb]
end Go.Proofs.Ytoninfimcobeiaa.Sy
