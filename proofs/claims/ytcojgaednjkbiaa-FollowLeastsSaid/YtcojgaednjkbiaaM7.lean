/- As few rules as can be: the plain law; no program in sight. -/
import Derived.Test.YtcojgaednjkbiaaM1b
import Derived.Test.YtcojgaednjkbiaaSyR
namespace Go.Proofs.Ytcojgaednjkbiaa.Sy
set_option linter.unusedVariables false

theorem cl_mem {l : List Rule} {c : BitVec 32} : Cl l c ↔ ∀ r ∈ l, sb r.cond c → sb r.thn c := by
  constructor
  · intro h r hr
    obtain ⟨i, hi, rfl⟩ := List.getElem_of_mem hr
    exact h i hi
  · exact fun h i hi => h _ (List.getElem_mem hi)
def Eqv (l m : List Rule) : Prop := ∀ c, Cl l c ↔ Cl m c
/-- t follows from s. -/
def Fo (l : List Rule) (s t : BitVec 32) : Prop := ∀ c, sb s c → Cl l c → sb t c
theorem Lst.fo {l : List Rule} {s r : BitVec 32} (h : Lst l s r) (t : BitVec 32) : sb t r ↔ Fo l s t :=
  ⟨fun k c hc hl => k.trans (h.least c hc hl), fun k => k r h.sup h.cl⟩
theorem Fo.eqv {l m : List Rule} (h : Eqv l m) {s t : BitVec 32} : Fo l s t ↔ Fo m s t :=
  ⟨fun k c hs hc => k c hs ((h c).2 hc), fun k c hs hc => k c hs ((h c).1 hc)⟩
theorem Fo.mono {l : List Rule} {s s' t : BitVec 32} (h : Fo l s t) (k : sb s s') : Fo l s' t := fun c hs hc => h c (k.trans hs) hc
theorem Fo.sub {l m : List Rule} {s t : BitVec 32} (h : Fo l s t) (k : ∀ r ∈ l, r ∈ m) : Fo m s t := fun c hs hc => h c hs (cl_mem.2 fun r hr => cl_mem.1 hc r (k r hr))

structure Sh (n : Nat) (r : Rule) : Prop where
  one : ∃ i, i < n ∧ r.thn = 1#32 <<< i ∧ r.cond.getLsbD i = false
  bel : bel n r.cond
theorem Sh.thn {n : Nat} (hn : n ≤ 6) {r : Rule} (h : Sh n r) : Sy.bel n r.thn := by
  obtain ⟨i, hi, e, _⟩ := h.one
  rw [e]
  intro j hj
  have := (one_shl i j).1 hj
  omega
theorem sh_rin {n : Nat} (hn : n ≤ 6) {l : List Rule} (h : ∀ r ∈ l, Sh n r) : rin n l := fun i hi => ⟨(h _ (List.getElem_mem hi)).bel, (h _ (List.getElem_mem hi)).thn hn⟩
theorem sb_one {i : Nat} (hi : i < 32) {c : BitVec 32} : sb (1#32 <<< i) c ↔ c.getLsbD i = true :=
  ⟨fun h => h i ((one_shl i i).2 ⟨rfl, hi⟩), fun h j hj => by rw [((one_shl i j).1 hj).1]; exact h⟩
theorem rcode_len {n : Int} {l : List Rule} {more : BitVec 32} (h : rcode n l more = 0) : l.length ≤ 10 := by
  unfold rcode at h
  split at h
  · cases h
  · rename_i h1
    unfold rbad1 at h1
    omega

/-! ### First: a rule for each thing -/
theorem cl_app {l : List Rule} {r : Rule} {c : BitVec 32} : Cl (l ++ [r]) c ↔ Cl l c ∧ (sb r.cond c → sb r.thn c) := by
  rw [cl_mem, cl_mem]
  constructor
  · exact fun h => ⟨fun q hq => h q (by simp [hq]), h r (by simp)⟩
  · intro h q hq
    rcases List.mem_append.1 hq with hq | hq
    · exact h.1 q hq
    · have : q = r := by simpa using hq
      exact this ▸ h.2

def LM (rs : List Rule) (n : Nat) (r : Rule) : Prop := ∀ j, j < n → r.cond.getLsbD j = true → ¬ Fo rs (without r.cond j) r.thn

theorem set_mem {l : List Rule} {k : Nat} {r : Rule} {q : Rule} (h : q ∈ l.set k r) : q = r ∨ ∃ i, i ≠ k ∧ l[i]? = some q := by
  obtain ⟨i, hi⟩ := List.mem_iff_getElem?.1 h
  rw [List.getElem?_set] at hi
  split at hi
  · split at hi
    · exact .inl (by simpa using hi.symm)
    · cases hi
  · rename_i hne
    exact .inr ⟨i, fun e => hne e.symm, hi⟩

/-- A rule that needs less says the same. -/
theorem eqv_set {l : List Rule} {k : Nat} (hk : k < l.length) {r : Rule} (ht : r.thn = l[k].thn) (hs : sb r.cond l[k].cond) (hf : Fo l r.cond r.thn) : Eqv l (l.set k r) := by
  intro c
  constructor
  · intro h
    rw [cl_mem]
    intro q hq
    rcases set_mem hq with e | ⟨i, _, e⟩
    · subst e; exact fun hc => hf c hc h
    · exact cl_mem.1 h q (List.mem_of_getElem? e)
  · intro h i hi hc
    by_cases e : i = k
    · subst e
      have hm : r ∈ l.set i r := List.mem_iff_getElem?.2 ⟨i, by simp [hi]⟩
      have := cl_mem.1 h r hm (hs.trans hc)
      rwa [ht] at this
    · refine cl_mem.1 h l[i] (List.mem_iff_getElem?.2 ⟨i, ?_⟩) hc
      rw [List.getElem?_set, if_neg (fun h => e h.symm), List.getElem?_eq_getElem hi]

theorem eqv_erase {l : List Rule} {k : Nat} (hk : k < l.length) (hf : Fo (l.eraseIdx k) l[k].cond l[k].thn) : Eqv l (l.eraseIdx k) := by
  intro c
  constructor
  · intro h
    rw [cl_mem]
    exact fun q hq => cl_mem.1 h q (List.mem_of_mem_eraseIdx hq)
  · intro h i hi hc
    by_cases e : i = k
    · subst e; exact hf c hc h
    · exact cl_mem.1 h l[i] (List.mem_eraseIdx_iff_getElem?.2 ⟨i, e, List.getElem?_eq_getElem hi⟩) hc

theorem erase_erase {l : List Rule} {k a : Nat} (h : a < k) : ∀ r ∈ (l.eraseIdx k).eraseIdx a, r ∈ l.eraseIdx a := by
  intro r hr
  obtain ⟨i, hi, e⟩ := List.mem_eraseIdx_iff_getElem?.1 hr
  rw [List.getElem?_eraseIdx] at e
  split at e
  · exact List.mem_eraseIdx_iff_getElem?.2 ⟨i, hi, e⟩
  · exact List.mem_eraseIdx_iff_getElem?.2 ⟨i + 1, by omega, e⟩

/-! ### What the program tells -/
structure LeastOf (rs : List Rule) (n : Nat) (l : List Rule) : Prop where
  len : l.length ≤ 60
  sh : ∀ r ∈ l, Sh n r
  eqv : Eqv rs l
  lm : ∀ r ∈ l, LM rs n r
  irr : ∀ a (h : a < l.length), ¬ Fo (l.eraseIdx a) l[a].cond l[a].thn

abbrev QL (rs : List Rule) (n : Nat) (o : Option (List Rule × Int)) : Prop := ∃ l, o = some (l, 0) ∧ LeastOf rs n l

theorem least_third (fuel : Nat) (rs : List Rule) (n : Nat) (hf : 8589934600 < fuel) (l : List Rule) (hll : l.length ≤ 60) (h1 : ∀ r ∈ l, Sh n r) (h2 : Eqv rs l) (h3 : ∀ r ∈ l, LM rs n r) : QL rs n (follow_Least_k22 fuel l) := by
  unfold follow_Least_k22
  refine whileK_q (Q := QL rs n) (fun (s : List Rule × Int) => ∃ k : Nat, s.2 = k ∧ k ≤ s.1.length ∧ s.1.length ≤ 60 ∧ (∀ r ∈ s.1, Sh n r) ∧ Eqv rs s.1 ∧ (∀ r ∈ s.1, LM rs n r) ∧ ∀ a (h : a < s.1.length), a < k → ¬ Fo (s.1.eraseIdx a) s.1[a].cond s.1[a].thn)
    (fun s => s.1.length - s.2.toNat) (fun s nx hI hn => ?_) fuel _ ⟨0, rfl, by simp, hll, h1, h2, h3, fun a _ h => by omega⟩ (by simp; omega)
  obtain ⟨l, kk⟩ := s
  obtain ⟨k, rfl, hk, hl60, i1, i2, i3, i4⟩ := hI
  simp only at hk hl60 i1 i2 i3 i4 hn ⊢
  unfold follow_Least_b52
  by_cases hlt : k < l.length
  · rw [decide_eq_true (by omega), cond_true]
    unfold slices_Clone_SapiRuleapiRule
    rw [decide_eq_true (by simp; omega), cond_true, Option.bind_some, List.nil_append]
    unfold slices_Delete_SapiRuleapiRule
    rw [w64_id (by omega) (by omega), decide_eq_true (by omega), cond_true, Option.bind_some, geti_at hlt, Option.bind_some]
    have he : l.take ((k : Int)).toNat ++ l.drop (((k : Int) + 1)).toNat = l.eraseIdx k := by
      rw [List.eraseIdx_eq_take_drop_succ]
      have e1 : ((k : Int)).toNat = k := by omega
      have e2 : (((k : Int) + 1)).toNat = k + 1 := by omega
      rw [e1, e2]
    rw [he]
    obtain ⟨r, er, hL⟩ := fclosed_eq fuel (l.eraseIdx k) l[k].cond hf
    rw [er, Option.bind_some]
    have hel : (l.eraseIdx k).length = l.length - 1 := List.length_eraseIdx_of_lt hlt
    by_cases hg : sb l[k].thn r
    · rw [andn_iff.2 hg, cond_true]
      have hfo := (hL.fo _).1 hg
      have hev := eqv_erase hlt hfo
      refine hn _ ⟨k, rfl, by simp only; omega, by simp only; omega, fun q hq => i1 q (List.mem_of_mem_eraseIdx hq), fun c => (i2 c).trans (hev c), fun q hq => i3 q (List.mem_of_mem_eraseIdx hq), fun a ha hak hfo' => ?_⟩ ?_
      · simp only at ha hfo'
        have ea : (l.eraseIdx k)[a] = l[a]'(by omega) := by
          rw [List.getElem_eraseIdx_of_lt]; exact hak
        rw [ea] at hfo'
        exact i4 a (by omega) hak (hfo'.sub (erase_erase hak))
      · simp only [hel, Int.toNat_natCast]; omega
    · have : ((l[k].thn &&& ~~~r) == 0#32) = false := by
        rw [← Bool.not_eq_true]; exact fun h => hg (andn_iff.1 h)
      rw [this, cond_false]
      refine hn _ ⟨k + 1, by simp only; omega, by simp only; omega, hl60, i1, i2, i3, fun a ha hak => ?_⟩ ?_
      · by_cases e : a = k
        · subst e
          exact fun h => hg ((hL.fo _).2 h)
        · exact i4 a ha (by omega)
      · simp only; omega
  · rw [decide_eq_false (by omega), cond_false]
    exact ⟨l, rfl, hl60, i1, i2, i3, fun a ha => i4 a ha (by omega)⟩

theorem least_second (fuel : Nat) (rs : List Rule) {n : Nat} (hn6 : n ≤ 6) (hf : 8589934600 < fuel) (l : List Rule) (hll : l.length ≤ 60) (h1 : ∀ r ∈ l, Sh n r) (h2 : Eqv rs l) : QL rs n (follow_Least_k12 n fuel l) := by
  unfold follow_Least_k12
  refine for0_q (n := l.length) (Q := QL rs n) (fun k (l' : List Rule) => l'.length = l.length ∧ (∀ r ∈ l', Sh n r) ∧ Eqv rs l' ∧ ∀ a (h : a < l'.length), a < k → LM rs n l'[a]) rfl l ⟨rfl, h1, h2, fun a _ h => by omega⟩ (fun k l' nx hk hI hn => ?_) (fun l' hI => ?_)
  · obtain ⟨j1, j2, j3, j4⟩ := hI
    unfold follow_Least_b71
    rw [decide_eq_true (by omega), cond_true]
    refine for0_q (n := n) (Q := QL rs n) (fun i (l2 : List Rule) => l2.length = l.length ∧ (∀ r ∈ l2, Sh n r) ∧ Eqv rs l2 ∧ (∀ a (h : a < l2.length), a < k → LM rs n l2[a]) ∧ ∀ (hk2 : k < l2.length) j, j < i → j < n → l2[k].cond.getLsbD j = true → ¬ Fo rs (without l2[k].cond j) l2[k].thn) rfl l' ⟨j1, j2, j3, j4, fun _ j h => by omega⟩ (fun i l2 nx' hi hI' hn' => ?_) (fun l2 hI' => ?_)
    · obtain ⟨q1, q2, q3, q4, q5⟩ := hI'
      have hk2 : k < l2.length := by omega
      unfold follow_Least_b86
      rw [geti_at hk2, Option.bind_some, Option.bind_some, Int.toNat_natCast]
      obtain ⟨r, er, hL⟩ := fclosed_eq fuel l2 (without l2[k].cond i) hf
      have ew : (l2[k].cond &&& ~~~(1#32 <<< i)) = without l2[k].cond i := rfl
      rw [ew, er, Option.bind_some]
      have hwb := without_bit l2[k].cond
      by_cases hg : sb l2[k].thn r
      · rw [andn_iff.2 hg, cond_true, Option.bind_some, Int.toNat_natCast]
        have hfo := (hL.fo _).1 hg
        have hev := eqv_set (r := ({ cond := without l2[k].cond i, thn := l2[k].thn } : Rule)) hk2 rfl (without_sub _ _) hfo
        have hShk := q2 l2[k] (List.getElem_mem hk2)
        refine hn' _ ⟨by rw [List.length_set]; exact q1, fun q hq => ?_, fun c => (q3 c).trans (hev c), fun a ha hak => ?_, fun hk3 j hj hjn hb => ?_⟩
        · rcases set_mem hq with e | ⟨a, _, e⟩
          · subst e
            obtain ⟨i0, a1, a2, a3⟩ := hShk.one
            refine ⟨⟨i0, a1, a2, ?_⟩, hShk.bel.sb (without_sub _ _)⟩
            rw [← Bool.not_eq_true] at a3 ⊢
            exact fun e => a3 ((hwb i i0).1 e).1
          · exact q2 q (List.mem_of_getElem? e)
        · rw [List.getElem_set_ne (by omega)]
          exact q4 a (by rw [List.length_set] at ha; exact ha) hak
        · rw [List.getElem_set_self] at hb ⊢
          simp only at hb ⊢
          obtain ⟨b1, b2⟩ := (hwb i j).1 hb
          have := q5 hk2 j (by omega) hjn b1
          refine fun hfo' => this (hfo'.mono fun x hx => ?_)
          obtain ⟨c1, c2⟩ := (without_bit _ _ _).1 hx
          exact (without_bit _ _ _).2 ⟨((hwb i x).1 c1).1, c2⟩
      · have : ((l2[k].thn &&& ~~~r) == 0#32) = false := by
          rw [← Bool.not_eq_true]; exact fun h => hg (andn_iff.1 h)
        rw [this, cond_false]
        refine hn' _ ⟨q1, q2, q3, q4, fun hk3 j hj hjn hb => ?_⟩
        by_cases e : j = i
        · subst e
          exact fun h => hg ((hL.fo _).2 ((Fo.eqv q3).1 h))
        · exact q5 hk3 j (by omega) hjn hb
    · obtain ⟨q1, q2, q3, q4, q5⟩ := hI'
      unfold follow_Least_k82
      refine hn _ ⟨q1, q2, q3, fun a ha hak => ?_⟩
      by_cases e : a = k
      · subst e; exact fun j hj => q5 ha j hj hj
      · exact q4 a ha (by omega)
  · obtain ⟨j1, j2, j3, j4⟩ := hI
    refine least_third fuel rs n hf l' (by omega) j2 j3 fun r hr => ?_
    obtain ⟨a, ha, rfl⟩ := List.getElem_of_mem hr
    exact j4 a ha (by omega)

theorem least_ok (fuel : Nat) (rs : List Rule) {n : Nat} (hn6 : n ≤ 6) (hf : 8589934600 < fuel) (hl : rin n rs) (hlen : rs.length ≤ 10) (hc : follow_Check (n : Int) rs [] = some 0) : QL rs n (follow_Least fuel n rs) := by
  unfold follow_Least
  rw [hc, Option.bind_some]
  simp only [bne_self_eq_false, cond_false]
  refine for0_q (n := rs.length) (Q := QL rs n) (fun t (l : List Rule) => l.length ≤ 6 * t ∧ (∀ r ∈ l, Sh n r) ∧ ∀ c, Cl l c ↔ ∀ a (h : a < rs.length), a < t → sb rs[a].cond c → sb rs[a].thn c) rfl [] ⟨by simp, by simp, fun c => ⟨fun _ a _ h => by omega, fun _ i hi => by simp at hi⟩⟩ (fun t l nx ht hI hn => ?_) (fun l hI => ?_)
  · obtain ⟨j1, j2, j3⟩ := hI
    unfold follow_Least_b99
    rw [geti_at ht, Option.bind_some, decide_eq_true (by omega), cond_true]
    refine for0_q (n := n) (Q := QL rs n) (fun i (l2 : List Rule) => l2.length ≤ 6 * t + i ∧ (∀ r ∈ l2, Sh n r) ∧ ∀ c, Cl l2 c ↔ Cl l c ∧ (sb rs[t].cond c → ∀ j, j < i → rs[t].thn.getLsbD j = true → c.getLsbD j = true)) rfl l ⟨by omega, j2, fun c => ⟨fun h => ⟨h, fun _ j hj => by omega⟩, fun h => h.1⟩⟩ (fun i l2 nx' hi hI' hn' => ?_) (fun l2 hI' => ?_)
    · obtain ⟨q1, q2, q3⟩ := hI'
      unfold follow_Least_b118
      rw [Int.toNat_natCast, bit_shr]
      by_cases hb : (rs[t].thn &&& ~~~rs[t].cond).getLsbD i = true
      · rw [hb, cond_true, decide_eq_true (by simp; omega), cond_true]
        rw [BitVec.getLsbD_and, Bool.and_eq_true, BitVec.getLsbD_not, Bool.and_eq_true, Bool.not_eq_true'] at hb
        obtain ⟨b1, _, b2⟩ := hb
        refine hn' _ ⟨by simp; omega, fun r hr => ?_, fun c => ?_⟩
        · rcases List.mem_append.1 hr with hr | hr
          · exact q2 r hr
          · have : r = ({ cond := rs[t].cond, thn := (1#32 <<< i) } : Rule) := by simpa using hr
            subst this
            exact ⟨⟨i, hi, rfl, b2⟩, (hl t ht).1⟩
        · rw [cl_app, q3 c, sb_one (by omega)]
          constructor
          · rintro ⟨⟨u1, u2⟩, u3⟩
            refine ⟨u1, fun hc j hj hb => ?_⟩
            by_cases e : j = i
            · subst e; exact u3 hc
            · exact u2 hc j (by omega) hb
          · rintro ⟨u1, u2⟩
            exact ⟨⟨u1, fun hc j hj => u2 hc j (by omega)⟩, fun hc => u2 hc i (by omega) b1⟩
      · rw [Bool.not_eq_true] at hb
        rw [hb, cond_false]
        refine hn' _ ⟨by omega, q2, fun c => ?_⟩
        rw [q3 c]
        constructor
        · rintro ⟨u1, u2⟩
          refine ⟨u1, fun hc j hj hbj => ?_⟩
          by_cases e : j = i
          · subst e
            rw [BitVec.getLsbD_and, BitVec.getLsbD_not, hbj, decide_eq_true (by omega)] at hb
            refine hc j ?_
            simpa using hb
          · exact u2 hc j (by omega) hbj
        · rintro ⟨u1, u2⟩
          exact ⟨u1, fun hc j hj => u2 hc j (by omega)⟩
    · obtain ⟨q1, q2, q3⟩ := hI'
      unfold follow_Least_k114
      refine hn _ ⟨by omega, q2, fun c => ?_⟩
      rw [q3 c, j3 c]
      constructor
      · rintro ⟨u1, u2⟩ a ha hat hc
        by_cases e : a = t
        · subst e
          exact fun j hj => u2 hc j ((hl a ha).2 j hj) hj
        · exact u1 a ha (by omega) hc
      · intro u
        exact ⟨fun a ha hat => u a ha (by omega), fun hc j hj hb => u t ht (by omega) hc j hb⟩
  · obtain ⟨j1, j2, j3⟩ := hI
    refine least_second fuel rs hn6 hf l (by omega) j2 fun c => ?_
    rw [j3 c]
    exact ⟨fun h a ha _ => h a ha, fun h a ha => h a ha ha⟩

theorem size_eq (w : BitVec 32) : syllogistref_Size w = some (cntN 32 w.getLsbD : Int) := by
  unfold syllogistref_Size
  refine (for_cnt (n := 32) w.getLsbD rfl (by omega) (fun j s nx hj => ?_)).trans rfl
  unfold syllogistref_Size_b9 syllogistref_Bit
  rw [bit_shape _ _ hj, Option.bind_some, cond_nx]
theorem cnt_one : ∀ i, i < 6 → cntN 32 (1#32 <<< i).getLsbD = 1 := by decide +kernel

theorem followLeasts_true (fuel : Nat) (n : Int) (l : List Rule) (hf : 8589934600 < fuel := by decide) : syllogistlaw_FollowLeasts fuel n l = some true := by
  unfold syllogistlaw_FollowLeasts
  have hck := check_eq n l [] 0#32 (fun k => ⟨fun _ i hi => absurd hi (by simp), fun _ j e => by simp at e⟩)
  by_cases hc : rcode n l 0#32 = 0
  · have hlen := rcode_len hc
    obtain ⟨m, rfl, hm, hl, _⟩ := rcode_ok hc
    rw [hc] at hck
    obtain ⟨r, er, hR⟩ := least_ok fuel l hm hf hl hlen hck
    rw [er, Option.bind_some, rulesCheck_eq, Option.bind_some, hc]
    simp only [bne_self_eq_false, cond_false]
    have hrin := sh_rin hm hR.sh
    have hr60 := hR.len
    refine forU_q (Q := fun o => o = some true) (fun _ (_ : Unit) => True) _ trivial (fun c _ nx _ _ hn => ?_) (fun _ _ => ?_)
    · unfold syllogistlaw_FollowLeasts_b62
      obtain ⟨a, ea, ha⟩ := closed_eq l c
      obtain ⟨b, eb, hb⟩ := closed_eq r c
      have hab : a = b := by rw [Bool.eq_iff_iff, ha, hb]; exact hR.eqv c
      rw [ea, Option.bind_some]
      simp only
      rw [eb, Option.bind_some, hab, bne_self_eq_false, cond_false]
      exact hn _ trivial
    · unfold syllogistlaw_FollowLeasts_k10
      simp only
      refine for0_q (n := r.length) (Q := fun o => o = some true) (fun _ _ => True) rfl () trivial (fun k _ nx hk _ hn => ?_) (fun _ _ => rfl)
      have hS := hR.sh r[k] (List.getElem_mem hk)
      obtain ⟨i0, h1, h2, h3⟩ := hS.one
      unfold syllogistlaw_FollowLeasts_b18
      simp only
      rw [geti_at hk, Option.bind_some, size_eq, Option.bind_some, h2, cnt_one i0 (by omega)]
      have hz : ((r[k].cond &&& (1#32 <<< i0)) != 0#32) = false := by
        rw [bne_eq_false_iff_eq]
        refine bits_ext fun j => ?_
        rw [BitVec.getLsbD_and, Bool.and_eq_true, one_shl]
        constructor
        · rintro ⟨a, rfl, _⟩
          rw [h3] at a; cases a
        · intro a; simp at a
      have hfit : syllogistref_Fits (m : Int) (r[k].cond ||| (1#32 <<< i0)) = some true := by
        obtain ⟨q, eq, hq⟩ := fits_eq (n := m) (by omega) (r[k].cond ||| (1#32 <<< i0))
        rw [eq, hq.2 (bel_or.2 ⟨hS.bel, h2 ▸ hS.thn hm⟩)]
      rw [hz, hfit]
      simp only [Option.isSome_some, Option.getD_some, Bool.or_true, Bool.or_false, Bool.not_true, cond_true]
      have hone : (((1 : Nat) : Int) != (1 : Int)) = false := rfl
      rw [hone, cond_false, w64_id (by omega) (by omega), decide_eq_true (by omega), cond_true, decide_eq_true (by omega), cond_true, decide_eq_true (by have := List.length_take_le k r; simp only [List.length_nil, Int.toNat_natCast]; omega), cond_true, decide_eq_true (by have := List.length_take_le k r; simp only [List.length_append, List.length_nil, Int.toNat_natCast, List.length_drop]; omega), cond_true]
      have he : ([] : List Rule) ++ r.take ((k : Int)).toNat ++ r.drop (((k : Int) + 1)).toNat = r.eraseIdx k := by
        rw [List.eraseIdx_eq_take_drop_succ, List.nil_append]
        have e1 : ((k : Int)).toNat = k := by omega
        have e2 : (((k : Int) + 1)).toNat = k + 1 := by omega
        rw [e1, e2]
      rw [he]
      obtain ⟨q, _, hq⟩ := fclosed_eq fuel (r.eraseIdx k) r[k].cond hf
      rw [refClose_eq hm _ _ q hq (sh_rin hm fun x hx => hR.sh x (List.mem_of_mem_eraseIdx hx)) hS.bel, Option.bind_some, in_eq, Option.bind_some]
      have hno : (((1#32 <<< i0) ||| q) == q) = false := by
        rw [← Bool.not_eq_true]
        intro h
        have := (hq.fo _).1 (or_iff.1 h)
        rw [← h2] at this
        exact hR.irr k hk this
      rw [hno, cond_false, decide_eq_true (by omega), cond_true]
      refine for0_q (n := m) (Q := fun o => o = some true) (fun _ _ => True) rfl () trivial (fun i _ nx' hi _ hn' => ?_) (fun _ _ => hn _ trivial)
      unfold syllogistlaw_FollowLeasts_b54
      unfold syllogistref_Bit
      rw [bit_shape _ _ (by omega), Option.bind_some]
      simp only
      rw [ofInt64 (by omega)]
      cases hb : r[k].cond.getLsbD i with
      | false =>
        exact hn' _ trivial
      | true =>
        rw [sub_bit hb]
        obtain ⟨q2, _, hq2⟩ := fclosed_eq fuel r (without r[k].cond i) hf
        rw [refClose_eq hm _ _ q2 hq2 hrin (hS.bel.sb (without_sub _ _))]
        simp only [Option.isSome_some, Option.getD_some, Bool.or_true, cond_true, in_eq, h2, Bool.true_and]
        have hno2 : (((1#32 <<< i0) ||| q2) == q2) = false := by
          rw [← Bool.not_eq_true]
          intro h
          have := (hq2.fo _).1 (or_iff.1 h)
          rw [← h2] at this
          exact hR.lm r[k] (List.getElem_mem hk) i hi hb ((Fo.eqv hR.eqv).2 this)
        rw [hno2, cond_false]
        exact hn' _ trivial
  · have hcb : (rcode n l 0#32 != 0) = true := by simpa using hc
    have : follow_Least fuel n l = some ([], rcode n l 0#32) := by
      unfold follow_Least
      rw [hck, Option.bind_some, hcb, cond_true]
    rw [this, Option.bind_some, rulesCheck_eq, Option.bind_some, hcb, cond_true]
    simp
end Go.Proofs.Ytcojgaednjkbiaa.Sy
