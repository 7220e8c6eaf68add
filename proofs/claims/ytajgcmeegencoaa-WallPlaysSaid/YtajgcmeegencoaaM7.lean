/- Who has read what, and who may: the plain law of wall.Play; no program in sight. -/
import Derived.Test.YtajgcmeegencoaaG1
import Derived.Test.YtajgcmeegencoaaSyR
namespace Go.Proofs.Ytajgcmeegencoaa.Sy
set_option linter.unusedVariables false

theorem contZ (s : List Int) (f : Int → Option Bool) (p : Int → Bool) (hf : ∀ a ∈ s, f a = some (p a)) : slices_ContainsFunc_Sintint s f = some (s.any p) := any_shape s f p hf
theorem hasZ (l : List Int) (x : Int) : syllogistref_Has l x = some (decide (x ∈ l)) := by
  unfold syllogistref_Has
  refine for0_q (n := l.length) (Q := fun o => o = some (decide (x ∈ l))) (fun j _ => x ∉ l.take j) rfl () (by simp) (fun j _ nx hj hI hn => ?_) (fun _ hI => ?_)
  · unfold syllogistref_Has_b7
    rw [geti_at hj, Option.bind_some]
    by_cases e : x = l[j]
    · have : x ∈ l := e ▸ List.getElem_mem hj
      rw [beq_iff_eq.2 e, cond_true, decide_eq_true this]
    · rw [beq_eq_false_iff_ne.2 e, cond_false]
      refine hn () fun h => ?_
      rw [← List.take_append_getElem hj] at h
      rcases List.mem_append.1 h with h | h
      · exact hI h
      · exact e (by simpa using h)
  · unfold syllogistref_Has_k3
    rw [List.take_length] at hI
    rw [decide_eq_false hI]

structure FO (firm cls : List Int) : Prop where
  fl : firm.length ≤ 8
  cl : cls.length ≤ 8
  ok : ∀ i (h : i < firm.length), -1 ≤ firm[i] ∧ firm[i] < cls.length
theorem fcheck (firm cls : List Int) : ∃ r, wall_wrong firm cls = some r ∧ syllogistref_FirmsCheck firm cls = some r ∧ (r = 0 → FO firm cls) := by
  unfold wall_wrong syllogistref_FirmsCheck
  cases hb : ((decide ((firm.length : Int) > (8 : Int))) || (decide ((cls.length : Int) > (8 : Int)))) with
  | true => exact ⟨1, rfl, rfl, by simp⟩
  | false =>
    simp only [Bool.or_eq_false_iff, decide_eq_false_iff_not] at hb
    simp only [cond_false]
    rw [contZ firm (fun a => wall_wrong_c1 a cls) (fun f => (decide (f < (-1 : Int))) || (decide (f ≥ (cls.length : Int)))) (fun a _ => rfl), Option.bind_some, any_len]
    rw [for_out (n := firm.length) (fun j => (firm[j]?.map fun f => (decide (f < (-1 : Int))) || (decide (f ≥ (cls.length : Int)))).getD false) (some 2) rfl (fun j nx hj => by
      unfold syllogistref_FirmsCheck_b7
      rw [geti_at hj, Option.bind_some, List.getElem?_eq_getElem hj]
      simp only [Option.getD_some, Option.map_some])]
    unfold syllogistref_FirmsCheck_k3
    cases ha : anyN firm.length (fun j => (firm[j]?.map fun f => (decide (f < (-1 : Int))) || (decide (f ≥ (cls.length : Int)))).getD false) with
    | true => exact ⟨2, rfl, rfl, by simp⟩
    | false =>
      refine ⟨0, rfl, rfl, fun _ => ⟨by omega, by omega, fun i hi => ?_⟩⟩
      have := anyN_false.1 ha i hi
      rw [List.getElem?_eq_getElem hi] at this
      simp only [Option.map_some, Option.getD_some, Bool.or_eq_false_iff, decide_eq_false_iff_not] at this
      omega


abbrev Wd := BitVec 32
def mask (l : List Int) : Wd := bset 32 fun k => decide ((k : Int) ∈ l)
theorem mask_bit (l : List Int) (k : Nat) : (mask l).getLsbD k = (decide (k < 32) && decide ((k : Int) ∈ l)) := bset_bit (by omega) k
theorem mask_nil : mask [] = 0#32 := bits_ext fun i => by rw [mask_bit]; simp
theorem mask_in {n : Nat} (hn : n ≤ 8) {l : List Int} {x : Int} (h0 : 0 ≤ x) (h1 : x < n) : mask l ||| (1#32 <<< x.toNat) = mask (bif decide (x ∈ l) then l else l ++ [x]) := by
  refine bits_ext fun i => ?_
  rw [BitVec.getLsbD_or, Bool.or_eq_true, one_shl, mask_bit, mask_bit]
  have e : i = x.toNat ↔ (i : Int) = x := by omega
  by_cases h : x ∈ l
  · rw [decide_eq_true h, cond_true, e]
    constructor
    · rintro (h' | ⟨rfl, h'⟩)
      · exact h'
      · rw [decide_eq_true h', decide_eq_true h]; rfl
    · exact fun h' => .inl h'
  · rw [decide_eq_false h, cond_false, e]
    simp only [Bool.and_eq_true, decide_eq_true_eq, List.mem_append, List.mem_singleton]
    constructor
    · rintro (h' | h')
      · exact ⟨h'.1, .inl h'.2⟩
      · exact ⟨h'.2, .inr h'.1⟩
    · rintro ⟨h1, h2 | h2⟩
      · exact .inl ⟨h1, h2⟩
      · exact .inr ⟨h2, h1⟩
theorem mask_add {n : Nat} (hn : n ≤ 8) {l : List Int} {x : Int} (h0 : 0 ≤ x) (h1 : x < n) (h : x ∉ l) : mask l + (1#32 <<< x.toNat) = mask (l ++ [x]) := by
  have hb : (mask (l ++ [x])).getLsbD x.toNat = true := by
    rw [mask_bit, decide_eq_true (by omega), decide_eq_true (by rw [Int.toNat_of_nonneg h0]; simp)]; rfl
  have e : without (mask (l ++ [x])) x.toNat = mask l := bits_ext fun i => by
    rw [without_bit, mask_bit, mask_bit]
    simp only [Bool.and_eq_true, decide_eq_true_eq, List.mem_append, List.mem_singleton]
    constructor
    · rintro ⟨⟨h1, h2 | h2⟩, h3⟩
      · exact ⟨h1, h2⟩
      · omega
    · rintro ⟨h1, h2⟩
      refine ⟨⟨h1, .inl h2⟩, fun e => h ?_⟩
      rwa [e, Int.toNat_of_nonneg h0] at h2
  rw [← e]; exact without_add hb
theorem deny_any {n : Nat} {l : List Int} (hn : n ≤ 8) (hl : ∀ o ∈ l, 0 ≤ o ∧ o < n) (q : Int → Bool) : anyN n (fun k => (mask l).getLsbD k && q (k : Int)) = l.any q := by
  rw [Bool.eq_iff_iff, anyN_iff, List.any_eq_true]
  constructor
  · rintro ⟨k, hk, h⟩
    rw [mask_bit, Bool.and_eq_true, Bool.and_eq_true, decide_eq_true_eq, decide_eq_true_eq] at h
    exact ⟨_, h.1.2, h.2⟩
  · rintro ⟨o, ho, h⟩
    obtain ⟨h0, h1⟩ := hl o ho
    refine ⟨o.toNat, by omega, ?_⟩
    rw [mask_bit, Int.toNat_of_nonneg h0, decide_eq_true (by omega), decide_eq_true ho, h]; rfl

/-! ### Deed by deed -/
structure LS where
  cs : List Int
  rl : List (List Int)
  kn : List Wd
  fr : List Wd
abbrev fz (firm : List Int) (o : Int) : Int := firm[o.toNat]?.getD (-1)
abbrev kz (cls : List Int) (f : Int) : Int := cls[f.toNat]?.getD 0
def kbad (d : Deed) : Bool := (d.kind != (1 : Int)) && (d.kind != (2 : Int))
def abad (who : Int) (firm : List Int) (d : Deed) : Bool := ((((decide (d.by_ < (0 : Int))) || (decide (d.by_ ≥ who))) || (decide (d.to < (0 : Int)))) || (decide (d.to ≥ (firm.length : Int))))
def clash (cls : List Int) (k own f : Int) : Bool := bif k == 1 then (((decide (f ≥ (0 : Int)) && decide (own ≥ (0 : Int))) && (f != own)) && (kz cls f == kz cls own)) else decide (f ≥ (0 : Int)) && (f != own)
def deny (firm cls : List Int) (d : Deed) (l : List Int) : Bool := l.any fun o => clash cls d.kind (fz firm d.to) (fz firm o)
def say (s : LS) (k : Int) : LS := { s with cs := s.cs ++ [k] }
def step (who : Int) (firm cls : List Int) (d : Deed) (s : LS) : LS :=
  bif kbad d then say s 6 else bif abad who firm d then say s 2 else
  bif deny firm cls d (s.rl[d.by_.toNat]?.getD []) then say s 7 else
  bif d.kind == 1 then { cs := s.cs ++ [0], rl := s.rl.set d.by_.toNat (bif decide (d.to ∈ s.rl[d.by_.toNat]?.getD []) then s.rl[d.by_.toNat]?.getD [] else s.rl[d.by_.toNat]?.getD [] ++ [d.to]), kn := s.kn.set d.by_.toNat (s.kn[d.by_.toNat]?.getD 0#32 ||| s.fr[d.to.toNat]?.getD 0#32), fr := s.fr }
  else { cs := s.cs ++ [0], rl := s.rl, kn := s.kn, fr := s.fr.set d.to.toNat (s.fr[d.to.toNat]?.getD 0#32 ||| s.kn[d.by_.toNat]?.getD 0#32) }
def dDeed : Deed := { kind := 0, by_ := 0, to := 0, label := { level := 0, parts := 0#32 }, val := 0 }
def run (who : Int) (firm cls : List Int) (w : List Deed) : Nat → LS
  | 0 => { cs := [], rl := List.replicate who.toNat [], kn := List.replicate who.toNat 0#32, fr := tab firm.length fun j => 1#32 <<< j }
  | j + 1 => step who firm cls (w[j]?.getD dDeed) (run who firm cls w j)
structure Ok (who : Int) (n : Nat) (s : LS) (j : Nat) : Prop where
  rl : s.rl.length = who.toNat
  kn : s.kn.length = who.toNat
  fr : s.fr.length = n
  cs : s.cs.length = j
  rn : ∀ l ∈ s.rl, l.Nodup ∧ ∀ o ∈ l, 0 ≤ o ∧ o < n
theorem Ok.row {who : Int} {n : Nat} {s : LS} {j : Nat} (h : Ok who n s j) (i : Nat) : (s.rl[i]?.getD []).Nodup ∧ ∀ o ∈ s.rl[i]?.getD [], 0 ≤ o ∧ o < n := by
  cases e : s.rl[i]? with
  | none => simp
  | some l => exact h.rn l (List.mem_of_getElem? e)
theorem Ok.ite {who : Int} {n : Nat} {a b : LS} {j : Nat} (z : Bool) (h1 : z = true → Ok who n a j) (h2 : z = false → Ok who n b j) : Ok who n (bif z then a else b) j := by cases z; exact h2 rfl; exact h1 rfl
theorem step_ok {who : Int} {firm cls : List Int} {s : LS} {j : Nat} (d : Deed) (h : Ok who firm.length s j) : Ok who firm.length (step who firm cls d s) (j + 1) := by
  have hs : ∀ k, Ok who firm.length (say s k) (j + 1) := fun k => ⟨h.rl, h.kn, h.fr, by simp [say, h.cs], h.rn⟩
  unfold step
  refine .ite _ (fun _ => hs _) fun _ => .ite _ (fun _ => hs _) fun ha => .ite _ (fun _ => hs _) fun _ => .ite _ (fun _ => ⟨?_, ?_, ?_, ?_, ?_⟩) (fun _ => ⟨h.rl, h.kn, ?_, ?_, h.rn⟩)
  · simp [h.rl]
  · simp [h.kn]
  · exact h.fr
  · simp [h.cs]
  · intro l hl
    rcases List.mem_or_eq_of_mem_set hl with hl | rfl
    · exact h.rn l hl
    · obtain ⟨h1, h2⟩ := h.row d.by_.toNat
      unfold abad at ha
      simp only [Bool.or_eq_false_iff, decide_eq_false_iff_not] at ha
      by_cases hm : d.to ∈ s.rl[d.by_.toNat]?.getD []
      · rw [decide_eq_true hm, cond_true]; exact ⟨h1, h2⟩
      · rw [decide_eq_false hm, cond_false]
        refine ⟨?_, fun o ho => ?_⟩
        · rw [List.nodup_append]
          refine ⟨h1, by simp, fun a ha' b hb => ?_⟩
          rw [List.mem_singleton] at hb
          rintro rfl
          exact hm (hb ▸ ha')
        · rcases List.mem_append.1 ho with ho | ho
          · exact h2 o ho
          · rw [List.mem_singleton] at ho
            subst ho; omega
  · simp [h.fr]
  · simp [h.cs]
theorem run_ok (who : Int) (firm cls : List Int) (w : List Deed) (j : Nat) : Ok who firm.length (run who firm cls w j) j := by
  induction j with
  | zero => exact ⟨by simp [run], by simp [run], tab_len, rfl, fun l hl => by obtain ⟨_, rfl⟩ := List.mem_replicate.1 hl; simp⟩
  | succ j ih => exact step_ok _ ih
theorem at_in {α : Type} {xs : List α} {i : Int} (d : α) (h0 : 0 ≤ i) (h : i < xs.length) : geti xs i = some (xs[i.toNat]?.getD d) := by
  rw [geti_int h0 h, getd_at d (by omega)]

theorem any_eq (x : T38) (i : Int) (so : Int → Option Bool) (p : Int → Bool) (m : Wd) (hm : geti x.read i = some m) (hso : ∀ k (h : k < x.firm.length), 0 ≤ x.firm[k] → so x.firm[k] = some (p x.firm[k])) :
    wall_state_any (some x) i so = some (anyN x.firm.length fun k => m.getLsbD k && (decide (fz x.firm (k : Int) ≥ 0) && p (fz x.firm (k : Int)))) := by
  unfold wall_state_any
  rw [Option.bind_some]
  rw [for_out (n := x.firm.length) (fun k => m.getLsbD k && (decide (fz x.firm (k : Int) ≥ 0) && p (fz x.firm (k : Int)))) (some true) rfl (fun k nx hk => by
    unfold wall_state_any_b23
    rw [geti_at hk, Option.bind_some, hm, Option.bind_some, Int.toNat_natCast, bit_shr]
    have e : fz x.firm (k : Int) = x.firm[k] := by simp [fz, hk]
    rw [e]
    by_cases h0 : 0 ≤ x.firm[k]
    · rw [hso k hk h0]; simp only [Option.isSome_some, Bool.or_true, cond_true, Option.getD_some, Bool.and_assoc]
    · rw [decide_eq_false (p := x.firm[k] ≥ 0) (by omega)]
      simp)]
  unfold wall_state_any_k19
  cases anyN x.firm.length fun k => m.getLsbD k && (decide (fz x.firm (k : Int) ≥ 0) && p (fz x.firm (k : Int))) <;> rfl
theorem FO.fzOk {firm cls : List Int} (h : FO firm cls) (o : Int) : -1 ≤ fz firm o ∧ fz firm o < cls.length := by
  by_cases e : o.toNat < firm.length
  · have := h.ok _ e
    simpa [fz, e] using this
  · have : firm[o.toNat]? = none := List.getElem?_eq_none (by omega)
    simp only [fz, this, Option.getD_none]
    omega
theorem c1_eq {cls : List Int} {f own : Int} (x : T38) (hx : x.class_ = cls) (h0 : 0 ≤ f) (h1 : f < cls.length) (h2 : 0 ≤ own) (h3 : own < cls.length) : wall_state_do_c1 f own x = some ((f != own) && (kz cls f == kz cls own)) := by
  unfold wall_state_do_c1
  rw [hx, at_in 0 h0 h1, at_in 0 h2 h3]
  simp

theorem do_eq {who : Int} {firm cls : List Int} {s : LS} {j : Nat} (hw : 0 ≤ who) (hF : FO firm cls) (d : Deed) (h : Ok who firm.length s j) :
    wall_state_do { firm := firm, class_ := cls, read := s.rl.map mask, knows := s.kn, from_ := s.fr } d = some (((step who firm cls d s).cs[j]?.getD 0), { firm := firm, class_ := cls, read := (step who firm cls d s).rl.map mask, knows := (step who firm cls d s).kn, from_ := (step who firm cls d s).fr }) ∧ (step who firm cls d s).cs = s.cs ++ [(step who firm cls d s).cs[j]?.getD 0] := by
  have hc : ∀ k : Int, (s.cs ++ [k])[j]?.getD 0 = k := fun k => by rw [List.getElem?_append_right (by have := h.cs; omega), h.cs, Nat.sub_self]; rfl
  have hlen : (((s.rl.map mask).length : Nat) : Int) = who := by rw [List.length_map, h.rl]; omega
  unfold wall_state_do step say
  dsimp only
  cases hk : kbad d with
  | true =>
    unfold kbad at hk
    rw [hk, cond_true, cond_true]
    simp only [hc]; exact ⟨by first | rfl | trivial, by first | rfl | trivial⟩
  | false =>
    have hk' := hk
    unfold kbad at hk'
    rw [hk', cond_false, cond_false, hlen]
    cases ha : abad who firm d with
    | true =>
      unfold abad at ha
      simp only [ha, cond_true, hc]; exact ⟨by first | rfl | trivial, by first | rfl | trivial⟩
    | false =>
      have ha' := ha
      unfold abad at ha'
      simp only [ha', cond_false]
      simp only [Bool.or_eq_false_iff, decide_eq_false_iff_not] at ha'
      have hi0 : 0 ≤ d.by_ := by omega
      have hi1 : d.by_ < who := by omega
      have hrl := h.rl; have hkn := h.kn; have hfr := h.fr
      have ek := at_in (xs := s.kn) 0#32 hi0 (by omega)
      have ef := at_in (xs := s.fr) 0#32 (i := d.to) (by omega) (by omega)
      have eo : geti firm d.to = some (fz firm d.to) := at_in (-1) (by omega) (by omega)
      have er : geti (s.rl.map mask) d.by_ = some (mask (s.rl[d.by_.toNat]?.getD [])) := by
        rw [geti_int hi0 (by rw [hlen]; exact hi1), List.getElem_map, getd_at [] (by omega)]
      obtain ⟨hnd, hmem⟩ := h.row d.by_.toNat
      have hown := hF.fzOk d.to
      simp only [eo, Option.bind_some]
      cases e1 : d.kind == 1 with
      | true =>
        have e1' : d.kind = 1 := by simpa using e1
        simp only [cond_true]
        have hdeny : ∀ hown : 0 ≤ fz firm d.to, wall_state_any (some { firm := firm, class_ := cls, read := s.rl.map mask, knows := s.kn, from_ := s.fr }) d.by_ (fun a => wall_state_do_c1 a (fz firm d.to) { firm := firm, class_ := cls, read := s.rl.map mask, knows := s.kn, from_ := s.fr }) = some (deny firm cls d (s.rl[d.by_.toNat]?.getD [])) := by
          intro h2
          rw [any_eq _ _ _ (fun f => (f != fz firm d.to) && (kz cls f == kz cls (fz firm d.to))) _ er (fun k hk h0 => c1_eq _ rfl h0 (hF.ok k hk).2 h2 hown.2)]
          refine congrArg some ?_
          rw [deny_any hF.fl hmem (fun o => decide (fz firm o ≥ 0) && ((fz firm o != fz firm d.to) && (kz cls (fz firm o) == kz cls (fz firm d.to))))]
          unfold deny clash
          rw [e1]
          simp only [cond_true, decide_eq_true (show fz firm d.to ≥ 0 from h2), Bool.and_true, Bool.and_assoc]
        have hd0 : ¬ 0 ≤ fz firm d.to → deny firm cls d (s.rl[d.by_.toNat]?.getD []) = false := by
          intro h2
          unfold deny clash
          rw [List.any_eq_false]
          intro o _
          rw [e1, decide_eq_false (p := fz firm d.to ≥ 0) (by omega)]
          simp
        by_cases h2 : 0 ≤ fz firm d.to
        · simp only [hdeny h2, decide_eq_true (show fz firm d.to ≥ 0 from h2), Option.isSome_some, Bool.or_true, cond_true, Option.getD_some, Bool.true_and]
          cases hdn : deny firm cls d (s.rl[d.by_.toNat]?.getD []) with
          | true => simp only [cond_true, hc]; exact ⟨by first | rfl | trivial, by first | rfl | trivial⟩
          | false =>
            simp only [cond_false, er, ek, ef, Option.bind_some, decide_eq_true (show 0 ≤ d.to by omega), cond_true, hc, List.map_set, mask_in (n := firm.length) hF.fl (show 0 ≤ d.to by omega) (show d.to < firm.length by omega)]
            exact ⟨by first | rfl | trivial, by first | rfl | trivial⟩
        · simp only [hd0 h2, decide_eq_false (show ¬ fz firm d.to ≥ 0 by omega), Bool.false_and, cond_false]
          have : (!(false == true)) = true := rfl
          simp only [this, Bool.true_or, cond_true, er, ek, ef, Option.bind_some, decide_eq_true (show 0 ≤ d.to by omega), hc, List.map_set, mask_in (n := firm.length) hF.fl (show 0 ≤ d.to by omega) (show d.to < firm.length by omega)]
          exact ⟨by first | rfl | trivial, by first | rfl | trivial⟩
      | false =>
        simp only [cond_false]
        have hdeny : wall_state_any (some { firm := firm, class_ := cls, read := s.rl.map mask, knows := s.kn, from_ := s.fr }) d.by_ (fun a => wall_state_do_c2 a (fz firm d.to)) = some (deny firm cls d (s.rl[d.by_.toNat]?.getD [])) := by
          rw [any_eq _ _ _ (fun f => (f != fz firm d.to)) _ er (fun k hk h0 => rfl)]
          refine congrArg some ?_
          rw [deny_any hF.fl hmem (fun o => decide (fz firm o ≥ 0) && (fz firm o != fz firm d.to))]
          unfold deny clash
          rw [e1]
          rfl
        simp only [hdeny, Option.bind_some]
        cases hdn : deny firm cls d (s.rl[d.by_.toNat]?.getD []) with
        | true => simp only [cond_true, hc]; exact ⟨by first | rfl | trivial, by first | rfl | trivial⟩
        | false =>
          simp only [cond_false, ek, ef, Option.bind_some, hc]
          exact ⟨by first | rfl | trivial, by first | rfl | trivial⟩

theorem play_eq {who : Int} {firm cls : List Int} (w : List Deed) (h1 : 1 ≤ who) (h2 : who ≤ 5) (h3 : w.length ≤ 30) (hF : FO firm cls) (hr : wall_wrong firm cls = some 0) :
    wall_Play who firm cls w = some ({ codes := (run who firm cls w w.length).cs, read := (run who firm cls w w.length).rl.map mask, src := (run who firm cls w w.length).fr }, 0) := by
  have hf := hF.fl
  unfold wall_Play
  rw [decide_eq_false (p := who < 1) (by omega), decide_eq_false (p := who > 5) (by omega), decide_eq_false (p := (w.length : Int) > 30) (by omega)]
  simp only [Bool.or_self, cond_false, hr, Option.bind_some, bne_self_eq_false]
  rw [decide_eq_true (by omega), cond_true, decide_eq_true (by omega), cond_true]
  rw [for_apps (n := firm.length) (fun j => [1#32 <<< j]) rfl (fun j s nx hj hs => by
    unfold wall_Play_b513
    have : s.length = j := by rw [hs]; exact apps_one_len
    rw [decide_eq_true (by simp only [List.length_cons, List.length_nil]; omega), cond_true, Int.toNat_natCast])]
  unfold wall_Play_k459
  rw [for_rec (s := (([] : List Int), List.replicate who.toNat 0#32, List.replicate who.toNat 0#32, apps firm.length fun j => [1#32 <<< j])) (n := w.length) (fun j => ((run who firm cls w j).cs, (run who firm cls w j).kn, (run who firm cls w j).rl.map mask, (run who firm cls w j).fr)) rfl (by
      simp only [run, List.map_replicate, mask_nil]; rfl) (fun j nx hj => by
    unfold wall_Play_b498
    dsimp only
    rw [geti_d dDeed hj, Option.bind_some]
    have ho := run_ok who firm cls w j
    obtain ⟨e1, e2⟩ := do_eq (by omega) hF (w[j]?.getD dDeed) ho
    change (wall_state_do _ (w[j]?.getD dDeed)).bind _ = _
    rw [e1, Option.bind_some]
    dsimp only
    rw [decide_eq_true (by have := ho.cs; simp only [List.length_cons, List.length_nil]; omega), cond_true]
    rw [← e2]
    rfl)]
  rfl

/-! ### The document's -/
theorem set_in {α : Type} {xs : List α} {i : Int} {y : α} (h0 : 0 ≤ i) (h : i < xs.length) : geti (xs.set i.toNat y) i = some y := by
  rw [geti_int h0 (by rw [List.length_set]; exact h)]
  simp
theorem ref_step {who : Int} {firm cls : List Int} {s : LS} {j : Nat} (hw : 0 ≤ who) (hF : FO firm cls) (d : Deed) (h : Ok who firm.length s j) (hj : j ≤ 1000) (w : List Deed) (i : Int) (hwi : geti w i = some d) (nx : (List Wd × List (List Int) × List Wd × List Int) → Option Walled) :
    syllogistref_Wall_b106 who firm cls w i s.kn s.rl s.fr s.cs nx = nx ((step who firm cls d s).kn, (step who firm cls d s).rl, (step who firm cls d s).fr, (step who firm cls d s).cs) := by
  have hcs := h.cs
  have hr : ∀ k : Int, decide (s.cs.length + ([k] : List Int).length ≤ 17592186044416) = true := fun k => decide_eq_true (by simp only [List.length_cons, List.length_nil]; omega)
  have h84 : ∀ e a b z, syllogistref_Wall_k122 s.cs nx e a b z = nx (a, b, z, s.cs ++ [e]) := fun e a b z => by unfold syllogistref_Wall_k122; rw [hr, cond_true]
  have hfl := hF.fl
  unfold syllogistref_Wall_b106 step say
  rw [hwi, Option.bind_some]
  cases hk : kbad d with
  | true =>
    unfold kbad at hk
    rw [hk, cond_true, cond_true, h84]
  | false =>
    have hk' := hk
    unfold kbad at hk'
    rw [hk', cond_false, cond_false]
    cases ha : abad who firm d with
    | true =>
      unfold abad at ha
      simp only [ha, cond_true, h84]
    | false =>
      have ha' := ha
      unfold abad at ha'
      simp only [ha', cond_false]
      simp only [Bool.or_eq_false_iff, decide_eq_false_iff_not] at ha'
      have hi0 : 0 ≤ d.by_ := by omega
      have hi1 : d.by_ < who := by omega
      have hrl := h.rl; have hkn := h.kn; have hfr := h.fr
      have ek := at_in (xs := s.kn) 0#32 hi0 (by omega)
      have ef := at_in (xs := s.fr) 0#32 (i := d.to) (by omega) (by omega)
      have eo : geti firm d.to = some (fz firm d.to) := at_in (-1) (by omega) (by omega)
      have er := at_in (xs := s.rl) [] hi0 (by omega)
      obtain ⟨hnd, hmem⟩ := h.row d.by_.toNat
      have hlen := nodup_lenG (t := natsI firm.length) hnd (fun x hx => natsI_mem.2 (hmem x hx))
      rw [natsI_len] at hlen
      simp only [eo, er, Option.bind_some]
      rw [decide_eq_true (by omega), cond_true]
      have hown := hF.fzOk d.to
      have hk12 : d.kind = 1 ∨ d.kind = 2 := by
        rw [Bool.and_eq_false_iff] at hk'
        rcases hk' with hk' | hk'
        · left; simpa using hk'
        · right; simpa using hk'
      generalize hL : s.rl[d.by_.toNat]?.getD [] = L at *
      rw [for_rec (s := (0 : Int)) (n := L.length) (fun k => bif anyN k (fun i => clash cls d.kind (fz firm d.to) (fz firm (L[i]?.getD 0))) then 7 else 0) rfl rfl (fun k nx' hk2 => by
        unfold syllogistref_Wall_b186
        have hm := hmem _ (List.getElem_mem hk2)
        have hfo := hF.fzOk L[k]
        have e5 : geti firm L[k] = some (fz firm L[k]) := at_in (-1) hm.1 hm.2
        rw [geti_at hk2, Option.bind_some, e5, Option.bind_some]
        have e : L[k]?.getD 0 = L[k] := by rw [List.getElem?_eq_getElem hk2]; rfl
        change _ = nx' (bif (anyN k (fun i => clash cls d.kind (fz firm d.to) (fz firm (L[i]?.getD 0))) || clash cls d.kind (fz firm d.to) (fz firm (L[k]?.getD 0))) then 7 else 0)
        rw [e]
        generalize anyN k (fun i => clash cls d.kind (fz firm d.to) (fz firm (L[i]?.getD 0))) = A at *
        generalize fz firm L[k] = f at *
        generalize fz firm d.to = own at *
        unfold clash
        rcases hk12 with hk1 | hk1
        · rw [hk1]
          have e2 : ((1 : Int) == 2) = false := rfl
          have e3 : ((1 : Int) == 1) = true := rfl
          rw [e2, e3, cond_true]
          by_cases hf0 : 0 ≤ f
          · by_cases ho0 : 0 ≤ own
            · rw [at_in 0 hf0 hfo.2, at_in 0 ho0 hown.2]
              simp only [Option.isSome_some, Bool.or_true, cond_true, Option.getD_some, Bool.true_and, Bool.false_and, Bool.or_false]
              cases (((decide (f ≥ 0) && decide (own ≥ 0)) && (f != own)) && (kz cls f == kz cls own)) <;> simp
            · rw [decide_eq_false (p := own ≥ 0) (by omega)]
              simp
          · rw [decide_eq_false (p := f ≥ 0) (by omega)]
            simp
        · rw [hk1]
          have e2 : ((2 : Int) == 2) = true := rfl
          have e3 : ((2 : Int) == 1) = false := rfl
          rw [e2, e3, cond_false]
          simp only [Bool.false_and, Bool.true_and, Bool.false_or]
          have : (!(false == true)) = true := rfl
          simp only [this, Bool.true_or, cond_true]
          cases (decide (f ≥ 0) && (f != own)) <;> simp)]
      have hany : anyN L.length (fun i => clash cls d.kind (fz firm d.to) (fz firm (L[i]?.getD 0))) = deny firm cls d L := by
        unfold deny
        rw [any_len]
        exact anyN_congr fun i hi => by rw [List.getElem?_eq_getElem hi]; rfl
      rw [hany]
      cases hdn : deny firm cls d L with
      | true =>
        unfold syllogistref_Wall_k139 syllogistref_Wall_k147
        rcases hk12 with hk1 | hk1 <;> · rw [hk1]; simp [h84]
      | false =>
        unfold syllogistref_Wall_k139
        rcases hk12 with hk1 | hk1
        · rw [hk1]
          simp only [cond_false, beq_self_eq_true, Bool.and_self, cond_true, er, Option.bind_some, hasZ]
          have hset : ∀ z, syllogistref_Wall_k163 s.kn s.fr s.cs nx d 0 z = nx (s.kn.set d.by_.toNat (s.kn[d.by_.toNat]?.getD 0#32 ||| s.fr[d.to.toNat]?.getD 0#32), z, s.fr, s.cs ++ [0]) := fun z => by
            unfold syllogistref_Wall_k163 syllogistref_Wall_k147
            rw [ek, Option.bind_some, ef, Option.bind_some, hk1]
            simp [h84]
          by_cases hm : d.to ∈ L
          · rw [decide_eq_true hm]
            simp only [Bool.not_true, cond_false, cond_true, hset]
            have : s.rl.set d.by_.toNat L = s.rl := by
              rw [← hL, getd_at [] (by omega), List.set_getElem_self]
            rw [this]
          · rw [decide_eq_false hm]
            simp only [Bool.not_false, cond_false, cond_true, hset]
            rw [decide_eq_true (by simp only [List.length_cons, List.length_nil]; omega), cond_true]
        · rw [hk1]
          have e3 : ((2 : Int) == 1) = false := rfl
          simp only [cond_false, beq_self_eq_true, Bool.and_self, cond_true, e3, Bool.and_false]
          unfold syllogistref_Wall_k147
          rw [ek, ef, hk1]
          simp [h84]

theorem sum_eq {n : Nat} (hn : n ≤ 8) {L : List Int} (h1 : L.Nodup) (h2 : ∀ o ∈ L, 0 ≤ o ∧ o < n) (k : BitVec 32 → Option Walled) :
    forK (σ := (BitVec 32)) (fun i s nx_ => syllogistref_Wall_b99 L i s nx_) k ((L.length : Int) - (0 : Int)).toNat (0 : Int) (0#32) = k (mask L) := by
  rw [for_rec (s := 0#32) (n := L.length) (fun j => mask (L.take j)) rfl (by rw [List.take_zero, mask_nil]) (fun j nx hj => by
    unfold syllogistref_Wall_b99
    have hm := h2 _ (List.getElem_mem hj)
    rw [geti_at hj, Option.bind_some]
    have e : (BitVec.ofInt 64 L[j]).toNat = L[j].toNat := by
      have := ofInt64 (n := L[j].toNat) (by omega)
      rwa [Int.toNat_of_nonneg hm.1] at this
    rw [e, ← List.take_append_getElem hj, mask_add hn hm.1 hm.2]
    intro hin
    have hnd := h1
    rw [← List.take_append_drop j L, List.nodup_append] at hnd
    have hd : L[j] ∈ L.drop j := by rw [List.drop_eq_getElem_cons hj]; exact List.mem_cons_self
    exact hnd.2.2 _ hin _ hd rfl), List.take_length]

theorem wall_eq {who : Int} {firm cls : List Int} (w : List Deed) (h1 : 1 ≤ who) (h2 : who ≤ 5) (h3 : w.length ≤ 30) (hF : FO firm cls) :
    syllogistref_Wall who firm cls w = some { codes := (run who firm cls w w.length).cs, read := (run who firm cls w w.length).rl.map mask, src := (run who firm cls w w.length).fr } := by
  have hf := hF.fl
  unfold syllogistref_Wall
  rw [decide_eq_true (by omega), cond_true, cond_true]
  rw [for_apps (n := firm.length) (fun j => [1#32 <<< j]) rfl (fun j s nx hj hs => by
    unfold syllogistref_Wall_b197
    have : s.length = j := by rw [hs]; exact apps_one_len
    rw [decide_eq_true (by simp only [List.length_cons, List.length_nil]; omega), cond_true, ofInt64 (by omega)])]
  unfold syllogistref_Wall_k25
  rw [for_rec (s := (List.replicate who.toNat 0#32, List.replicate who.toNat ([] : List Int), (apps firm.length fun j => [1#32 <<< j]), ([] : List Int))) (n := w.length) (fun j => ((run who firm cls w j).kn, (run who firm cls w j).rl, (run who firm cls w j).fr, (run who firm cls w j).cs)) rfl rfl (fun j nx hj => by
    dsimp only
    rw [ref_step (by omega) hF (w[j]?.getD dDeed) (run_ok who firm cls w j) (by omega) w j (geti_d dDeed hj)]
    rfl)]
  unfold syllogistref_Wall_k59
  have ho := run_ok who firm cls w w.length
  generalize run who firm cls w w.length = s at *
  dsimp only
  have hrl := ho.rl
  rw [for_rec (s := ([] : List (BitVec 32))) (n := s.rl.length) (fun j => (s.rl.take j).map mask) rfl (by simp) (fun j nx hj => by
    unfold syllogistref_Wall_b79
    obtain ⟨h4, h5⟩ := ho.rn _ (List.getElem_mem hj)
    have hlen := nodup_lenG (t := natsI firm.length) h4 (fun x hx => natsI_mem.2 (h5 x hx))
    rw [natsI_len] at hlen
    rw [geti_at hj, Option.bind_some, decide_eq_true (by omega), cond_true, sum_eq hF.fl h4 h5]
    unfold syllogistref_Wall_k91
    rw [decide_eq_true (by simp only [List.length_map, List.length_take, List.length_cons, List.length_nil]; omega), cond_true, ← List.take_append_getElem hj, List.map_append]
    rfl), List.take_length]
  rfl

theorem codes_rf (a : List Int) : syllogistref_Codes a a = some true := by
  unfold syllogistref_Codes syllogistref_Codes_b7 syllogistref_Codes_k3
  rw [lists_eq a a, decide_eq_true rfl]
theorem words_rf (a : List (BitVec 32)) : syllogistref_Words a a = some true := by
  unfold syllogistref_Words syllogistref_Words_b7 syllogistref_Words_k3
  rw [lists_eq a a, decide_eq_true rfl]

theorem wallPlays_true (who : Int) (firm cls : List Int) (w : List Deed) : syllogistlaw_WallPlays who firm cls w = some true := by
  obtain ⟨r, e1, e2, hF⟩ := fcheck firm cls
  unfold syllogistlaw_WallPlays
  rw [e2]
  have hbad : ∀ r4 x, r4 = (({ codes := [], read := [], src := [] } : Walled), x) → x ≠ 0 → syllogistlaw_WallPlays_k18 who firm cls w r4 x = some true := by
    rintro _ x rfl hx
    unfold syllogistlaw_WallPlays_k18 syllogistlaw_WallPlays_k35
    rw [beq_eq_false_iff_ne.2 hx, cond_false]
    simp [codes_rf, words_rf]
  cases hb : (((decide (who < (1 : Int))) || (decide (who > (5 : Int)))) || (decide ((w.length : Int) > (30 : Int)))) with
  | true =>
    have : wall_Play who firm cls w = some ({ codes := [], read := [], src := [] }, 1) := by unfold wall_Play; rw [hb, cond_true]
    rw [this]
    simp only [Option.bind_some, cond_true]
    exact hbad _ _ rfl (by decide)
  | false =>
    simp only [Option.bind_some, cond_false]
    by_cases hr : r = 0
    · have hb' := hb
      simp only [Bool.or_eq_false_iff, decide_eq_false_iff_not] at hb'
      subst hr
      rw [play_eq w (by omega) (by omega) (by omega) (hF rfl) e1]
      simp only [Option.bind_some]
      unfold syllogistlaw_WallPlays_k18 syllogistlaw_WallPlays_k35
      rw [beq_self_eq_true, cond_true, wall_eq w (by omega) (by omega) (by omega) (hF rfl)]
      simp [codes_rf, words_rf]
    · have : wall_Play who firm cls w = some ({ codes := [], read := [], src := [] }, r) := by
        unfold wall_Play
        rw [hb, cond_false, e1, Option.bind_some, show (r != 0) = true from by simpa using hr, cond_true]
      rw [this]
      simp only [Option.bind_some]
      exact hbad _ _ rfl hr
end Go.Proofs.Ytajgcmeegencoaa.Sy
