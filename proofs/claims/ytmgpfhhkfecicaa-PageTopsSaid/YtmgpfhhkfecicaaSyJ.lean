/- From the rows' readings to the walks' slices, and back (own lemmas); the conditions stand in each lemma. -/
import Derived.Test.YtmgpfhhkfecicaaSyI
import Derived.ProofKit
import Derived.Deep.Slices
import Derived.Deep.Fields
namespace Go.Proofs.Ytmgpfhhkfecicaa.Sy
open Go Go.ChangeShapes Go.WideShapes Go.ChangeAt Go.RowKit Go.Deep

def snapW (W : World) : Snap := fun b => W.heap[b]?

theorem cX_start (W : World) : cX W ⟨snapW W, []⟩ W :=
  ⟨snapW W, .refl _, [], rfl, rfl, rfl, fun _ _ h => h, fun _ h => by simp at h, fun _ h => by simp at h, by simp⟩

theorem cX_kept {W W' : World} (h : cX W ⟨snapW W, []⟩ W') : W'.os = W.os ∧ W'.output = W.output ∧ ∀ b, b < W.heap.size → W'.heap[b]? = W.heap[b]? := by
  obtain ⟨m', hm, L, _, hp⟩ := h
  refine ⟨hp.os, hp.out, fun b hb => ?_⟩
  have : snapW W b = some W.heap[b] := Array.getElem?_eq_getElem hb
  exact (hp.imm b _ (hm b _ this)).trans this.symm

section
variable {H : Type} {enc : TypeId × Value → H} {P : Program}

theorem sameAt_kept {W W' : World} (h : ∀ b, b < W.heap.size → W'.heap[b]? = W.heap[b]?) {p : MemPlace} (hp : p.block < W.heap.size) : W.sameAt W' p := by
  cases p with
  | cell b o => exact World.cell?_of_block (w := W) (h b hp)
  | map b => exact h b hp

theorem args_stay (hl : laidOutB P = true) {W W' : World} {sp' : Nat → Bool} : ∀ {ts : List TypeId} {vs : List Value} {ds : List (DataW H)} {ps : List MemPlace},
    ts.all (fun t => P.readableRec t && decide (t < P.types.size)) = true → DataW.TrodAll enc P W 0 (fun _ => true) true ts vs ds ps → (∀ p ∈ ps, W.sameAt W' p) → (∀ p ∈ ps, sp' p.block = true) →
    DataW.TrodAll enc P W' 0 sp' true ts vs ds ps
  | [], [], [], _, _, h, _, _ => h
  | t :: ts, v :: vs, d :: ds, ps, hts, h, h1, h2 => by
    obtain ⟨p, q, ha, hb, rfl⟩ := h
    simp only [List.all_cons, Bool.and_eq_true, decide_eq_true_eq] at hts
    exact ⟨p, q, WideElems.Trod_stays hl hts.1.1 hts.1.2 ha (fun x hx => h1 x (List.mem_append_left _ hx)) (fun x hx => h2 x (List.mem_append_left _ hx)),
      args_stay hl hts.2 hb (fun x hx => h1 x (List.mem_append_right _ hx)) (fun x hx => h2 x (List.mem_append_right _ hx)), rfl⟩
  | [], _ :: _, _, _, _, h, _, _ | [], [], _ :: _, _, _, h, _, _ | _ :: _, [], _, _, _, h, _, _ | _ :: _, _ :: _, [], _, _, h, _, _ => by cases h

theorem post_law {fn : Func} {s : ChangeSpec} {apart fresh handsOn : Bool} {W W' : World} {args : Array Value} {ds gs : List (DataW H)} {before : List MemPlace} {bt : TypeId}
    (hW : DataW.Whole enc P fn.params.toList s.vars apart W args.toList ds gs before) (hv : s.vars = [])
    (hf : s.fn H (ds ++ gs) = { results := [.lit (.bool true)], args := ds }) (hl : laidOutB P = true)
    (hts : fn.params.toList.all (fun t => P.readableRec t && decide (t < P.types.size)) = true)
    (hres : fn.resultTypes = #[bt]) (hbt : P.underlying bt = some .bool) (hc : cX W ⟨snapW W, []⟩ W') :
    s.post enc P fn apart fresh handsOn false W args (.bool true) W' := by
  obtain ⟨ho, hout, hb⟩ := cX_kept hc
  have hlt : ∀ p ∈ before, p.block < W.heap.size := fun p hp => by simpa using hW.lt p hp
  obtain ⟨p, q, hA, hV, hpq, h1, h2⟩ := hW
  have hV' := hV
  rw [hv] at hV'
  obtain ⟨rfl, rfl⟩ := trodVars_none hV'
  rw [List.append_nil] at hpq
  subst hpq
  refine ⟨ds, [], before, [], before, [], ⟨before, [], hA, hV, (List.append_nil _).symm, h1, h2⟩, ?_, ?_, ?_, ?_, fun h => by cases h⟩
  · rw [hf, hres]
    exact trodAll_mk1 (shut_bool hbt true)
  · rw [hf]
    exact args_stay hl hts hA (fun x hx => sameAt_kept hb (hlt x hx)) (fun x hx => by simpa using hlt x hx)
  · rw [hf, hv]; rfl
  · refine ⟨ho, hout, fun i hi => ?_⟩
    rw [hb i hi]
    split <;> simp_all

/-! ### Readings -/
def Opn {α : Type} (P : Program) (R : Rp α) (good : α → Prop) (t : TypeId) : Prop :=
  ∀ (H : Type) (enc : TypeId × Value → H) (W : World) (fuel : Nat) (cs : List Value) (y : DataW H × List MemPlace), DataW.trod enc P W 0 (fun _ => true) true fuel t cs = some y → ∃ x, R.r (snapW W) cs x ∧ good x

def inI (n : Int) : Prop := -9223372036854775808 ≤ n ∧ n ≤ 9223372036854775807

theorem opn_int {t : TypeId} (ht : P.underlying t = some (.int .i64)) : Opn P rI inI t := by
  intro H enc W fuel cs y h
  obtain ⟨n, rfl, _, hw⟩ := DataW.trod_int ht h
  refine ⟨n, rfl, ?_⟩
  simp [Lit.wf, IntKind.min, IntKind.max, IntKind.bits, IntKind.signed] at hw
  unfold inI
  omega

theorem opn_u32 {t : TypeId} (ht : P.underlying t = some (.int .u32)) : Opn P rU (fun _ => True) t := by
  intro H enc W fuel cs y h
  obtain ⟨n, rfl, _, hw⟩ := DataW.trod_int ht h
  refine ⟨BitVec.ofInt 32 n, ?_, trivial⟩
  simp [Lit.wf, IntKind.min, IntKind.max, IntKind.bits, IntKind.signed] at hw
  show [Value.int .u32 n] = [Value.int .u32 _]
  congr 2
  rw [BitVec.toNat_ofInt]
  omega

theorem opn_u8 {t : TypeId} (ht : P.underlying t = some (.int .u8)) : Opn P rY (fun _ => True) t := by
  intro H enc W fuel cs y h
  obtain ⟨n, rfl, _, hw⟩ := DataW.trod_int ht h
  refine ⟨BitVec.ofInt 8 n, ?_, trivial⟩
  simp [Lit.wf, IntKind.min, IntKind.max, IntKind.bits, IntKind.signed] at hw
  show [Value.int .u8 n] = [Value.int .u8 _]
  congr 2
  rw [BitVec.toNat_ofInt]
  omega

theorem opn_bool {t : TypeId} (ht : P.underlying t = some .bool) : Opn P rB (fun _ => True) t := by
  intro H enc W fuel cs y h
  obtain ⟨b, rfl, _⟩ := DataW.trod_bool ht h
  exact ⟨b, rfl, trivial⟩

theorem trod_arr {W : World} {fuel : Nat} {cs : List Value} {x : DataW H × List MemPlace} {sp : Nat → Bool} {t : TypeId} {n : Nat} {e : TypeId} (ht : P.underlying t = some (.array n e)) (h : DataW.trod enc P W 0 sp true fuel t cs = some x) :
    ∃ (xs : List (DataW H × List MemPlace)) (m : Nat), cs.length = P.cellsOf t ∧ xs.length = n ∧
      ∀ (i : Nat), i < n → DataW.trod enc P W 0 sp true m e ((cs.drop (i * P.cellsOf e)).take (P.cellsOf e)) = xs[i]? := by
  cases fuel with
  | zero => simp [DataW.trod] at h
  | succ m =>
    unfold DataW.trod at h
    rw [ht] at h
    split at h <;> simp_all
    obtain ⟨hl, xs, hp, hd⟩ := h
    exact ⟨xs, by simpa using mapM_some_length hp, m, fun i hi => mapM_some_get hp i i (by simp [hi])⟩

theorem opn_pair {t e : TypeId} (ht : P.underlying t = some (.array 2 e)) (he : P.underlying e = some (.int .i64)) (hc : P.cellsOf e = 1) (hc2 : P.cellsOf t = 2) : Opn P rP (fun p => inI p.1 ∧ inI p.2) t := by
  intro H enc W fuel cs y h
  obtain ⟨xs, m, hl, hxl, hi⟩ := trod_arr ht h
  rw [hc2] at hl
  have h0 := hi 0 (by omega)
  have h1 := hi 1 (by omega)
  rw [hc] at h0 h1
  match cs, hl with
  | [a, b], _ =>
    match xs, hxl with
    | [x, z], _ =>
      obtain ⟨n, e0, g0⟩ := opn_int he H enc W m _ _ h0
      obtain ⟨k, e1, g1⟩ := opn_int he H enc W m _ _ h1
      have e0' : [a] = encI n := e0
      have e1' : [b] = encI k := e1
      cases e0'; cases e1'
      exact ⟨(n, k), rfl, g0, g1⟩

theorem exists_list {α : Type} {n : Nat} {Q : Nat → α → Prop} (h : ∀ i, i < n → ∃ x, Q i x) : ∃ xs : List α, xs.length = n ∧ ∀ i (hi : i < xs.length), Q i xs[i] := by
  induction n with
  | zero => exact ⟨[], rfl, fun i hi => absurd hi (by simp)⟩
  | succ n ih =>
    obtain ⟨xs, hl, hx⟩ := ih fun i hi => h i (by omega)
    obtain ⟨x, hx'⟩ := h n (by omega)
    refine ⟨xs ++ [x], by simp [hl], fun i hi => ?_⟩
    rw [List.getElem_append]
    split
    · exact hx i _
    · have : i = n := by simp at hi; omega
      subst this; simpa using hx'

theorem opn_slice {α : Type} {R : Rp α} {g : α → Prop} {t e : TypeId} (ht : P.underlying t = some (.slice e)) (hc : P.cellsOf e = R.n) (hn : 0 < R.n) (he : Opn P R g e) : Opn P R.slice (fun xs => ∀ x ∈ xs, g x) t := by
  intro H enc W fuel cs y h
  rcases open_slice ht h with ⟨rfl, _⟩ | ⟨a, len, cap, m, n, D, Pl, rfl, _, hl, hm, hmm, _, hi⟩
  · exact ⟨[], ⟨_, rfl, RS.nil _ _⟩, by simp⟩
  · have hall : ∀ i, i < len → ∃ x, ∃ cs', (R.r (snapW W) cs' x ∧ g x) ∧ ∀ j, j < R.n → ((a.add (i * R.n)).add j).spot = none ∧ cellM (snapW W) a.block (a.off + i * R.n + j) = cs'[j]? := by
      intro i hilt
      obtain ⟨cs', hcs, htr⟩ := hi i (by rw [hmm, if_pos rfl]; omega)
      obtain ⟨x, hx, hg⟩ := he H enc W n cs' _ htr
      refine ⟨x, cs', ⟨hx, hg⟩, fun j hj => ?_⟩
      obtain ⟨_, hlen, hat⟩ := World.cells?_some hcs
      rw [hc] at hlen hat
      have hh := hat j hj
      have hsome : cs'[j]? = some (cs'[j]'(by omega)) := List.getElem?_eq_getElem (by omega)
      rw [hsome] at hh ⊢
      have hadd : ((a.add (i * R.n)).add j).block = a.block ∧ ((a.add (i * R.n)).add j).off = a.off + i * R.n + j := by
        unfold Addr.add
        split <;> split <;> simp_all
      generalize (a.add (i * R.n)).add j = A at hadd hh ⊢
      obtain ⟨b, o, sp⟩ := A
      obtain ⟨hb, ho⟩ := hadd
      simp only at hb ho
      subst hb
      unfold World.cell? at hh
      unfold cellM snapW
      simp only at hh
      cases hw : W.heap[a.block]? with
      | none => simp [hw] at hh
      | some ob =>
        rw [hw] at hh
        cases ob with
        | cells c t fr =>
          simp only at hh ⊢
          cases sp with
          | none => exact ⟨rfl, by rw [← ho]; simpa using hh⟩
          | some _ => simp at hh
        | _ => simp at hh
    have this : ∀ i, i < len → ∃ x, ∃ cs, (R.r (snapW W) cs x ∧ g x) ∧ At (snapW W) (.slice (some a) len cap) (i * R.n) cs := by
      intro i hilt
      obtain ⟨x, cs', hx, hcell⟩ := hall i hilt
      have hspot : a.spot = none := by
        obtain ⟨_, _, _, h0⟩ := hall 0 (by omega)
        have := (h0 0 hn).1
        simpa [Addr.add] using this
      have hcl : cs'.length = R.n := R.len _ _ _ hx.1
      refine ⟨x, cs', hx, ?_⟩
      obtain ⟨ab, ao, asp⟩ := a
      simp only at hspot
      subst hspot
      refine ⟨ab, ao, len, cap, rfl, fun j u hu => ?_⟩
      have hj : j < R.n := by
        have := (List.getElem?_eq_some_iff.1 hu).1
        omega
      rw [← hu]
      exact (hcell j hj).2
    obtain ⟨xs, hxl, hx⟩ := exists_list this
    subst hxl
    refine ⟨xs, ⟨_, rfl, ⟨_, _, rfl⟩, by have : maxLen = 9223372036854775807 := rfl; omega, fun i hi' => ?_⟩, fun x hx' => ?_⟩
    · obtain ⟨cs, h1, h2⟩ := hx i hi'
      exact ⟨cs, h1.1, h2⟩
    · obtain ⟨i, hi', rfl⟩ := List.getElem_of_mem hx'
      obtain ⟨cs, h1, _⟩ := hx i hi'
      exact h1.2

theorem trodAllC {W : World} {t : TypeId} {ts : List TypeId} {vs : List Value} {ds : List (DataW H)} {ps : List MemPlace} {sp : Nat → Bool} (h : DataW.TrodAll enc P W 0 sp true (t :: ts) vs ds ps) :
    ∃ v vs' d ds' p q, vs = v :: vs' ∧ ds = d :: ds' ∧ DataW.Trod enc P W 0 sp true t v d p ∧ DataW.TrodAll enc P W 0 sp true ts vs' ds' q := by
  match vs, ds, h with
  | v :: vs, d :: ds, ⟨p, q, h1, h2, _⟩ => exact ⟨v, vs, d, ds, p, q, rfl, rfl, h1, h2⟩
  | [], _, h => cases h
  | _ :: _, [], h => cases h
theorem trodAllN {W : World} {vs : List Value} {ds : List (DataW H)} {ps : List MemPlace} {sp : Nat → Bool} (h : DataW.TrodAll enc P W 0 sp true [] vs ds ps) : vs = [] ∧ ds = [] := by
  match vs, ds, h with
  | [], [], _ => exact ⟨rfl, rfl⟩
  | [], _ :: _, h => cases h
  | _ :: _, _, h => cases h

variable {W : World} {r : Reach} {b0 : Nat} {t : TypeId} {v : Value} {d : DataW H} {p : List MemPlace}
theorem arg_int (ht : P.underlying t = some (.int .i64)) (hval : Value.okWide P W r b0 t v) (hd : DataW.Trod enc P W 0 (fun _ => true) true t v d p) : ∃ n : Int, v = .int .i64 n ∧ inI n := by
  obtain ⟨n, rfl⟩ := okWide_int ht hval
  obtain ⟨fuel, hf⟩ := hd
  obtain ⟨x, hx, hg⟩ := opn_int ht H enc W fuel _ _ hf
  cases (hx : [Value.int .i64 n] = encI x)
  exact ⟨_, rfl, hg⟩
theorem arg_u32 (ht : P.underlying t = some (.int .u32)) (hval : Value.okWide P W r b0 t v) (hd : DataW.Trod enc P W 0 (fun _ => true) true t v d p) : ∃ n : BitVec 32, v = .int .u32 (n.toNat : Int) := by
  obtain ⟨n, rfl⟩ := okWide_int ht hval
  obtain ⟨fuel, hf⟩ := hd
  obtain ⟨x, hx, hg⟩ := opn_u32 ht H enc W fuel _ _ hf
  cases (hx : [Value.int .u32 n] = encU x)
  exact ⟨_, rfl⟩
theorem arg_u8 (ht : P.underlying t = some (.int .u8)) (hval : Value.okWide P W r b0 t v) (hd : DataW.Trod enc P W 0 (fun _ => true) true t v d p) : ∃ n : BitVec 8, v = .int .u8 (n.toNat : Int) := by
  obtain ⟨n, rfl⟩ := okWide_int ht hval
  obtain ⟨fuel, hf⟩ := hd
  obtain ⟨x, hx, hg⟩ := opn_u8 ht H enc W fuel _ _ hf
  cases (hx : [Value.int .u8 n] = encY x)
  exact ⟨_, rfl⟩
theorem arg_bool (ht : P.underlying t = some .bool) (hval : Value.okWide P W r b0 t v) : ∃ n : Bool, v = .bool n := okWide_bool ht hval
theorem arg_slice {α : Type} {R : Rp α} {g : List α → Prop} {e : TypeId} (ht : P.underlying t = some (.slice e)) (ho : Opn P R.slice g t) (hval : Value.okWide P W r b0 t v) (hd : DataW.Trod enc P W 0 (fun _ => true) true t v d p) : ∃ xs : List α, RS R (snapW W) v xs ∧ g xs := by
  obtain ⟨a, l, c, rfl⟩ := okWide_slice ht hval
  obtain ⟨fuel, hf⟩ := hd
  obtain ⟨x, ⟨v', hv, hx⟩, hg⟩ := ho H enc W fuel _ _ hf
  cases (hv : [Value.slice a l c] = [v'])
  exact ⟨_, hx, hg⟩
theorem arg_agg {α : Type} {R : Rp α} {g : α → Prop} {fs : Array Field} (ht : P.underlying t = some (.struct fs)) (ho : Opn P R g t) (hval : Value.okWide P W r b0 t v) (hd : DataW.Trod enc P W 0 (fun _ => true) true t v d p) : ∃ (cs : List Value) (x : α), v = .agg cs.toArray ∧ R.r (snapW W) cs x ∧ g x := by
  obtain ⟨cs, rfl, _⟩ := okWide_struct ht hval
  obtain ⟨fuel, hf⟩ := hd
  obtain ⟨x, hx, hg⟩ := ho H enc W fuel _ _ hf
  exact ⟨cs.toList, x, rfl, hx, hg⟩
end
end Go.Proofs.Ytmgpfhhkfecicaa.Sy
