/- Pairs of states, one behind the other, and the first word that leads to one that leaks: the plain law of view.Leak; no program in sight. -/
import Derived.Test.YtbbenieabpmghaaM11
namespace Go.Proofs.Ytbbenieabpmghaa.Sy
set_option linter.unusedVariables false

/-! ### Words and their numbers -/
abbrev Pr := Nat × Nat
abbrev Wo := List (Nat × Nat)
theorem snoc_cases {α : Type} (w : List α) : w = [] ∨ ∃ x l, w = x ++ [l] := by
  cases e : w.reverse with
  | nil => exact .inl (List.reverse_eq_nil_iff.1 e)
  | cons l x => exact .inr ⟨x.reverse, l, by have := congrArg List.reverse e; simpa using this⟩
theorem snoc_ind {α : Type} {P : List α → Prop} (h0 : P []) (h1 : ∀ x l, P x → P (x ++ [l])) (w : List α) : P w := by
  have key : ∀ k, ∀ w : List α, w.length = k → P w := by
    intro k
    induction k with
    | zero => intro w hw; rw [List.length_eq_zero_iff.1 hw]; exact h0
    | succ k ih =>
      intro w hw
      rcases snoc_cases w with rfl | ⟨x, l, rfl⟩
      · simp at hw
      · exact h1 x l (ih x (by simp at hw; omega))
  exact key _ w rfl
theorem divU {M a r : Nat} (h : r < M) : (a * M + r) / M = a ∧ (a * M + r) % M = r := by
  have hM : 0 < M := by omega
  refine ⟨?_, ?_⟩
  · rw [Nat.mul_comm, Nat.mul_add_div hM, Nat.div_eq_of_lt h, Nat.add_zero]
  · rw [Nat.mul_comm, Nat.mul_add_mod, Nat.mod_eq_of_lt h]
def dl (m : Machine) (hd : BitVec 32) (q : Pr) (l : Nat × Nat) : Pr := (nxN m q.1 l.1 l.2, bif hd.getLsbD l.1 then q.2 else nxN m q.2 l.1 l.2)
def en (m : Machine) (hd : BitVec 32) (q : Pr) (w : Wo) : Pr := w.foldl (dl m hd) q
def okL (U A : Nat) (w : Wo) : Prop := ∀ l ∈ w, l.1 < U ∧ l.2 < A
def ix (A : Nat) (l : Nat × Nat) : Nat := l.1 * A + l.2
def code (U A : Nat) (w : Wo) : Nat := w.foldl (fun x l => x * (U * A + 1) + (ix A l + 1)) 0
def leak (m : Machine) (hd : BitVec 32) (U : Nat) (q : Pr) : Bool := !samN m hd U q.1 q.2
def inn (n : Nat) (q : Pr) : Prop := q.1 < n ∧ q.2 < n
section
variable {m : Machine} {n U A : Nat} {hd : BitVec 32}
theorem en_snoc (q : Pr) (w : Wo) (l : Nat × Nat) : en m hd q (w ++ [l]) = dl m hd (en m hd q w) l := by simp [en]
theorem en_app (q : Pr) (w v : Wo) : en m hd q (w ++ v) = en m hd (en m hd q w) v := List.foldl_append
theorem code_snoc (w : Wo) (l : Nat × Nat) : code U A (w ++ [l]) = code U A w * (U * A + 1) + (ix A l + 1) := by simp [code]
theorem okL_snoc {w : Wo} {l : Nat × Nat} : okL U A (w ++ [l]) ↔ okL U A w ∧ (l.1 < U ∧ l.2 < A) := by
  constructor
  · exact fun h => ⟨fun x hx => h x (by simp [hx]), h l (by simp)⟩
  · rintro ⟨h1, h2⟩ x hx
    rcases List.mem_append.1 hx with hx | hx
    · exact h1 x hx
    · rw [List.mem_singleton] at hx; subst hx; exact h2
theorem ix_lt {l : Nat × Nat} (h : l.1 < U ∧ l.2 < A) : ix A l < U * A := by
  unfold ix
  have : (l.1 + 1) * A ≤ U * A := Nat.mul_le_mul_right A h.1
  rw [Nat.add_mul] at this; omega
theorem ix_inj {l l' : Nat × Nat} (h : l.2 < A) (h' : l'.2 < A) (e : ix A l = ix A l') : l = l' := by
  have h1 := divU (a := l.1) h
  have h2 := divU (a := l'.1) h'
  unfold ix at e
  rw [e] at h1
  exact Prod.ext (h1.1.symm.trans h2.1) (h1.2.symm.trans h2.2)
theorem code_pos {w : Wo} (h : w ≠ []) : 0 < code U A w := by
  rcases snoc_cases w with rfl | ⟨x, l, rfl⟩
  · exact absurd rfl h
  · rw [code_snoc]; omega
theorem code_inj : ∀ w w' : Wo, okL U A w → okL U A w' → code U A w = code U A w' → w = w' := by
  intro w
  refine snoc_ind (P := fun w => ∀ w' : Wo, okL U A w → okL U A w' → code U A w = code U A w' → w = w') ?_ ?_ w
  · intro w' _ _ e
    apply Classical.byContradiction
    intro hne
    have := code_pos (U := U) (A := A) (w := w') (fun h => hne h.symm)
    have e0 : code U A [] = 0 := rfl
    omega
  · intro x l ih w' h h' e
    rcases snoc_cases w' with rfl | ⟨y, l', rfl⟩
    · have := code_pos (U := U) (A := A) (w := x ++ [l]) (by simp)
      have e0 : code U A [] = 0 := rfl
      omega
    · rw [code_snoc, code_snoc] at e
      rw [okL_snoc] at h h'
      have h1 := divU (M := U * A + 1) (a := code U A x) (r := ix A l + 1) (by have := ix_lt h.2; omega)
      have h2 := divU (M := U * A + 1) (a := code U A y) (r := ix A l' + 1) (by have := ix_lt h'.2; omega)
      rw [e] at h1
      have e1 : code U A x = code U A y := h1.1.symm.trans h2.1
      have e2 : ix A l + 1 = ix A l' + 1 := h1.2.symm.trans h2.2
      rw [ih y h.1 h'.1 e1, ix_inj h.2.2 h'.2.2 (by omega)]
theorem dl_in (h : OkV m n U A) {q : Pr} (hq : inn n q) (l : Nat × Nat) : inn n (dl m hd q l) := by
  refine ⟨h.nxlt _ _ _, ?_⟩
  unfold dl
  cases hd.getLsbD l.1
  · exact h.nxlt _ _ _
  · exact hq.2
theorem en_in (h : OkV m n U A) {q : Pr} (hq : inn n q) (w : Wo) : inn n (en m hd q w) :=
  snoc_ind (P := fun w => inn n (en m hd q w)) hq (fun x l ih => by rw [en_snoc]; exact dl_in h ih l) w

/-! ### The queue, all of it -/
abbrev Lst := List (Pr × Wo)
structure QI (m : Machine) (hd : BitVec 32) (n U A : Nat) (L : Lst) (k F : Nat) : Prop where
  nd : (L.map Prod.fst).Nodup
  inr : ∀ e ∈ L, inn n e.1
  okw : ∀ e ∈ L, okL U A e.2 ∧ en m hd (0, 0) e.2 = e.1
  srt : ∀ (i j : Nat) (e e' : Pr × Wo), L[i]? = some e → L[j]? = some e' → i < j → code U A e.2 < code U A e'.2
  lt : ∀ e ∈ L, code U A e.2 < F
  len : ∀ (i : Nat) (e : Pr × Wo), L[i]? = some e → e.2.length ≤ i
  all : ∀ w, okL U A w → code U A w < F → ∃ e ∈ L, e.1 = en m hd (0, 0) w ∧ code U A e.2 ≤ code U A w
  no : ∀ (i : Nat) (e : Pr × Wo), L[i]? = some e → i < k → leak m hd U e.1 = false
theorem QI.start (hn : 1 ≤ n) : QI m hd n U A [((0, 0), [])] 0 1 where
  nd := by simp
  inr e he := by rw [List.mem_singleton] at he; subst he; exact ⟨by simp only; omega, by simp only; omega⟩
  okw e he := by rw [List.mem_singleton] at he; subst he; exact ⟨fun l hl => by simp at hl, rfl⟩
  srt i j e e' h1 h2 h3 := by
    have := (List.getElem?_eq_some_iff.1 h2).1
    simp at this; omega
  lt e he := by rw [List.mem_singleton] at he; subst he; exact (Nat.zero_lt_one : (0 : Nat) < 1)
  len i e h := by
    have := (List.getElem?_eq_some_iff.1 h).1
    have hi : i = 0 := by simpa using this
    subst hi
    cases h; exact Nat.le_refl _
  all w hw hc := by
    have : w = [] := by
      apply Classical.byContradiction
      intro hne
      have := code_pos (U := U) (A := A) hne
      omega
    subst this
    exact ⟨_, List.mem_singleton_self _, rfl, Nat.le_refl _⟩
  no i e _ h := by omega
theorem QI.size {L : Lst} {k F : Nat} (hI : QI m hd n U A L k F) : L.length ≤ n * n := by
  have h1 := nodup_lenG (t := apps n fun a => apps n fun b => [((a, b) : Pr)]) hI.nd (fun x hx => by
    obtain ⟨e, he, rfl⟩ := List.mem_map.1 hx
    obtain ⟨h1, h2⟩ := hI.inr e he
    exact apps_mem.2 ⟨e.1.1, h1, apps_mem.2 ⟨e.1.2, h2, by simp⟩⟩)
  have h2 : (apps n fun a => apps n fun b => [((a, b) : Pr)]).length ≤ n * n := apps_len fun j _ => by
    have := apps_len (n := n) (c := 1) (f := fun b => [((j, b) : Pr)]) (fun _ _ => Nat.le_refl _)
    omega
  rw [List.length_map] at h1
  omega
theorem QI.more {L : Lst} {k F : Nat} (hI : QI m hd n U A L k F) {v : Wo} (hv : okL U A v) (hF : F = code U A v) (e : Pr × Wo) (he : e ∈ L) (e1 : e.1 = en m hd (0, 0) v) : QI m hd n U A L k (F + 1) where
  nd := hI.nd
  inr := hI.inr
  okw := hI.okw
  srt := hI.srt
  lt e he := by have := hI.lt e he; omega
  len := hI.len
  no := hI.no
  all w hw hc := by
    by_cases h : code U A w < F
    · exact hI.all w hw h
    · have := code_inj w v hw hv (by omega)
      subst this
      have := hI.lt e he
      exact ⟨e, he, e1, by omega⟩
theorem QI.add {L : Lst} {k F : Nat} (h : OkV m n U A) (hI : QI m hd n U A L k F) {v : Wo} (hv : okL U A v) (hF : F = code U A v) (hnew : en m hd (0, 0) v ∉ L.map Prod.fst) (hlen : v.length ≤ L.length) (hk : k ≤ L.length) : QI m hd n U A (L ++ [(en m hd (0, 0) v, v)]) k (F + 1) where
  nd := by
    rw [List.map_append, List.nodup_append]
    refine ⟨hI.nd, by simp, fun a ha b hb => ?_⟩
    rintro rfl
    simp at hb
    exact hnew (hb ▸ ha)
  inr e he := by
    rcases List.mem_append.1 he with he | he
    · exact hI.inr e he
    · rw [List.mem_singleton] at he; subst he
      exact en_in h ⟨by have := h.n1; simp only; omega, by have := h.n1; simp only; omega⟩ v
  okw e he := by
    rcases List.mem_append.1 he with he | he
    · exact hI.okw e he
    · rw [List.mem_singleton] at he; subst he; exact ⟨hv, rfl⟩
  srt i j e e' h1 h2 h3 := by
    have hj := (List.getElem?_eq_some_iff.1 h2).1
    rw [List.length_append, List.length_singleton] at hj
    rw [List.getElem?_append_left (by omega)] at h1
    by_cases hjl : j < L.length
    · rw [List.getElem?_append_left hjl] at h2
      exact hI.srt i j e e' h1 h2 h3
    · have : j = L.length := by omega
      subst this
      rw [List.getElem?_append_right (Nat.le_refl _), Nat.sub_self] at h2
      cases h2
      have := hI.lt e (List.mem_of_getElem? h1)
      simp only; omega
  lt e he := by
    rcases List.mem_append.1 he with he | he
    · have := hI.lt e he; omega
    · rw [List.mem_singleton] at he; subst he; simp only; omega
  len i e hi := by
    by_cases hil : i < L.length
    · rw [List.getElem?_append_left hil] at hi
      exact hI.len i e hi
    · have hj := (List.getElem?_eq_some_iff.1 hi).1
      rw [List.length_append, List.length_singleton] at hj
      have : i = L.length := by omega
      subst this
      rw [List.getElem?_append_right (Nat.le_refl _), Nat.sub_self] at hi
      cases hi
      exact hlen
  no i e hi hik := by
    rw [List.getElem?_append_left (by omega)] at hi
    exact hI.no i e hi hik
  all w hw hc := by
    by_cases h : code U A w < F
    · obtain ⟨e, he, h1, h2⟩ := hI.all w hw h
      exact ⟨e, List.mem_append_left _ he, h1, h2⟩
    · have := code_inj w v hw hv (by omega)
      subst this
      exact ⟨_, List.mem_append_right _ (List.mem_singleton_self _), rfl, Nat.le_refl _⟩
/-- What lies ahead has been gone through. -/
theorem QI.clos {L : Lst} {k F : Nat} (hI : QI m hd n U A L k F) {e0 : Pr × Wo} (hk : L[k]? = some e0) (hF : F = code U A e0.2 * (U * A + 1) + U * A + 1) {i : Nat} {e : Pr × Wo} (hi : L[i]? = some e) (hik : i ≤ k) {l : Nat × Nat} (hl : l.1 < U ∧ l.2 < A) :
    ∃ e' ∈ L, e'.1 = dl m hd e.1 l ∧ code U A e'.2 ≤ code U A e.2 * (U * A + 1) + (ix A l + 1) := by
  obtain ⟨h1, h2⟩ := hI.okw e (List.mem_of_getElem? hi)
  have hle : code U A e.2 ≤ code U A e0.2 := by
    by_cases e' : i = k
    · subst e'; rw [hk] at hi; cases hi; exact Nat.le_refl _
    · exact Nat.le_of_lt (hI.srt i k e e0 hi hk (by omega))
  have hm := Nat.mul_le_mul_right (U * A + 1) hle
  have hx := ix_lt hl
  obtain ⟨e', he', h3, h4⟩ := hI.all (e.2 ++ [l]) (okL_snoc.2 ⟨h1, hl⟩) (by rw [code_snoc]; omega)
  rw [en_snoc, h2] at h3
  rw [code_snoc] at h4
  exact ⟨e', he', h3, h4⟩
theorem QI.next {L : Lst} {k F : Nat} (hI : QI m hd n U A L k F) {e0 : Pr × Wo} (hk : L[k]? = some e0) (hF : F = code U A e0.2 * (U * A + 1) + U * A + 1) (hno : leak m hd U e0.1 = false) {e1 : Pr × Wo} (hk1 : L[k + 1]? = some e1) : QI m hd n U A L (k + 1) (code U A e1.2 * (U * A + 1) + 1) := by
  have hlt := hI.srt k (k + 1) e0 e1 hk hk1 (by omega)
  have hm : (code U A e0.2 + 1) * (U * A + 1) ≤ code U A e1.2 * (U * A + 1) := Nat.mul_le_mul_right _ hlt
  rw [Nat.add_mul] at hm
  refine ⟨hI.nd, hI.inr, hI.okw, hI.srt, fun e he => by have := hI.lt e he; omega, hI.len, fun w hw hc => ?_, fun i e hi hik => ?_⟩
  · by_cases h : code U A w < F
    · exact hI.all w hw h
    · rcases snoc_cases w with rfl | ⟨w', c, rfl⟩
      · have e0 : code U A [] = 0 := rfl
        omega
      · rw [okL_snoc] at hw
        rw [code_snoc] at hc h ⊢
        have hw' : code U A w' < code U A e1.2 := by
          apply Classical.byContradiction
          intro hge
          have := Nat.mul_le_mul_right (U * A + 1) (Nat.le_of_not_lt hge)
          omega
        have hF' := hI.lt e1 (List.mem_of_getElem? hk1)
        obtain ⟨e, he, h1, h2⟩ := hI.all w' hw.1 (by omega)
        obtain ⟨i, hi⟩ := List.getElem?_of_mem he
        have hik : i ≤ k := by
          apply Classical.byContradiction
          intro hgt
          by_cases e' : i = k + 1
          · subst e'; rw [hk1] at hi; cases hi; omega
          · have := hI.srt (k + 1) i e1 e hk1 hi (by omega)
            omega
        obtain ⟨e', he', h3, h4⟩ := hI.clos hk hF hi hik hw.2
        refine ⟨e', he', by rw [h3, h1, en_snoc], ?_⟩
        have := Nat.mul_le_mul_right (U * A + 1) h2
        omega
  · by_cases e' : i = k
    · subst e'; rw [hk] at hi; cases hi; exact hno
    · exact hI.no i e hi (by omega)
theorem QI.fin {L : Lst} {k F : Nat} (hI : QI m hd n U A L k F) {e0 : Pr × Wo} (hk : L[k]? = some e0) (hF : F = code U A e0.2 * (U * A + 1) + U * A + 1) (hno : leak m hd U e0.1 = false) (hl : L.length = k + 1) : ∀ w, okL U A w → leak m hd U (en m hd (0, 0) w) = false := by
  have key : ∀ w, okL U A w → ∃ e ∈ L, e.1 = en m hd (0, 0) w := by
    intro w
    refine snoc_ind (P := fun w => okL U A w → ∃ e ∈ L, e.1 = en m hd (0, 0) w) (fun _ => ?_) (fun x l ih hw => ?_) w
    · obtain ⟨e, he, h1, _⟩ := hI.all [] (fun l hl => by simp at hl) (by have e0 : code U A [] = 0 := rfl; omega)
      exact ⟨e, he, h1⟩
    · rw [okL_snoc] at hw
      obtain ⟨e, he, h1⟩ := ih hw.1
      obtain ⟨i, hi⟩ := List.getElem?_of_mem he
      have := (List.getElem?_eq_some_iff.1 hi).1
      obtain ⟨e', he', h3, _⟩ := hI.clos hk hF hi (by omega) hw.2
      exact ⟨e', he', by rw [h3, h1, en_snoc]⟩
  intro w hw
  obtain ⟨e, he, h1⟩ := key w hw
  obtain ⟨i, hi⟩ := List.getElem?_of_mem he
  have := (List.getElem?_eq_some_iff.1 hi).1
  rw [← h1]
  by_cases e' : i = k
  · subst e'; rw [hk] at hi; cases hi; exact hno
  · exact hI.no i e hi (by omega)

/-! ### The program's -/
def cP (q : Pr) : Int × Int := ((q.1 : Int), (q.2 : Int))
def cW (w : Wo) : List Act := w.map fun l => { user := (l.1 : Int), act := (l.2 : Int) }
def qu (L : Lst) (k : Nat) : List (Int × Int) := (L.drop k).map fun e => cP e.1
def mp (L : Lst) : List ((Int × Int) × List Act) := L.map fun e => (cP e.1, cW e.2)
theorem cP_inj {q q' : Pr} : cP q = cP q' ↔ q = q' := by
  unfold cP
  constructor
  · intro h
    have h1 := congrArg Prod.fst h
    have h2 := congrArg Prod.snd h
    simp only at h1 h2
    exact Prod.ext (by omega) (by omega)
  · rintro rfl; rfl
theorem mget_none {L : Lst} {q : Pr} (h : q ∉ L.map Prod.fst) : mget (mp L) (cP q) = none := by
  induction L with
  | nil => rfl
  | cons e L ih =>
    rw [List.map_cons, List.mem_cons, not_or] at h
    show (if cP q = cP e.1 then _ else mget (mp L) (cP q)) = none
    rw [if_neg (fun e' => h.1 (cP_inj.1 e')), ih h.2]
theorem mget_some {L : Lst} (nd : (L.map Prod.fst).Nodup) {e : Pr × Wo} (he : e ∈ L) : mget (mp L) (cP e.1) = some (cW e.2) := by
  induction L with
  | nil => simp at he
  | cons a L ih =>
    rw [List.map_cons, List.nodup_cons] at nd
    show (if cP e.1 = cP a.1 then some (cW a.2) else mget (mp L) (cP e.1)) = _
    rcases List.mem_cons.1 he with rfl | he
    · rw [if_pos rfl]
    · rw [if_neg, ih nd.2 he]
      intro h
      exact nd.1 (cP_inj.1 h ▸ List.mem_map.2 ⟨e, he, rfl⟩)
theorem mput_new {κ ν : Type} [DecidableEq κ] {es : List (κ × ν)} {x : κ} {v : ν} (h : mget es x = none) : mput es x v = es ++ [(x, v)] := by
  induction es with
  | nil => rfl
  | cons p es ih =>
    rw [mget] at h
    split at h
    · cases h
    · rename_i hne
      rw [mput, if_neg hne, ih h]; rfl
theorem cW_len (w : Wo) : (cW w).length = w.length := List.length_map _

def Res (m : Machine) (hd : BitVec 32) (n U A : Nat) (o : Option (List Act × Int)) : Prop :=
  (∃ V, okL U A V ∧ leak m hd U (en m hd (0, 0) V) = true ∧ V.length ≤ n * n ∧ (∀ w, okL U A w → leak m hd U (en m hd (0, 0) w) = true → code U A V ≤ code U A w) ∧ o = some (cW V, 0)) ∨
  ((∀ w, okL U A w → leak m hd U (en m hd (0, 0) w) = false) ∧ o = some ([], 5))

theorem b94_q (h : OkV m n U A) {L : Lst} {k F : Nat} (hI : QI m hd n U A L k F) {e0 : Pr × Wo} (hk : L[k]? = some e0) {u a : Nat} (hu : u < U) (ha : a < A) (hF : F = code U A e0.2 * (U * A + 1) + ix A (u, a) + 1) {Q : Option (List Act × Int) → Prop}
    (nx : ((List (Int × Int)) × (List ((Int × Int) × (List Act)))) → Option ((List Act) × Int)) (hn : ∀ L', QI m hd n U A L' k (F + 1) → L'[k]? = some e0 → Q (nx (qu L' k, mp L'))) : Q (view_Leak_b94 m hd (cP e0.1) u a (qu L k) (mp L) nx) := by
  have he0 := List.mem_of_getElem? hk
  have hkl := (List.getElem?_eq_some_iff.1 hk).1
  obtain ⟨q1, q2⟩ := hI.inr e0 he0
  obtain ⟨w1, w2⟩ := hI.okw e0 he0
  have hsz := hI.size
  have hlen := hI.len k e0 hk
  have h6 := h.n6
  have hnn : n * n ≤ 6 * 6 := Nat.mul_le_mul h6 h6
  have hv : okL U A (e0.2 ++ [(u, a)]) := okL_snoc.2 ⟨w1, hu, ha⟩
  have hen : en m hd (0, 0) (e0.2 ++ [(u, a)]) = dl m hd e0.1 (u, a) := by rw [en_snoc, w2]
  have hcode : F = code U A (e0.2 ++ [(u, a)]) := by rw [code_snoc]; omega
  have key : Q (view_Leak_k112 (cP e0.1) u a (qu L k) (mp L) nx ((nxN m e0.1.1 u a : Nat) : Int) (((dl m hd e0.1 (u, a)).2 : Nat) : Int)) := by
    unfold view_Leak_k112
    have ep : ((((nxN m e0.1.1 u a : Nat) : Int), (((dl m hd e0.1 (u, a)).2 : Nat) : Int)) : Int × Int) = cP (dl m hd e0.1 (u, a)) := rfl
    rw [ep]
    by_cases hm : dl m hd e0.1 (u, a) ∈ L.map Prod.fst
    · obtain ⟨e, he, e1⟩ := List.mem_map.1 hm
      have := mget_some hI.nd he
      rw [e1] at this
      rw [this]
      simp only [Option.isSome_some, Bool.not_true, cond_false]
      exact hn L (hI.more hv hcode e he (by rw [e1, hen])) hk
    · rw [mget_none hm]
      simp only [Option.isSome_none, Bool.not_false, cond_true]
      have e2 : mget (mp L) ((cP e0.1).1, (cP e0.1).2) = some (cW e0.2) := mget_some hI.nd he0
      have e3 : slices_Clone_SapiActapiAct (cW e0.2) = some (cW e0.2) := by
        unfold slices_Clone_SapiActapiAct
        rw [decide_eq_true (by rw [cW_len]; simp; omega), cond_true, List.nil_append]
      rw [e2, Option.getD_some, e3, Option.bind_some]
      have hql : (qu L k).length ≤ L.length := by unfold qu; rw [List.length_map, List.length_drop]; omega
      rw [decide_eq_true (by rw [cW_len]; simp only [List.length_cons, List.length_nil]; omega), cond_true, decide_eq_true (by simp only [List.length_cons, List.length_nil]; omega), cond_true, mput_new (mget_none hm)]
      have hL := hI.add h hv hcode (by rw [hen]; exact hm) (by rw [List.length_append, List.length_singleton]; omega) (by omega)
      rw [hen] at hL
      have := hn _ hL (by rw [List.getElem?_append_left hkl]; exact hk)
      have eq : qu (L ++ [(dl m hd e0.1 (u, a), e0.2 ++ [(u, a)])]) k = qu L k ++ [cP (dl m hd e0.1 (u, a))] := by
        unfold qu
        rw [List.drop_append_of_le_length (by omega), List.map_append]; rfl
      have em : mp (L ++ [(dl m hd e0.1 (u, a), e0.2 ++ [(u, a)])]) = mp L ++ [(cP (dl m hd e0.1 (u, a)), cW e0.2 ++ [{ user := (u : Int), act := (a : Int) }])] := by
        unfold mp
        rw [List.map_append]
        simp [cW]
      rw [eq, em] at this
      exact this
  unfold view_Leak_b94
  have c1 : (cP e0.1).1 = ((e0.1.1 : Nat) : Int) := rfl
  have c2 : (cP e0.1).2 = ((e0.1.2 : Nat) : Int) := rfl
  rw [c1, h.nx1 q1, Option.bind_some, h.nx2 q1 hu, Option.bind_some, h.nx3 q1 hu ha, Option.bind_some, Int.toNat_natCast, bit_shr1, c2]
  cases hb : hd.getLsbD u with
  | true =>
    have : (dl m hd e0.1 (u, a)).2 = e0.1.2 := by unfold dl; rw [hb]; rfl
    rw [this] at key
    exact key
  | false =>
    have : (dl m hd e0.1 (u, a)).2 = nxN m e0.1.2 u a := by unfold dl; rw [hb]; rfl
    rw [this] at key
    rw [Bool.not_false, cond_true, h.nx1 q2, Option.bind_some, h.nx2 q2 hu, Option.bind_some, h.nx3 q2 hu ha, Option.bind_some]
    exact key

theorem b29_q (h : OkV m n U A) {L : Lst} {k : Nat} {e0 : Pr × Wo} (hk : L[k]? = some e0) (hI : QI m hd n U A L k (code U A e0.2 * (U * A + 1) + 1))
    (nx : ((List (Int × Int)) × (List ((Int × Int) × (List Act)))) → Option ((List Act) × Int))
    (hn : ∀ L' F, QI m hd n U A L' k F → L'[k]? = some e0 → F = code U A e0.2 * (U * A + 1) + U * A + 1 → leak m hd U e0.1 = false → Res m hd n U A (nx (qu L' (k + 1), mp L'))) : Res m hd n U A (view_Leak_b29 m hd (qu L k) (mp L) nx) := by
  have he0 := List.mem_of_getElem? hk
  have hkl := (List.getElem?_eq_some_iff.1 hk).1
  obtain ⟨q1, q2⟩ := hI.inr e0 he0
  obtain ⟨w1, w2⟩ := hI.okw e0 he0
  have hu3 := h.u3
  have ha2 := h.a2
  have heu := h.eu
  have hea := h.ea
  have hdr : L.drop k = e0 :: L.drop (k + 1) := by
    rw [List.drop_eq_getElem_cons hkl]
    have := (List.getElem?_eq_some_iff.1 hk).2
    rw [this]
  unfold view_Leak_b29
  have hq0 : geti (qu L k) (0 : Int) = some (cP e0.1) := by unfold qu; rw [hdr]; rfl
  have hql : 0 < (qu L k).length := by unfold qu; rw [hdr]; simp
  rw [decide_eq_true (by omega), cond_true, hq0, Option.bind_some]
  change Res m hd n U A ((view_same m hd ((e0.1.1 : Nat) : Int) ((e0.1.2 : Nat) : Int)).bind _)
  rw [same_eq h q1 q2, Option.bind_some]
  cases hs : samN m hd U e0.1.1 e0.1.2 with
  | false =>
    rw [Bool.not_false, cond_true]
    have e2 : mget (mp L) ((cP e0.1).1, (cP e0.1).2) = some (cW e0.2) := mget_some hI.nd he0
    have hlk : leak m hd U e0.1 = true := by unfold leak; rw [hs]; rfl
    refine .inl ⟨e0.2, w1, by rw [w2]; exact hlk, ?_, fun w hw hg => ?_, by rw [e2]; rfl⟩
    · have := hI.len k e0 hk
      have := hI.size
      omega
    · by_cases hc : code U A w < code U A e0.2 * (U * A + 1) + 1
      · obtain ⟨e, he, h1, h2⟩ := hI.all w hw hc
        obtain ⟨i, hi⟩ := List.getElem?_of_mem he
        by_cases hik : i < k
        · have := hI.no i e hi hik
          rw [h1, hg] at this; cases this
        · by_cases e' : i = k
          · subst e'; rw [hk] at hi; cases hi; exact h2
          · have := hI.srt k i e0 e hk hi (by omega)
            omega
      · have := Nat.le_mul_of_pos_right (code U A e0.2) (show 0 < U * A + 1 by omega)
        omega
  | true =>
    rw [Bool.not_true, cond_false, decide_eq_true (by omega), cond_true]
    have hlk : leak m hd U e0.1 = false := by unfold leak; rw [hs]; rfl
    refine for0_q (n := U) (Q := Res m hd n U A) (fun u s => ∃ L', s = (qu L' k, mp L') ∧ QI m hd n U A L' k (code U A e0.2 * (U * A + 1) + u * A + 1) ∧ L'[k]? = some e0) heu _ ⟨L, rfl, by rw [Nat.zero_mul, Nat.add_zero]; exact hI, hk⟩ (fun u s nx' hu hs' hn' => ?_) (fun s hs' => ?_)
    · obtain ⟨L1, rfl, hI1, hk1⟩ := hs'
      unfold view_Leak_b67
      rw [decide_eq_true (by omega), cond_true]
      refine for0_q (n := A) (Q := Res m hd n U A) (fun a s => ∃ L', s = (qu L' k, mp L') ∧ QI m hd n U A L' k (code U A e0.2 * (U * A + 1) + (u * A + a) + 1) ∧ L'[k]? = some e0) hea _ ⟨L1, rfl, hI1, hk1⟩ (fun a s nx2 ha hs2 hn2 => ?_) (fun s hs2 => ?_)
      · obtain ⟨L2, rfl, hI2, hk2⟩ := hs2
        dsimp only
        exact b94_q h hI2 hk2 hu ha rfl nx2 fun L' hI' hk' => hn2 _ ⟨L', rfl, by rw [show code U A e0.2 * (U * A + 1) + (u * A + (a + 1)) + 1 = code U A e0.2 * (U * A + 1) + (u * A + a) + 1 + 1 by omega]; exact hI', hk'⟩
      · obtain ⟨L2, rfl, hI2, hk2⟩ := hs2
        unfold view_Leak_k90
        exact hn' _ ⟨L2, rfl, by rw [Nat.add_mul, Nat.one_mul]; exact hI2, hk2⟩
    · obtain ⟨L1, rfl, hI1, hk1⟩ := hs'
      unfold view_Leak_k62
      dsimp only
      have hkl1 := (List.getElem?_eq_some_iff.1 hk1).1
      have hq1 : (qu L1 k).length = L1.length - k := by unfold qu; rw [List.length_map, List.length_drop]
      rw [decide_eq_true (by omega), cond_true]
      have : (qu L1 k).drop ((1 : Int)).toNat = qu L1 (k + 1) := by
        unfold qu
        rw [← List.map_drop, List.drop_drop]; rfl
      rw [this]
      exact hn L1 _ hI1 hk1 rfl hlk

theorem leak_run (h : OkV m n U A) {fuel : Nat} (hf : 100 < fuel) : Res m hd n U A (whileK (σ := (List (Int × Int)) × (List ((Int × Int) × (List Act)))) (fun s nx_ => view_Leak_b29 m hd s.1 s.2 nx_) fuel ((([((0 : Int), (0 : Int))] : List (Int × Int))), ((mput (([] : List ((Int × Int) × (List Act)))) (((0 : Int), (0 : Int))) ([]))))) := by
  have hnn : n * n ≤ 6 * 6 := Nat.mul_le_mul h.n6 h.n6
  refine whileK_q (Q := Res m hd n U A) (fun s => ∃ L k, s = (qu L k, mp L) ∧ L.length ≤ n * n ∧ ((∃ e0, L[k]? = some e0 ∧ QI m hd n U A L k (code U A e0.2 * (U * A + 1) + 1)) ∨ (k = L.length ∧ ∀ w, okL U A w → leak m hd U (en m hd (0, 0) w) = false)))
    (fun s => n * n + 1 - (s.2.length - s.1.length)) (fun s nx hs hn => ?_) fuel _ ⟨[((0, 0), [])], 0, rfl, ?_, .inl ⟨_, rfl, ?_⟩⟩ (by simp only; omega)
  · obtain ⟨L, k, rfl, hl, hs⟩ := hs
    have hlm : (mp L).length = L.length := List.length_map _
    have hlq : (qu L k).length = L.length - k := by unfold qu; rw [List.length_map, List.length_drop]
    rcases hs with ⟨e0, hk, hI⟩ | ⟨hk, hall⟩
    · have hkl := (List.getElem?_eq_some_iff.1 hk).1
      refine b29_q h hk hI nx fun L' F hI' hk' hF hno => ?_
      have hkl' := (List.getElem?_eq_some_iff.1 hk').1
      have hsz := hI'.size
      have hlm' : (mp L').length = L'.length := List.length_map _
      have hlq' : (qu L' (k + 1)).length = L'.length - (k + 1) := by unfold qu; rw [List.length_map, List.length_drop]
      refine hn _ ⟨L', k + 1, rfl, hsz, ?_⟩ (by simp only [hlm, hlq, hlm', hlq']; omega)
      by_cases e : k + 1 < L'.length
      · have he1 : L'[k + 1]? = some L'[k + 1] := List.getElem?_eq_getElem e
        exact .inl ⟨_, he1, hI'.next hk' hF hno he1⟩
      · exact .inr ⟨by omega, hI'.fin hk' hF hno (by omega)⟩
    · unfold view_Leak_b29 view_Leak_k27
      dsimp only
      rw [decide_eq_false (by omega), cond_false]
      exact .inr ⟨hall, rfl⟩
  · have := Nat.mul_le_mul h.n1 h.n1
    simp only [List.length_cons, List.length_nil]; omega
  · have := QI.start (m := m) (hd := hd) (U := U) (A := A) h.n1
    have e0 : code U A [] = 0 := rfl
    simp only [e0, Nat.zero_mul, Nat.zero_add]
    exact this
end
end Go.Proofs.Ytbbenieabpmghaa.Sy
