/- Effects under a guard, boxed slices (own lemmas); the conditions stand in each lemma. -/
import Derived.Test.YtoninfimcobeiaaSyL
import Derived.Test.YtoninfimcobeiaaSyM
namespace Go.Proofs.Ytoninfimcobeiaa.Sy
open Go

theorem RS.cells {α : Type} {R : Rp α} {m : Snap} {v : Value} {xs : List α} (h : RS R m v xs) : v.cells = [v].toArray := by
  obtain ⟨⟨a, cap, rfl⟩, _⟩ := h
  rfl
theorem RS.one {α : Type} {R : Rp α} {m : Snap} {v : Value} {xs : List α} (h : RS R m v xs) : Value.oneCell' v = true := by
  obtain ⟨⟨a, cap, rfl⟩, _⟩ := h
  rfl

theorem ne_of_eq {P : Program} {t : TypeId} {xs ys : Array Value} {r : Bool} {w : World} (h : (binOp .eql t (.agg xs) (.agg ys)).run P w = .ok (.bool r) w) : (binOp .neq t (.agg xs) (.agg ys)).run P w = .ok (.bool (!r)) w := by
  simp only [binOp, Sem.run_bind] at h ⊢
  cases hh : (Op.equal t (.agg xs) (.agg ys)).run P w with
  | halt x w' => simp [hh] at h
  | ok b w' =>
    simp [hh] at h ⊢
    obtain ⟨rfl, rfl⟩ := h
    exact ⟨rfl, rfl⟩

section
variable {P : Program} {w0 : World} {l : List Oper} {kd hd : Nat → Bool} {N : Nat} {K : Act → SX → Prop}

theorem and_f {a b : Bool} (h : a = false) : (a && b) = false := by subst h; rfl

theorem W.split {b : Bool} {σ : List Nat} {env : Env} {x : SX} (ht : b = true → W P w0 l kd hd N K σ env x) (hf : b = false → W P w0 l kd hd N K σ env x) : W P w0 l kd hd N K σ env x := by
  cases b
  · exact hf rfl
  · exact ht rfl

theorem W.ge {env : Env} {x : SX} {i j s : Nat} {σ : List Nat} {o oj : Oper} {d : Nat} {R : Value → SX → Prop} {want G : Bool} (hi : l[i]? = some o) (hk : kd i = true) (hg : o.guard = some (j, want)) (hj : l[j]? = some oj) (hs : oj.dst = some s)
    (hG : Gd env s want G) (hT : G = true) (hd' : o.dst = some d) (hlt : d < N) (hy : Ef P w0 env x o R) (h : ∀ v x', R v x' → (hd i = true ∨ leX x x') ∧ W P w0 l kd hd N K σ ((d, v) :: env) x') : W P w0 l kd hd N K (i :: σ) env x := by
  intro a hf
  unfold WX opX
  have hi' : l.toArray[i]? = some o := by simpa using hi
  simp only [hi', hk]
  rw [hG.wanted hf hg hj hs, hT, if_pos rfl]
  intro w hc
  refine eff_mono ?_ (hy N a hf w hc)
  rintro v w' ⟨x', hr, hc'⟩
  obtain ⟨h1, h2⟩ := h v x' hr
  exact ⟨x', h1, hc', by rw [hd']; exact h2 _ (hf.put hlt v)⟩

theorem W.gF {env : Env} {x : SX} {i j s : Nat} {σ : List Nat} {o oj : Oper} {d : Nat} {want G : Bool} (hi : l[i]? = some o) (hg : o.guard = some (j, want)) (hj : l[j]? = some oj) (hs : oj.dst = some s)
    (hG : Gd env s want G) (hF : G = false) (hd' : o.dst = some d) (hlt : d < N) (v : Value) (h : W P w0 l kd hd N K σ ((d, gv G v) :: env) x) : W P w0 l kd hd N K (i :: σ) env x := by
  intro a hf
  subst hF
  unfold WX opX
  have hi' : l.toArray[i]? = some o := by simpa using hi
  simp only [hi']
  rw [hG.wanted hf hg hj hs, if_neg (by simp), hd']
  exact h _ (hf.put hlt undef)
end
end Go.Proofs.Ytoninfimcobeiaa.Sy
