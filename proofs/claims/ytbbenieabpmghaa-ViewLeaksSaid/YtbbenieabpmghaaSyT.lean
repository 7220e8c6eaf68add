/- A row of the call's own that grows, one row that is lent (own lemmas); no program in sight. -/
import Derived.Test.YtbbenieabpmghaaSyZ
namespace Go.Proofs.Ytbbenieabpmghaa.Sy
open Go
section
variable {P : Program} {w0 : World} {env : Env} {x : SX} {o : Oper} {α : Type} {n : Nat} {enc : α → List Value}
theorem Ef.imp {R R' : Value → SX → Prop} {x' : SX} (f : ∀ w, cX w0 x w → cX w0 x' w) (h : Ef P w0 env x' o R) (hR : ∀ v y, R v y → R' v y) : Ef P w0 env x o R' := by
  intro N a hf w hw
  refine eff_mono ?_ (h N a hf w (f w hw))
  rintro v w' ⟨y, hy, hc⟩
  exact ⟨y, hR v y hy, hc⟩
theorem Src.row {pos : Nat} {e : TypeId} {u : Value} {us : List Value} {xss : List (List α)} {ys : List α} {i : Int} (hl : x.l[pos]? = some (hrows e n enc us xss)) (hu : us[i.toNat]? = some u) (hg : geti xss i = some ys) : Src w0 x u ys.length (ys.flatMap enc) := fun w hc =>
  Src.own (x := ⟨x.m, hownT e n enc u ys :: x.l.set pos (hrows e n enc (us.set i.toNat (.slice none 0 0)) (xss.set i.toNat []))⟩) (pos := 0) (e := e) (n := n) rfl w (cX_takeM hl hu (geti_some hg).2.2 hc)
/-- An append onto a row: the row is taken out of the rows. -/
theorem Ef.apTake {pos : Nat} {e t : TypeId} {u vs : Value} {us : List Value} {xss : List (List α)} {xs ys : List α} {i : Int} {z : Value} {p q : Operand} {bytes : Nat} (he : ∀ x, (enc x).length = n) (hI : (P.info? e).map (fun i => (i.zero, i.size, i.bytes)) = some (some z, n, bytes)) (hl : x.l[pos]? = some (hrows e n enc us xss)) (hu : us[i.toNat]? = some u) (hg : geti xss i = some xs)
    (ho : o.op = .call { callee := .builtin .append, args := #[p, q], argTypes := #[t, t] }) (ht : P.underlying t = some (.slice e)) (hzs : z.cells.size = n) (h0 : 0 < n) (hp : Ev env p u) (hq : Ev env q vs)
    (hs : Src w0 (SX.mk x.m (hownT e n enc u xs :: x.l.set pos (hrows e n enc (us.set i.toNat (.slice none 0 0)) (xss.set i.toNat [])))) vs ys.length (ys.flatMap enc)) (h1 : ∀ y, (enc y).all Value.oneCell' = true)
    (hroom : (xs.length + ys.length) * bytes ≤ 140737488355328) (h63 : xs.length + ys.length ≤ 140737488355328) :
    Ef P w0 env x o (fun v' x' => x' = ⟨x.m, hownT e n enc v' (xs ++ ys) :: x.l.set pos (hrows e n enc (us.set i.toNat (.slice none 0 0)) (xss.set i.toNat []))⟩) :=
  Ef.imp (x' := ⟨x.m, hownT e n enc u xs :: x.l.set pos (hrows e n enc (us.set i.toNat (.slice none 0 0)) (xss.set i.toNat []))⟩) (fun _ hw => cX_takeM hl hu (geti_some hg).2.2 hw) (Ef.apI (pos := 0) he hI rfl ho ht hzs h0 hp hq hs h1 hroom h63) (fun _ _ h => h)
end
/-- One row of what is lent. -/
theorem RS_of_row {α : Type} {m : Snap} {e : TypeId} {n : Nat} {enc : α → List Value} (he : ∀ x, (enc x).length = n) {us : List Value} {xss : List (List α)} {ys : List α} {u : Value} {i : Int} (h : ∃ L, hrows e n enc us xss L ∧ ∀ q ∈ L, m q.1 = some q.2) (hu : us[i.toNat]? = some u) (hg : geti xss i = some ys) : RS (Rp.flat n enc he) m u ys := by
  obtain ⟨u', hu', h1⟩ := Rows.get (Rows_of he h) hg
  obtain rfl := Option.some.inj (hu'.symm.trans hu)
  exact h1
end Go.Proofs.Ytbbenieabpmghaa.Sy
