/- Plain facts on lists of integers; nothing of the program. -/
namespace Go.Proofs.Ytoanefccnbnkmaa

def gi (xs : List Int) (k : Nat) : Int := xs[k]?.getD 0

theorem gi_eq {xs : List Int} {k : Nat} (h : k < xs.length) : gi xs k = xs[k] := by simp [gi, h]

theorem ext_gi {xs ys : List Int} (h : xs.length = ys.length) (hk : ∀ k, k < xs.length → gi xs k = gi ys k) : xs = ys := by
  apply List.ext_getElem h
  intro k h1 h2
  have := hk k h1
  rwa [gi_eq h1, gi_eq h2] at this

def inB (n a b : Int) : Bool := decide (a ≤ n) && decide (n ≤ b)

theorem inB_true {n a b : Int} : inB n a b = true ↔ a ≤ n ∧ n ≤ b := by simp [inB]

end Go.Proofs.Ytoanefccnbnkmaa
