/- The plain law of FnOne. -/
import Derived.Test.YtoanefccnbnkmaaFaultLaw
import Derived.Test.YtoanefccnbnkmaaFind
import Derived.Test.YtoanefccnbnkmaaOne
namespace Go.Proofs.Ytoanefccnbnkmaa

theorem one_fv {cs : List Int} {n : Nat} {a : Int} {L : List Int} {c j : Nat} (h : Fl (onP cs n a) L (nMl cs n) c) (hj : j < c) :
    fvB cs n (gi L (j * 2)) (gi L (j * 2 + 1)) = true ∧ gi L (j * 2 + 1) = a - ohmsI cs n (gi L (j * 2)) := by
  obtain ⟨h1, h2, h3, h4⟩ := h.all j hj
  refine ⟨?_, h3⟩
  obtain ⟨k, hk⟩ := Int.eq_ofNat_of_zero_le h1
  rw [hk] at h2 ⊢
  exact fv_of (by omega) h4
theorem one_step {cs : List Int} {n : Nat} {a : Int} {L : List Int} {c j : Nat} (h : Fl (onP cs n a) L (nMl cs n) c) (hj : j < c) :
    opA cs n (gi L (j * 2)) (gi L (j * 2 + 1)) = a ∧ ffM cs n a (opB cs n (gi L (j * 2)) (gi L (j * 2 + 1))) = gi L (j * 2) ∧ ffO cs n a (opB cs n (gi L (j * 2)) (gi L (j * 2 + 1))) = gi L (j * 2 + 1) ∧ ffB cs n a (opB cs n (gi L (j * 2)) (gi L (j * 2 + 1))) = true := by
  obtain ⟨h1, h2⟩ := one_fv h hj
  have h0 := (fvB_cab h1).2.1.1
  have e1 : opA cs n (gi L (j * 2)) (gi L (j * 2 + 1)) = a := by rw [(op_fv h1).1, h2]; omega
  have e2 := (open_hit h1).2
  rw [e1] at e2
  refine ⟨e1, ?_, ?_, ?_⟩
  · unfold ffM; rw [e2, if_pos h0]
  · unfold ffO; rw [e2, if_pos h0]; exact h2.symm
  · unfold ffB; rw [e2]; exact decide_eq_true h0
theorem one_up {cs : List Int} {n : Nat} {a : Int} {L : List Int} {c i j : Nat} (h : Fl (onP cs n a) L (nMl cs n) c) (hij : i < j) (hj : j < c) :
    gi L (i * 2) < gi L (j * 2) ∧ gi L (j * 2 + 1) < gi L (i * 2 + 1) := by
  have hu := h.up i j hij hj
  obtain ⟨a1, a2⟩ := one_fv h (by omega : i < c)
  obtain ⟨b1, b2⟩ := one_fv h hj
  obtain ⟨hc, hm, _⟩ := fvB_cab a1
  obtain ⟨_, hm', _⟩ := fvB_cab b1
  have s1 := (sides_bd hc hm.1 hm.2).1
  have s2 := (sides_bd hc hm'.1 hm'.2).1
  have hmo := rI_mono (cabB_true.1 hc).2 hm.1 (Int.le_of_lt hu) hm'.2
  refine ⟨hu, ?_⟩
  rw [a2, b2, s1, s2]
  by_cases e : rI cs n (gi L (i * 2)) = rI cs n (gi L (j * 2))
  · have := rI_inj hc hm.1 hm.2 hm'.1 hm'.2 e
    omega
  · omega
theorem one_len {cs : List Int} {n : Nat} {a : Int} {L : List Int} {c : Nat} (h : Fl (onP cs n a) L (nMl cs n) c) : (c : Int) ≤ milesI cs n + 1 := by
  have h1 := h.le
  have h2 := milesI_bd (cs := cs) (n := n)
  unfold nMl at h1
  omega

end Go.Proofs.Ytoanefccnbnkmaa
