/- Plain: the best serving wastes least, the best spare is below every serving; contracts with named results. -/
import Derived.Test.YthbkimojbbkeiaaSvG
import Derived.Test.YthbkimojbbkeiaaSvBestJ
import Derived.Test.YthbkimojbbkeiaaSvBestS
namespace Go.Proofs.Ythbkimojbbkeiaa
open Go.RowKit

theorem best_of_sc {cs ds : List Int} {n m : Nat} (h : scB cs n ds m = true) : svB cs n ds m (sbL cs n ds m) = true ∧ (sbL cs n ds m).length = m ∧ swI cs n ds m (sbL cs n ds m) = leastI cs ds n m [] ∧ sbL cs n ds m = grd cs ds n m [] := by
  have e : sbL cs n ds m = grd cs ds n m [] := by unfold sbL; rw [if_pos h]
  have h' := h
  rw [scB, Bool.and_eq_true, decide_eq_true_eq] at h'
  obtain ⟨h3, h4, h5⟩ := (best_main (cs := cs) (ds := ds) (n := n) (m := m) m [] (by simp)).2 h'.2
  have h6 : svB cs n ds m (sbL cs n ds m) = true := by rw [e]; exact svB_mem.2 ⟨h'.1, bestOf_mem h3⟩
  refine ⟨h6, by rw [e]; exact h4, ?_, e⟩
  unfold swI
  rw [if_pos h6, e, h4, h5]
  simp [wst]
theorem best_le {cs ds : List Int} {n m : Nat} {sv : List Int} (h : svB cs n ds m sv = true) : swI cs n ds m (sbL cs n ds m) ≤ swI cs n ds m sv := by
  obtain ⟨h1, h2⟩ := svB_mem.1 h
  have h3 := (least_le (cs := cs) (ds := ds) (n := n) (m := m) m [] sv (by simp) h2).2
  rw [(best_of_sc (sv_can h).1).2.2.1]
  unfold swI
  rw [if_pos h, (mem_all.1 h2).1]
  simp [wst] at h3
  omega
theorem sw_neg {cs ds : List Int} {n m : Nat} {sv : List Int} (h : ¬ swI cs n ds m sv < 0) : svB cs n ds m sv = true := by
  cases e : svB cs n ds m sv with
  | true => rfl
  | false => exfalso; apply h; unfold swI; rw [e]; simp
theorem sw_lo {cs ds : List Int} {n m : Nat} {sv : List Int} (h : svB cs n ds m sv = true) : swI cs n ds m sv = wst cs ds sv m := by
  unfold swI
  rw [if_pos h, (svB_true.1 h).2.1]

/-- What SparesFit answers where some spare serves. -/
theorem fit_of {cs : List Int} {n k : Nat} {nm nk : Int} (h1 : n ≤ 10 ∧ spTo cs n) (h2 : (1 ≤ nm ∧ nm ≤ 50) ∧ (0 ≤ nk ∧ nk ≤ 3)) (hk : k < n) (hs : srB (smi cs k) (ski cs k) nm nk = true) :
    ∃ f : Nat, f < n ∧ (fitI cs n nm nk = (f : Int) ∧ fitB cs n nm nk = true) ∧ srB (smi cs f) (ski cs f) nm nk = true ∧ smi cs f ≤ smi cs k ∧ ∀ i, i < n → srB (smi cs i) (ski cs i) nm nk = true → smi cs f ≤ smi cs i ∧ (i < f → smi cs f < smi cs i) := by
  have hok : fitOk cs n nm nk = true := by
    unfold fitOk
    rw [Bool.and_eq_true, Bool.and_eq_true, spB_true, inB_true, inB_true]
    exact ⟨⟨by omega, h1.2⟩, h2.1, h2.2⟩
  have hr : fitR cs n nm nk = fitTo cs nm nk n := by unfold fitR; rw [if_pos hok]
  obtain ⟨h3, h4⟩ := fitTo_best (cs := cs) (nm := nm) (nk := nk) (k := n)
  have hb := fitTo_bd (cs := cs) (nm := nm) (nk := nk) (k := n)
  have h0 : 0 ≤ fitTo cs nm nk n := by
    rcases Int.lt_or_le (fitTo cs nm nk n) 0 with h | h
    · have := h3 h k hk; rw [this] at hs; cases hs
    · exact h
  obtain ⟨h5, h6⟩ := h4 h0
  obtain ⟨f, hf⟩ := Int.eq_ofNat_of_zero_le h0
  rw [hf, Int.toNat_natCast] at h5 h6
  refine ⟨f, by omega, ⟨?_, ?_⟩, h5, (h6 k hk hs).1, h6⟩
  · unfold fitI; rw [hr, hf, if_neg (by omega)]
  · unfold fitB; rw [hr, hf]; exact decide_eq_true (by omega)
/-- What the law of waste adds up. -/
def lwTo (cs : List Int) (n : Nat) (ds : List Int) : Nat → Int
  | 0 => 0
  | k + 1 => lwTo cs n ds k + smi cs (fitI cs n (smi ds k) (ski ds k)).toNat - smi ds k
theorem fit_at {cs ds : List Int} {n m k : Nat} {sv : List Int} (h : svB cs n ds m sv = true) (hk : k < m) :
    ∃ f : Nat, f < n ∧ (fitI cs n (smi ds k) (ski ds k) = (f : Int) ∧ fitB cs n (smi ds k) (ski ds k) = true) ∧ 1 ≤ smi ds k ∧ smi ds k ≤ smi cs f ∧ smi cs f ≤ smi cs (gi sv k).toNat ∧ smi cs f ≤ 50 := by
  obtain ⟨h1, h2, h3⟩ := svB_true.1 h
  have hb := both_bd h1
  obtain ⟨j, hj, e, ho⟩ := (vB_iff (by omega)).1 (h3 k hk)
  unfold okAt at ho
  rw [Bool.and_eq_true, List.length_take, Nat.min_eq_left (by omega)] at ho
  obtain ⟨f, hf, h4, h5, h6, -⟩ := fit_of hb.1 (hb.2.2 k hk) hj ho.2
  rw [srB_true] at h5
  have h7 := (hb.1.2 f hf).1
  have h8 := (hb.2.2 k hk).1
  exact ⟨f, hf, h4, h8.1, h5.2, by rw [e, Int.toNat_natCast]; exact h6, h7.2⟩
theorem lw_bd {cs ds : List Int} {n m : Nat} {sv : List Int} (h : svB cs n ds m sv = true) : ∀ {k : Nat}, k ≤ m → (0 ≤ lwTo cs n ds k ∧ lwTo cs n ds k ≤ 50 * k) ∧ lwTo cs n ds k ≤ wst cs ds sv k
  | 0, _ => by simp [lwTo, wst]
  | k + 1, hk => by
    obtain ⟨f, hf, ⟨h1, -⟩, h2, h3, h4, h5⟩ := fit_at h (show k < m by omega)
    have h6 := lw_bd h (show k ≤ m by omega)
    rw [lwTo, wst, h1, Int.toNat_natCast]
    omega
theorem lw_succ {cs ds : List Int} {n f k : Nat} (h : fitI cs n (smi ds k) (ski ds k) = (f : Int)) : lwTo cs n ds (k + 1) = lwTo cs n ds k + smi cs f - smi ds k := by rw [lwTo, h, Int.toNat_natCast]

theorem specServeBest_is {L : List Int} {F : Bool} (v1 v2 : Value) (cs ds : List Int) (n m h1 h2 : Nat) (w : World) (hv1 : SlF 2 w h1 v1 cs n) (hv2 : SlF 2 w h2 v2 ds m) (h : sbL cs n ds m = L ∧ scB cs n ds m = F) :
    Calls Try.prog 54 #[v1, v2] w fun e w' => ∃ v', e = .returned (.tuple #[v', .bool F]) ∧ Below w.heap.size w w' ∧ Wr w' w.heap.size w'.heap.size v' L := by
  obtain ⟨rfl, rfl⟩ := h
  refine (specServeBest_b v1 v2 cs ds n m h1 h2 w hv1 hv2).mono ?_
  rintro e w' ⟨v', rfl, b, o⟩
  refine ⟨v', rfl, b.out, o.out.wr ?_⟩
  cases e : scB cs n ds m with
  | true =>
    have h3 := (best_of_sc e).2.1
    have h4 : bothB cs n ds m = true := by rw [scB, Bool.and_eq_true] at e; exact e.1
    have := (both_bd h4).2.1
    omega
  | false => unfold sbL; rw [e]; simp
theorem implServeBest_is {L : List Int} {F : Bool} (v1 v2 : Value) (cs ds : List Int) (n m h1 h2 : Nat) (w : World) (hv1 : SlF 2 w h1 v1 cs n) (hv2 : SlF 2 w h2 v2 ds m) (h : sbL cs n ds m = L ∧ scB cs n ds m = F) :
    Calls Try.prog 51 #[v1, v2] w fun e w' => ∃ v', e = .returned (.tuple #[v', .bool F]) ∧ Below w.heap.size w w' ∧ Wr w' w.heap.size w'.heap.size v' L := by
  obtain ⟨rfl, rfl⟩ := h
  exact implServeBest_b v1 v2 cs ds n m h1 h2 w hv1 hv2
theorem implServeWaste_is {M : Int} (v1 v2 v3 : Value) (cs ds sv : List Int) (n m h1 h2 h3 : Nat) (w : World) (hv1 : SlF 2 w h1 v1 cs n) (hv2 : SlF 2 w h2 v2 ds m) (hv3 : Sl w h3 v3 sv) (h : swI cs n ds m sv = M) :
    Calls Try.prog 48 #[v1, v2, v3] w fun e w' => e = .returned (.int .i64 M) ∧ Below w.heap.size w w' := h ▸ implServeWaste_b v1 v2 v3 cs ds sv n m h1 h2 h3 w hv1 hv2 hv3
theorem specServeWaste_is {M : Int} (v1 v2 v3 : Value) (cs ds sv : List Int) (n m h1 h2 h3 : Nat) (w : World) (hv1 : SlF 2 w h1 v1 cs n) (hv2 : SlF 2 w h2 v2 ds m) (hv3 : Sl w h3 v3 sv) (h : swI cs n ds m sv = M) :
    Calls Try.prog 47 #[v1, v2, v3] w fun e w' => e = .returned (.int .i64 M) ∧ Below w.heap.size w w' := h ▸ specServeWaste_b v1 v2 v3 cs ds sv n m h1 h2 h3 w hv1 hv2 hv3
theorem implSparesFit_is {F : Int} {G : Bool} (v : Value) (nm nk : Int) (cs : List Int) (n hi : Nat) (w : World) (hv : SlF 2 w hi v cs n) (h : fitI cs n nm nk = F ∧ fitB cs n nm nk = G) :
    Calls Try.prog 31 #[v, .agg #[.int .i64 nm, .int .i64 nk]] w fun e w' => e = .returned (.tuple #[.int .i64 F, .bool G]) ∧ Below w.heap.size w w' := by
  obtain ⟨rfl, rfl⟩ := h
  exact implSparesFit_b v nm nk cs n hi w hv
theorem specSparesFit_is {F : Int} {G : Bool} (v : Value) (nm nk : Int) (cs : List Int) (n hi : Nat) (w : World) (hv : SlF 2 w hi v cs n) (h : fitI cs n nm nk = F ∧ fitB cs n nm nk = G) :
    Calls Try.prog 29 #[v, .agg #[.int .i64 nm, .int .i64 nk]] w fun e w' => e = .returned (.tuple #[.int .i64 F, .bool G]) ∧ Below w.heap.size w w' := by
  obtain ⟨rfl, rfl⟩ := h
  exact specSparesFit_b v nm nk cs n hi w hv
theorem implServeMany_is {M : Int} (v1 v2 : Value) (cs ds : List Int) (n m h1 h2 : Nat) (w : World) (hv1 : SlF 2 w h1 v1 cs n) (hv2 : SlF 2 w h2 v2 ds m) (h : smI cs n ds m = M) :
    Calls Try.prog 37 #[v1, v2] w fun e w' => e = .returned (.int .i64 M) ∧ Below w.heap.size w w' := h ▸ implServeMany_b v1 v2 cs ds n m h1 h2 w hv1 hv2
theorem implServeCan_is {r : Bool} (v1 v2 : Value) (cs ds : List Int) (n m h1 h2 : Nat) (w : World) (hv1 : SlF 2 w h1 v1 cs n) (hv2 : SlF 2 w h2 v2 ds m) (h : scB cs n ds m = r) :
    Calls Try.prog 43 #[v1, v2] w fun e w' => e = .returned (.bool r) ∧ Below w.heap.size w w' := h ▸ implServeCan_b v1 v2 cs ds n m h1 h2 w hv1 hv2

end Go.Proofs.Ythbkimojbbkeiaa
