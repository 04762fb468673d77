/- Plain: servings that are valid, and what follows of them; the draw DrawServeWaste. -/
import Derived.Test.YthbkimojbbkeiaaSpDr4
import Derived.Test.YthbkimojbbkeiaaSvDel
namespace Go.Proofs.Ythbkimojbbkeiaa
open Go.RowKit

theorem vB_iff {cs ds : List Int} {n x : Nat} {sv : List Int} (hx : x < sv.length) : vB cs ds n sv x = true ↔ vAt cs ds n sv x := by
  have hl : (sv.take x).length = x := by rw [List.length_take]; omega
  unfold vB vAt okAt
  rw [hl]
  constructor
  · rw [Bool.and_eq_true, inB_true]
    rintro ⟨⟨h1, h2⟩, h3⟩
    obtain ⟨k, hk⟩ := Int.eq_ofNat_of_zero_le h1
    rw [hk, Int.toNat_natCast] at h3
    exact ⟨k, by omega, hk, h3⟩
  · rintro ⟨k, h1, h2, h3⟩
    rw [h2, Int.toNat_natCast, h3, Bool.and_true, inB_true]
    omega
theorem svB_mem {cs ds : List Int} {n m : Nat} {sv : List Int} : svB cs n ds m sv = true ↔ bothB cs n ds m = true ∧ sv ∈ servs cs ds n m [] := by
  rw [svB_true, mem_all]
  constructor
  · rintro ⟨h1, h2, h3⟩
    exact ⟨h1, h2, fun x hx => (vB_iff (by omega)).1 (h3 x hx)⟩
  · rintro ⟨h1, h2, h3⟩
    exact ⟨h1, h2, fun x hx => (vB_iff (by omega)).2 (h3 x hx)⟩
theorem sv_ne {cs ds : List Int} {n m : Nat} {sv : List Int} (h : svB cs n ds m sv = true) {x y : Nat} (hx : x < m) (hy : y < x) : gi sv y ≠ gi sv x := by
  obtain ⟨-, h2⟩ := svB_mem.1 h
  obtain ⟨h3, h4⟩ := mem_all.1 h2
  exact ((vAt_iff (by omega)).1 (h4 x hx)).2.1 y hy
theorem sv_can {cs ds : List Int} {n m : Nat} {sv : List Int} (h : svB cs n ds m sv = true) : scB cs n ds m = true ∧ 1 ≤ smI cs n ds m := by
  obtain ⟨h1, h2⟩ := svB_mem.1 h
  have h3 : 0 < manyI cs ds n m [] := many_some.2 ⟨_, h2⟩
  have h4 : 1 ≤ smI cs n ds m := by unfold smI; rw [if_pos h1]; omega
  exact ⟨by rw [scB_many]; exact decide_eq_true (by omega), h4⟩
theorem take2_at {ds : List Int} {q i : Nat} (h : i < q) : smi (ds.take (q * 2)) i = smi ds i ∧ ski (ds.take (q * 2)) i = ski ds i := by
  unfold smi ski gi
  rw [List.getElem?_take_of_lt (by omega), List.getElem?_take_of_lt (by omega)]
  exact ⟨rfl, rfl⟩
theorem spTo_take {ds : List Int} {m q : Nat} (h : spTo ds m) (hq : q ≤ m) : spTo (ds.take (q * 2)) q := fun i hi => by
  have := h i (by omega)
  unfold spOk at this ⊢
  rw [(take2_at hi).1, (take2_at hi).2]
  exact this
/-- Fewer needs are served by the first spares of the list. -/
theorem svB_cut {cs ds : List Int} {n m q : Nat} {sv : List Int} (h : svB cs n ds m sv = true) (hq : q ≤ m) : svB cs n (ds.take (q * 2)) q (sv.take q) = true := by
  obtain ⟨h1, h2, h3⟩ := svB_true.1 h
  have hb := both_bd h1
  refine svB_true.2 ⟨both_of hb.1.1 hb.1.2 (by omega) (spTo_take hb.2.2 hq), by rw [List.length_take]; omega, fun x hx => ?_⟩
  have := h3 x (by omega)
  unfold vB at this ⊢
  rw [(take2_at hx).1, (take2_at hx).2, show gi (sv.take q) x = gi sv x from by unfold gi; rw [List.getElem?_take_of_lt hx], List.take_take, Nat.min_eq_left (by omega)]
  exact this
theorem SlF.cut2 {w : World} {hi : Nat} {a : Option Addr} {n cap : Nat} {cs : List Int} (h : SlF 2 w hi (.slice a n cap) cs n) {k : Nat} (hk : k ≤ n) : SlF 2 w hi (.slice a k cap) (cs.take (k * 2)) k := by
  obtain ⟨a', cap', e, h1, h2, h3, h4, h5⟩ := h
  cases e
  refine ⟨_, _, rfl, by rw [List.length_take]; omega, by omega, by omega, h4, fun hn => ?_⟩
  obtain ⟨b, off, rfl, hb, hc⟩ := h5 (by omega)
  exact ⟨b, off, rfl, hb, fun j hj => by rw [hc j (by omega), show gi (cs.take (k * 2)) j = gi cs j from by unfold gi; rw [List.getElem?_take_of_lt hj]]⟩

set_option maxRecDepth 100000 in
theorem drawServeWaste_any (v : Value) (n hi : Nat) (w : World) (hv : By w hi v n) (hhi : hi ≤ w.heap.size) :
    Calls Try.prog 58 #[v] w fun e w' => ∃ v1 v2 v3, e = .returned (.tuple #[v1, v2, v3]) ∧ Hid (∃ cs n ds m sv, Below w.heap.size w w' ∧ SlF 2 w' w'.heap.size v1 cs n ∧ SlF 2 w' w'.heap.size v2 ds m ∧ Sl w' w'.heap.size v3 sv ∧ n ≤ 12 ∧ m ≤ 4) := by
  go_enter Try.func58, Try.ntmps58
  go_wp2_with fail
  refine (drawServeValid_any v n hi w hv hhi).mono ?_
  rintro e w1 ⟨v1, v2, v3, rfl, hd⟩
  have hd2 := hd.out
  obtain ⟨cs, n, ds, m, sv, b1, s1, s2, s3, -⟩ := hd2
  obtain ⟨_, _, rfl, -⟩ := s1
  obtain ⟨_, _, rfl, -⟩ := s2
  obtain ⟨_, _, _, rfl, -⟩ := s3
  clear b1
  go_wp2_with fail
  go_ret3
  exact ⟨_, _, _, rfl, hd⟩

end Go.Proofs.Ythbkimojbbkeiaa
