/- Contract: eachServing of the program, at whatever function that it is handed. -/
import Derived.Test.YthbkimojbbkeiaaSvLeast
import Derived.Test.YthbkimojbbkeiaaSvValidI
import Derived.RegionTactic
namespace Go.Proofs.Ythbkimojbbkeiaa
open Go.RowKit

/-- 'm &^= 1 << t' takes t out of the set. -/
theorem bit_clear (m t : Nat) (hm : m < 1024) (ht : t ≤ 9) (h : m.testBit t = false) : bits .andNot .i64 ((m ||| 2 ^ t : Nat) : Int) (wrap64 (2 ^ t)) = (m : Int) := by
  have hp : 2 ^ t < 2 ^ 10 := Nat.pow_lt_pow_right (by omega) (by omega)
  have e : wrap64 (2 ^ t) = ((2 ^ t : Nat) : Int) := by
    have : (2 : Int) ^ t = ((2 ^ t : Nat) : Int) := by rw [Int.natCast_pow]; rfl
    rw [this]
    revert hp
    generalize 2 ^ t = p
    intro hp
    exact IntWalk.wrap64_in _ ⟨by omega, by omega⟩
  have hor : m ||| 2 ^ t < 2 ^ 10 := Nat.or_lt_two_pow (n := 10) (by omega) (by omega)
  rw [e]
  show IntKind.i64.wrap (((BitVec.ofInt IntKind.i64.bits ((m ||| 2 ^ t : Nat) : Int)) &&& ~~~(BitVec.ofInt IntKind.i64.bits ((2 ^ t : Nat) : Int))).toNat : Int) = _
  rw [BitVec.toNat_and, BitVec.toNat_not, ofInt_i64 _ (by omega), ofInt_i64 _ (by omega)]
  have key : (m ||| 2 ^ t) &&& (2 ^ IntKind.i64.bits - 1 - 2 ^ t) = m := by
    apply Nat.eq_of_testBit_eq
    intro i
    have e2 : 2 ^ IntKind.i64.bits - 1 - 2 ^ t = 2 ^ 64 - (2 ^ t + 1) := by
      show 2 ^ 64 - 1 - 2 ^ t = _
      omega
    rw [Nat.testBit_and, e2, Nat.testBit_two_pow_sub_succ (by omega), Nat.testBit_or, Nat.testBit_two_pow]
    by_cases hi : t = i
    · subst hi; simp [h]
    · by_cases h64 : i < 64
      · simp [hi, h64]
      · have : m.testBit i = false := Nat.testBit_lt_two_pow (Nat.lt_of_lt_of_le (show m < 2 ^ 10 by omega) (Nat.pow_le_pow_right (by omega) (by omega)))
        simp [this, h64]
  rw [key]
  exact wrap_i64_nat _ (by omega)

/-- What a step that writes only to the two variables of the walk, or to the block of its list, keeps. -/
def kp (z g : Nat) (W W' : World) : Prop := W.heap.size ≤ W'.heap.size ∧ ∀ k, k < W.heap.size → k ≠ z + 4 → k ≠ z + 5 → k ≠ g → W'.heap[k]? = W.heap[k]?
/-- What a call of the handed function keeps. -/
def Cb (S z : Nat) (W W' : World) : Prop := Below S W W' ∧ ∀ k, z ≤ k → k < W.heap.size → W'.heap[k]? = W.heap[k]?

/-- What stands in the walk over all servings: the variables, the list p in block g, the mask q, and K of what has come. -/
structure Sv (W0 : World) (z : Nat) (v1 v2 fv : Value) (K : List (List Int) → Nat → World → Prop) (p : List Int) (g c q : Nat) (V : List (List Int)) (W : World) : Prop where
  bel : Below W0.heap.size W0 W
  rl : Row W z 25 #[v1]
  rn : Row W (z + 1) 25 #[v2]
  rc : Row W (z + 2) 73 #[fv]
  rf : Row W (z + 6) 1 #[.func (.func 94) #[] #[.pointer (some ⟨z + 4, 0, none⟩), .pointer (some ⟨z + 1, 0, none⟩), .pointer (some ⟨z + 2, 0, none⟩), .pointer (some ⟨z, 0, none⟩), .pointer (some ⟨z + 5, 0, none⟩), .pointer (some ⟨z + 6, 0, none⟩)]]
  rs : Row W (z + 4) 38 #[.slice (some ⟨g, 0, none⟩) p.length c]
  ow : OwI W (z + 3) (.slice (some ⟨g, 0, none⟩) p.length c) p
  ap : g = z + 3 ∨ z + 7 ≤ g
  ru : Row W (z + 5) 3 #[.int .i64 (q : Int)]
  kk : K V g W

section
variable {W0 : World} {z : Nat} {v1 v2 fv : Value} {K : List (List Int) → Nat → World → Prop} {p : List Int} {g c q : Nat} {V : List (List Int)} {W : World}
theorem Sv.sz (h : Sv W0 z v1 v2 fv K p g c q V W) : z + 7 ≤ W.heap.size := by have := h.rf.lt; omega
theorem Sv.old (HK : ∀ V g g' W W', K V g W → kp z g W W' → (g' = g ∨ W.heap.size ≤ g') → K V g' W') (h : Sv W0 z v1 v2 fv K p g c q V W) {W' : World} (b : Below W.heap.size W W') : Sv W0 z v1 v2 fv K p g c q V W' :=
  ⟨nextW h.bel b, h.rl.old b, h.rn.old b, h.rc.old b, h.rf.old b, h.rs.old b, h.ow.below b, h.ap, h.ru.old b, HK _ _ _ _ _ h.kk ⟨b.size, fun k hk _ _ _ => b.block k hk⟩ (.inl rfl)⟩
theorem OwI.set_other {w : World} {B : Nat} {n : Nat} {ys : List Int} (h : OwI w B (.slice (some ⟨g, 0, none⟩) n c) ys) {b : Nat} {u : Value} (hb : g ≠ b) : OwI (w.setCell ⟨b, 0, none⟩ u) B (.slice (some ⟨g, 0, none⟩) n c) ys :=
  h.other (p := ⟨b, 0, none⟩) (fun e => hb (by cases e; rfl))
theorem kp_set {b : Nat} {u : Value} (hb : b = z + 4 ∨ b = z + 5) : kp z g W (W.setCell ⟨b, 0, none⟩ u) :=
  ⟨by simp [World.setCell], fun k _ h4 h5 _ => Below.heap_setCell W ⟨b, 0, none⟩ u k (by show k ≠ b; omega)⟩
theorem Sv.mask (HK : ∀ V g g' W W', K V g W → kp z g W W' → (g' = g ∨ W.heap.size ≤ g') → K V g' W') (h : Sv W0 z v1 v2 fv K p g c q V W) (hz : W0.heap.size ≤ z) (q' : Nat) :
    Sv W0 z v1 v2 fv K p g c q' V (W.setCell ⟨z + 5, 0, none⟩ (.int .i64 (q' : Int))) :=
  ⟨h.bel.setCell (p := ⟨z + 5, 0, none⟩) (by show W0.heap.size ≤ z + 5; omega) _, h.rl.other (a := ⟨z + 5, 0, none⟩) (by show z ≠ z + 5; omega) _, h.rn.other (a := ⟨z + 5, 0, none⟩) (by show z + 1 ≠ z + 5; omega) _, h.rc.other (a := ⟨z + 5, 0, none⟩) (by show z + 2 ≠ z + 5; omega) _,
    h.rf.other (a := ⟨z + 5, 0, none⟩) (by show z + 6 ≠ z + 5; omega) _, h.rs.other (a := ⟨z + 5, 0, none⟩) (by show z + 4 ≠ z + 5; omega) _, h.ow.set_other (by have := h.ap; omega), h.ap, h.ru.set 0 _, HK _ _ _ _ _ h.kk (kp_set (.inr rfl)) (.inl rfl)⟩
theorem Row.grown' {w w' : World} {b : Nat} {t : TypeId} {cur : Array Value} {r : Option Nat} (h : Row w b t cur) (hg : w.grownBy w' r) (hr : r ≠ some b) : Row w' b t cur :=
  (hg.block b h.lt (fun e => hr e.symm)).trans h
/-- 'serving = append(serving, y)'. -/
theorem Sv.push (HK : ∀ V g g' W W', K V g W → kp z g W W' → (g' = g ∨ W.heap.size ≤ g') → K V g' W') (h : Sv W0 z v1 v2 fv K p g c q V W) (hz : W0.heap.size ≤ z) {y : Int} {g' c' : Nat} {W' : World}
    (ow : OwI W' (z + 3) (.slice (some ⟨g', 0, none⟩) (p.length + 1) c') (p ++ [y])) (hg : W.grownBy W' (some g)) (hn : NewBlk W (.slice (some ⟨g, 0, none⟩) p.length c) (.slice (some ⟨g', 0, none⟩) (p.length + 1) c')) :
    Sv W0 z v1 v2 fv K (p ++ [y]) g' c' q V (W'.setCell ⟨z + 4, 0, none⟩ (.slice (some ⟨g', 0, none⟩) (p.length + 1) c')) := by
  have hzs := h.sz
  have ap := h.ap
  have hg' : g' = g ∨ W.heap.size ≤ g' := by
    rcases hn with e | ⟨x, e, hx⟩
    · left; cases e; rfl
    · right; cases e; exact hx
  have hne : ∀ b, (b = z ∨ b = z + 1 ∨ b = z + 2 ∨ b = z + 4 ∨ b = z + 5 ∨ b = z + 6) → some g ≠ some b := by
    intro b hb e
    cases e
    omega
  have o4 : ∀ b, b ≠ z + 4 → b ≠ ((⟨z + 4, 0, none⟩ : Addr)).block := fun b hb => hb
  refine ⟨?_, (h.rl.grown' hg (hne _ (by omega))).other (o4 _ (by omega)) _, (h.rn.grown' hg (hne _ (by omega))).other (o4 _ (by omega)) _, (h.rc.grown' hg (hne _ (by omega))).other (o4 _ (by omega)) _, (h.rf.grown' hg (hne _ (by omega))).other (o4 _ (by omega)) _, ?_, ?_, by omega, (h.ru.grown' hg (hne _ (by omega))).other (o4 _ (by omega)) _, ?_⟩
  · have hb : Below W0.heap.size W0 W' := ⟨hg.os.trans h.bel.os, hg.tape.trans h.bel.tape, hg.output.trans h.bel.output, Nat.le_trans h.bel.size hg.size, fun k hk => (hg.block k (by have := h.bel.size; omega) (fun e => by cases e; omega)).trans (h.bel.block k hk)⟩
    exact hb.setCell (p := ⟨z + 4, 0, none⟩) (by show W0.heap.size ≤ z + 4; omega) _
  · rw [List.length_append, List.length_singleton]
    exact (h.rs.grown' hg (hne _ (by omega))).set 0 _
  · rw [List.length_append, List.length_singleton]
    exact ow.set_other (by omega)
  · refine HK _ g _ W _ h.kk ⟨by simp [World.setCell]; exact hg.size, fun k hk h4 h5 hkg => ?_⟩ hg'
    exact (Below.heap_setCell W' ⟨z + 4, 0, none⟩ _ k (by show k ≠ z + 4; exact h4)).trans (hg.block k hk (fun e => by cases e; exact hkg rfl))
/-- 'serving = serving[:len(serving)-1]'. -/
theorem Sv.pop (HK : ∀ V g g' W W', K V g W → kp z g W W' → (g' = g ∨ W.heap.size ≤ g') → K V g' W') {y : Int} (h : Sv W0 z v1 v2 fv K (p ++ [y]) g c q V W) (hz : W0.heap.size ≤ z) :
    Sv W0 z v1 v2 fv K p g c q V (W.setCell ⟨z + 4, 0, none⟩ (.slice (some ⟨g, 0, none⟩) p.length c)) := by
  have ap := h.ap
  have o4 : ∀ b, b ≠ z + 4 → b ≠ ((⟨z + 4, 0, none⟩ : Addr)).block := fun b hb => hb
  refine ⟨h.bel.setCell (p := ⟨z + 4, 0, none⟩) (by show W0.heap.size ≤ z + 4; omega) _, h.rl.other (o4 _ (by omega)) _, h.rn.other (o4 _ (by omega)) _, h.rc.other (o4 _ (by omega)) _, h.rf.other (o4 _ (by omega)) _, h.rs.set 0 _, ?_, ap, h.ru.other (o4 _ (by omega)) _, HK _ _ _ _ _ h.kk (kp_set (.inl rfl)) (.inl rfl)⟩
  have : OwI W (z + 3) (.slice (some ⟨g, 0, none⟩) p.length c) p := by
    obtain ⟨hl, hv⟩ := h.ow
    refine ⟨by simp, ?_⟩
    rcases hv with ⟨e, _⟩ | ⟨g2, cap, cur, e, hB, hg, hc1, hc2, hc3, hc4⟩
    · cases e
    · cases e
      refine .inr ⟨g, c, cur, rfl, hB, hg, by rw [List.length_append, List.length_singleton] at hc1; omega, hc2, hc3, ?_⟩
      rw [List.length_append, List.length_singleton, List.map_append] at hc4
      have h2 : (cur.toList.take ((p.length + 1) * 1)).take (p.length * 1) = cur.toList.take (p.length * 1) := by rw [List.take_take]; congr 1; omega
      rw [← h2, hc4, List.take_append_of_le_length (by simp)]
      rw [List.take_of_length_le (by simp)]
  exact this.set_other (by omega)
theorem Sv.call (h : Sv W0 z v1 v2 fv K p g c q V W) {W' : World} {V' : List (List Int)} (hk : K V' g W') (hb : Cb W0.heap.size z W W') : Sv W0 z v1 v2 fv K p g c q V' W' := by
  have ap := h.ap
  have rw' : ∀ {b : Nat} {t : TypeId} {cur : Array Value}, z ≤ b → Row W b t cur → Row W' b t cur := fun hb' hr => (hb.2 _ hb' hr.lt).trans hr
  refine ⟨h.bel.trans hb.1, rw' (by omega) h.rl, rw' (by omega) h.rn, rw' (by omega) h.rc, rw' (by omega) h.rf, rw' (by omega) h.rs, ?_, ap, rw' (by omega) h.ru, hk⟩
  obtain ⟨hl, hv⟩ := h.ow
  refine ⟨hl, ?_⟩
  rcases hv with ⟨e, _⟩ | ⟨g2, cap, cur, e, hB, hg, r⟩
  · cases e
  · exact .inr ⟨g2, cap, cur, e, hB, (hb.2 g2 (by omega) (Array.getElem?_eq_some_iff.1 hg).1).trans hg, r⟩
end

end Go.Proofs.Ythbkimojbbkeiaa
