/- Contract: ServeBest of the program. -/
import Derived.Test.YthbkimojbbkeiaaSvManyI
import Derived.Test.YthbkimojbbkeiaaSvBest
namespace Go.Proofs.Ythbkimojbbkeiaa
open Go.RowKit

theorem OwI.of_block {w w' : World} {B : Nat} {v : Value} {ys : List Int} (h : OwI w B v ys) (hb : ∀ g, v.ownBlock = some g → w'.heap[g]? = w.heap[g]?) : OwI w' B v ys := by
  obtain ⟨hl, hv⟩ := h
  refine ⟨hl, ?_⟩
  rcases hv with h1 | ⟨g, cap, cur, rfl, hB, hg, r⟩
  · exact .inl h1
  · exact .inr ⟨g, cap, cur, rfl, hB, (hb g rfl).trans hg, r⟩
theorem Wr.clip {w : World} {lo hi : Nat} {a : Option Addr} {n c : Nat} {xs : List Int} (h : Wr w lo hi (.slice a n c) xs) : Wr w lo hi (.slice a n n) xs := by
  obtain ⟨a', n', cap, e, h1, h2, h3, h4, h5⟩ := h
  cases e
  exact ⟨a, n, n, rfl, h1, h2, Nat.le_refl _, by omega, h5⟩

/-- What the variables hold: whether one is found, its waste, the list. -/
def BSt (cs ds : List Int) (m z : Nat) (V : List (List Int)) (g : Nat) (W : World) (F : Bool) (L : Int) (bv : Value) : Prop :=
  match bestOf cs ds m V with
  | none => F = false ∧ L = 0 ∧ bv = .slice none 0 0
  | some x => F = true ∧ L = wst cs ds x m ∧ OwI W z bv x ∧ ∀ b, bv.ownBlock = some b → b ≠ z + 4 ∧ b ≠ z + 5 ∧ b ≠ g
theorem BSt.none {cs ds : List Int} {m z : Nat} {V : List (List Int)} {g : Nat} {W : World} {F : Bool} {L : Int} {bv : Value} (e : bestOf cs ds m V = .none) : BSt cs ds m z V g W F L bv ↔ F = false ∧ L = 0 ∧ bv = .slice .none 0 0 := by
  unfold BSt; rw [e]
theorem BSt.some {cs ds x : List Int} {m z : Nat} {V : List (List Int)} {g : Nat} {W : World} {F : Bool} {L : Int} {bv : Value} (e : bestOf cs ds m V = .some x) : BSt cs ds m z V g W F L bv ↔ F = true ∧ L = wst cs ds x m ∧ OwI W z bv x ∧ ∀ b, bv.ownBlock = .some b → b ≠ z + 4 ∧ b ≠ z + 5 ∧ b ≠ g := by
  unfold BSt; rw [e]

structure KB (cs ds : List Int) (m s t : Nat) (v1 v2 : Value) (V : List (List Int)) (g : Nat) (W : World) : Prop where
  zg : t + 3 ≤ g
  zs : t + 3 ≤ W.heap.size
  r1 : Row W s 25 #[v1]
  r2 : Row W (s + 1) 25 #[v2]
  st : ∃ F L bv, Row W (t + 1) 4 #[.bool F] ∧ Row W (t + 2) 3 #[.int .i64 L] ∧ Row W t 38 #[bv] ∧ BSt cs ds m (t + 3) V g W F L bv

theorem KB.kp {cs ds : List Int} {m s t : Nat} {v1 v2 : Value} (hst : s + 2 ≤ t) {V : List (List Int)} {g g' : Nat} {W W' : World} (h : KB cs ds m s t v1 v2 V g W) (hk : kp (t + 3) g W W') (hg : g' = g ∨ W.heap.size ≤ g') : KB cs ds m s t v1 v2 V g' W' := by
  obtain ⟨zg, zs, r1, r2, F, L, bv, rF, rL, rb, hs⟩ := h
  obtain ⟨hsz, hb⟩ := hk
  have go : ∀ {b : Nat} {ty : TypeId} {cur : Array Value}, b < t + 3 → Row W b ty cur → Row W' b ty cur := fun hbt hr => (hb _ hr.lt (by omega) (by omega) (by omega)).trans hr
  refine ⟨by omega, by omega, go (by omega) r1, go (by omega) r2, F, L, bv, go (by omega) rF, go (by omega) rL, go (by omega) rb, ?_⟩
  cases e : bestOf cs ds m V with
  | none => rw [BSt.none e] at hs ⊢; exact hs
  | some x =>
    rw [BSt.some e] at hs ⊢
    obtain ⟨h1, h2, h3, h4⟩ := hs
    refine ⟨h1, h2, h3.of_block fun b hbv => hb b (h3.lt b hbv).2 (h4 b hbv).1 (h4 b hbv).2.1 (h4 b hbv).2.2, fun b hbv => ⟨(h4 b hbv).1, (h4 b hbv).2.1, ?_⟩⟩
    have h5 := (h3.lt b hbv).2
    have h6 := (h4 b hbv).2.2
    omega

theorem servs_fits {cs ds : List Int} {n m : Nat} {p : List Int} (hc : spTo cs n) (hd : spTo ds m) (h : p ∈ servs cs ds n m []) : fitsL cs ds n m p ∧ p.length = m := by
  obtain ⟨h1, h2⟩ := mem_all.1 h
  refine ⟨⟨⟨hc, hd⟩, by omega, fun x hx => ?_⟩, h1⟩
  obtain ⟨k, hk, e, _⟩ := h2 x (by omega)
  omega

set_option maxRecDepth 100000 in
set_option maxHeartbeats 4000000 in
theorem bestStep (cs ds : List Int) (n m h1 h2 s t : Nat) (W0 : World) (hst : s + 2 ≤ t) (hS : W0.heap.size ≤ s) (hm5 : m ≤ 5) (hc : spTo cs n) (hd : spTo ds m) (v1 v2 fv : Value) (hv1 : SlF 2 W0 h1 v1 cs n) (hv2 : SlF 2 W0 h2 v2 ds m)
    (p : List Int) (g c q : Nat) (V : List (List Int)) (W : World) (hp : p ∈ servs cs ds n m []) (hSv : Sv W0 (t + 3) v1 v2 fv (KB cs ds m s t v1 v2) p g c q V W) :
    Calls Try.prog 85 #[.slice (some ⟨g, 0, none⟩) p.length c, .pointer (some ⟨s, 0, none⟩), .pointer (some ⟨s + 1, 0, none⟩), .pointer (some ⟨t + 1, 0, none⟩), .pointer (some ⟨t + 2, 0, none⟩), .pointer (some ⟨t, 0, none⟩)] W
      fun e W' => e = .returned (.tuple #[]) ∧ Hid (KB cs ds m s t v1 v2 (V ++ [p]) g W' ∧ Cb W0.heap.size (t + 3) W W') := by
  obtain ⟨hf, hpl⟩ := servs_fits hc hd hp
  have HF := Lib.hid hf
  have hwb := wst_bd hf (Nat.le_refl _)
  obtain ⟨A, hA⟩ : ∃ A, wst cs ds p p.length = A := ⟨_, rfl⟩
  have HA := Lib.hid hA
  have HAm : Hid (wst cs ds p m = A) := Lib.hid (by rw [← hpl]; exact hA)
  have hszv := hSv.sz
  obtain ⟨zg, zs, r1, r2, F, L, bv, rF, rL, rb, hs⟩ := hSv.kk
  have V1 := Lib.hid (hv1.old hSv.bel)
  have V2 := Lib.hid (hv2.old hSv.bel)
  have OWp := Lib.hid hSv.ow
  have hap := hSv.ap
  have hgW := (hSv.ow.lt g rfl).2
  obtain ⟨a1, cap1, rfl, -⟩ := hv1
  obtain ⟨a2, cap2, rfl, -⟩ := hv2
  have c1 := (r1.cell 0).trans (show _ = some (Value.slice a1 n cap1) from rfl)
  have c2 := (r2.cell 0).trans (show _ = some (Value.slice a2 m cap2) from rfl)
  have R := Lib.hid (And.intro r1 (And.intro r2 (And.intro rF (And.intro rL rb))))
  have HS := Lib.hid hs
  have wc : ∀ (w3 : World), Calls Try.prog 84 #[.slice a1 n cap1, .slice a2 m cap2, .slice (some ⟨g, 0, none⟩) p.length c] W (fun e w' => e = .returned (.int .i64 A) ∧ Below W.heap.size W w') := fun _ => by
    rw [← hA]
    exact wasteOf_b _ _ _ cs ds p n m _ _ _ W V1.out V2.out (OWp.out.wr (by have := hf.2.1; omega)).sl hf hm5
  have WC := Lib.hid (wc W)
  have hp0 : p.length ≤ 1000 := by have := hf.2.1; omega
  rw [hA] at hwb
  obtain ⟨l, hl⟩ : ∃ l, p.length = l := ⟨_, rfl⟩
  rw [hl] at WC OWp hwb ⊢
  have HL := Lib.hid hl
  have hl5 : l ≤ 5 := by have := hf.2.1; omega
  clear wc hf hA hs rF rL rb r1 r2 hSv hpl hp hl
  go_enter Try.func85, Try.ntmps85
  go_wp2_with fail
  refine WC.out.mono ?_
  rintro e w2 ⟨rfl, b2⟩
  have B2 := Lib.hid b2
  have hz2 := b2.size
  have rF := R.out.2.2.1.old b2
  have rL := R.out.2.2.2.1.old b2
  have rb := R.out.2.2.2.2.old b2
  have cF := (rF.cell 0).trans (show _ = some (Value.bool F) from rfl)
  have cL := (rL.cell 0).trans (show _ = some (Value.int .i64 L) from rfl)
  have R2 := Lib.hid (And.intro (R.out.1.old b2) (And.intro (R.out.2.1.old b2) (And.intro rF (And.intro rL rb))))
  have O2 := Lib.hid (OWp.out.below b2)
  clear c1 c2 WC b2 rF rL rb R
  cases hb : (!F || decide (A < L)) with
  | false =>
    have hF : F = true := by cases F <;> simp_all
    subst hF
    have hd : decide (A < L) = false := by simpa using hb
    have hlt : ¬ A < L := of_decide_eq_false hd
    have hgoal : Hid (KB cs ds m s t (.slice a1 n cap1) (.slice a2 m cap2) (V ++ [p]) g w2) := Lib.hid (by
      refine ⟨zg, by omega, R2.out.1, R2.out.2.1, true, L, bv, R2.out.2.2.1, R2.out.2.2.2.1, R2.out.2.2.2.2, ?_⟩
      have hs := HS.out
      cases e : bestOf cs ds m V with
      | none => rw [BSt.none e] at hs; exact absurd hs.1 (by simp)
      | some x =>
        rw [BSt.some e] at hs
        obtain ⟨_, hx, h3, h4⟩ := hs
        have e2 : bestOf cs ds m (V ++ [p]) = some x := by
          rw [bestOf_push, e]
          simp only [better]
          rw [if_neg (by rw [HAm.out, ← hx]; exact hlt)]
        rw [BSt.some e2]
        exact ⟨rfl, hx, h3.below B2.out, h4⟩)
    clear hb hlt
    go_wp2_with fail
    go_end0
    exact ⟨rfl, Lib.hid ⟨hgoal.out, B2.out.mono (by omega), fun k _ hk => B2.out.block k hk⟩⟩
  | true =>
    have fF := R2.out.2.2.1.frozen 0
    have hcl := cloneI_any g c p w2.heap.size w2 hp0 ⟨by rw [HL.out]; exact (O2.out.wr (by omega)).sl, by rw [HL.out]; exact O2.out.src⟩
    rw [HL.out] at hcl
    have HCL := Lib.hid hcl
    clear hcl fF
    have fin : Hid (∀ (w3 : World) (v' : Value), OwI w3 w2.heap.size v' p → Below w2.heap.size w2 w3 → KB cs ds m s t (.slice a1 n cap1) (.slice a2 m cap2) (V ++ [p]) g (((w3.setCell ⟨t, 0, none⟩ v').setCell ⟨t + 1, 0, none⟩ (.bool true)).setCell ⟨t + 2, 0, none⟩ (.int .i64 A)) ∧
        Cb W0.heap.size (t + 3) W (((w3.setCell ⟨t, 0, none⟩ v').setCell ⟨t + 1, 0, none⟩ (.bool true)).setCell ⟨t + 2, 0, none⟩ (.int .i64 A))) := Lib.hid fun w3 v' ow b3 => by
      have hsz3 := b3.size
      have szE : (((w3.setCell ⟨t, 0, none⟩ v').setCell ⟨t + 1, 0, none⟩ (.bool true)).setCell ⟨t + 2, 0, none⟩ (.int .i64 A)).heap.size = w3.heap.size := by simp [World.setCell]
      have blk : ∀ k, t + 3 ≤ k ∨ k < t → (((w3.setCell ⟨t, 0, none⟩ v').setCell ⟨t + 1, 0, none⟩ (.bool true)).setCell ⟨t + 2, 0, none⟩ (.int .i64 A)).heap[k]? = w3.heap[k]? := fun k hk =>
        ((Below.heap_setCell _ ⟨t + 2, 0, none⟩ _ k (by show k ≠ t + 2; omega)).trans (Below.heap_setCell _ ⟨t + 1, 0, none⟩ _ k (by show k ≠ t + 1; omega))).trans (Below.heap_setCell _ ⟨t, 0, none⟩ _ k (by show k ≠ t; omega))
      obtain ⟨q1, q2, q3, q4, q5⟩ := R2.out
      refine ⟨⟨zg, by rw [szE]; omega, (blk s (by omega)).trans (q1.old b3), (blk (s + 1) (by omega)).trans (q2.old b3), true, A, v', ?_, ?_, ?_, ?_⟩, ?_, ?_⟩
      · exact (((q3.old b3).other (a := ⟨t, 0, none⟩) (by show t + 1 ≠ t; omega) _).set 0 _).other (a := ⟨t + 2, 0, none⟩) (by show t + 1 ≠ t + 2; omega) _
      · exact (((q4.old b3).other (a := ⟨t, 0, none⟩) (by show t + 2 ≠ t; omega) _).other (a := ⟨t + 1, 0, none⟩) (by show t + 2 ≠ t + 1; omega) _).set 0 _
      · exact (((q5.old b3).set 0 _).other (a := ⟨t + 1, 0, none⟩) (by show t ≠ t + 1; omega) _).other (a := ⟨t + 2, 0, none⟩) (by show t ≠ t + 2; omega) _
      · have e2 : bestOf cs ds m (V ++ [p]) = some p := by
          rw [bestOf_push]
          have hs := HS.out
          cases e : bestOf cs ds m V with
          | none => rfl
          | some x =>
            rw [BSt.some e] at hs
            simp only [better]
            have hlt : A < L := by
              have h5 := hs.1
              subst h5
              simpa using hb
            rw [if_pos (by rw [HAm.out, ← hs.2.1]; exact hlt)]
        rw [BSt.some e2]
        refine ⟨rfl, HAm.out.symm, ?_, fun b hbv => ?_⟩
        · refine OwI.of_block (owns_mono ow (by omega)) fun b hbv => blk b (.inl ?_)
          have := (ow.lt b hbv).1
          omega
        · have := (ow.lt b hbv).1
          omega
      · have bb : Below W.heap.size W w3 := nextW B2.out b3
        exact (((bb.mono (Nat.le_trans (by omega : W0.heap.size ≤ t) (by omega))).setCell (p := ⟨t, 0, none⟩) (by show W0.heap.size ≤ t; omega) _).setCell (p := ⟨t + 1, 0, none⟩) (by show W0.heap.size ≤ t + 1; omega) _).setCell (p := ⟨t + 2, 0, none⟩) (by show W0.heap.size ≤ t + 2; omega) _
      · intro k hk hkW
        exact (blk k (.inl hk)).trans ((nextW B2.out b3).block k hkW)
    have fcell : Hid (∀ (w3 : World), Below w2.heap.size w2 w3 → w3.frozen? ⟨t, 0, none⟩ = false ∧ w3.frozen? ⟨t + 1, 0, none⟩ = false ∧ w3.frozen? ⟨t + 2, 0, none⟩ = false ∧ w3.cell? ⟨t, 0, none⟩ = some bv ∧ w3.cell? ⟨t + 1, 0, none⟩ = some (.bool F) ∧ w3.cell? ⟨t + 2, 0, none⟩ = some (.int .i64 L)) := Lib.hid fun w3 b3 => by
      obtain ⟨q1, q2, q3, q4, q5⟩ := R2.out
      exact ⟨(q5.old b3).frozen 0, (q3.old b3).frozen 0, (q4.old b3).frozen 0, ((q5.old b3).cell 0).trans rfl, ((q3.old b3).cell 0).trans rfl, ((q4.old b3).cell 0).trans rfl⟩
    cases F with
    | false =>
      clear hb
      go_wp2_with fail
      refine HCL.out.mono ?_
      rintro e w3 ⟨v', rfl, ow, b3⟩
      obtain ⟨y1, y2, y3, y4, y5, y6⟩ := fcell.out w3 b3.out
      have HG := Lib.hid (fin.out w3 v' ow.out b3.out)
      obtain ⟨sa, sn, sc, rfl, -⟩ := ow.out.form3
      clear cF cL fin fcell
      go_wp2_with fail
      go_end0
      exact ⟨rfl, HG⟩
    | true =>
      have hd : decide (A < L) = true := by simpa using hb
      clear hb
      go_wp2_with fail
      refine HCL.out.mono ?_
      rintro e w3 ⟨v', rfl, ow, b3⟩
      obtain ⟨y1, y2, y3, y4, y5, y6⟩ := fcell.out w3 b3.out
      have HG := Lib.hid (fin.out w3 v' ow.out b3.out)
      obtain ⟨sa, sn, sc, rfl, -⟩ := ow.out.form3
      clear cF cL fin fcell
      go_wp2_with fail
      go_end0
      exact ⟨rfl, HG⟩

end Go.Proofs.Ythbkimojbbkeiaa
