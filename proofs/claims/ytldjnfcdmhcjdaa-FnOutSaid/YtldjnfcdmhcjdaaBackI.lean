/- Contract: OrdersBack of the program. -/
import Derived.Test.YtldjnfcdmhcjdaaBack
import Derived.Test.YtldjnfcdmhcjdaaIter
namespace Go.Proofs.Ytldjnfcdmhcjdaa
open Go.RowKit Go.Shelf

attribute [local go_sem] Oper.semAt_some

set_option maxRecDepth 100000 in
set_option maxHeartbeats 2000000 in
theorem implOrdersBack_b (v : Value) (xs : List Int) (hi : Nat) (w : World) (hv : Sl w hi v xs) :
    Calls Try.prog 32 #[v] w fun e w' => ∃ r, e = .returned (.tuple #[r, .bool (ordB xs)]) ∧ Below w.heap.size w w' ∧ Wr w' w.heap.size w'.heap.size r (outBack xs) := by
  have hv0 := hv
  obtain ⟨ad, n, cap, rfl, hl, hn, hcap, hcap2, hc⟩ := hv
  have HV := Lib.hid hv0
  have HL := Lib.hid hl
  clear hl hv0 hc
  cases h1 : ordB xs with
  | false =>
    go_enter Try.func32, Try.ntmps32
    go_wp2_with fail
    refine (implOrdersValid_is _ xs hi _ HV.out h1).mono ?_
    rintro e _ ⟨rfl, rfl⟩
    go_wp2
    go_ret2
    exact ⟨_, rfl, Below.refl _ w, by rw [outBack, h1]; exact Wr.nil _ _ _⟩
  | true =>
    have hmk := fun w => mkCapI w (n : Int) (by omega) (by omega)
    refine (callsIn_wide (n := 5)).1 ?_
    refine callsIn_of_wp_marks Try.func32 rfl trivial ?_ rfl
    simp only [Try.ntmps32, List.size_toArray, List.length_cons, List.length_nil, Nat.reduceAdd, Nat.reduceSub, Array.replicate_succ, Array.replicate_zero, List.push_toArray, List.append_toArray, List.nil_append, List.cons_append]
    gi_wp2_with fail
    refine ⟨trivial, (callsIn_wide.2 (implOrdersValid_is _ xs hi _ HV.out h1)).mono ?_⟩
    rintro e _ ⟨rfl, rfl⟩
    gi_wp2_with fail
    refine ⟨trivial, (callsIn_wide.2 (inverse_any _ xs hi _ (HV.out.old ((((Below.refl _ w).alloc (Nat.le_refl _) _).alloc (by simp) _).alloc (by simp; omega) _)) h1)).mono ?_⟩
    rintro e w1 ⟨v1, rfl, b1, r1⟩
    simp only [World.size_alloc] at b1 r1
    have z1 := b1.size
    simp only [World.size_alloc] at z1
    have bL : Boxed w1 w.heap.size 3 (.int .i64 ((n : Int) - 1)) := (b1.block w.heap.size (by omega)).trans (((Boxed.new w 3 _).alloc _).alloc _)
    have bO : Boxed w1 (w.heap.size + 1 + 1) 22 (.slice (some ⟨w.heap.size + 1, 0, none⟩) 0 n) := (b1.block _ (by omega)).trans (by
      have := Boxed.new ((w.alloc (.cells #[.int .i64 ((n : Int) - 1)] 3)).alloc (.cells (Array.replicate n (.int .i64 0)) 3)) 22 (.slice (some ⟨w.heap.size + 1, 0, none⟩) 0 n)
      simp only [World.size_alloc] at this
      exact this)
    have oA : w1.ownsRow w.heap.size 3 1 (.slice (some ⟨w.heap.size + 1, 0, none⟩) 0 n) 0 [] := by
      have h := World.ownsRow_made (base := w.heap.size) (e := 3) (size := 1) (w.alloc (.cells #[.int .i64 ((n : Int) - 1)] 3)) (Array.replicate n (.int .i64 0)) n (by simp) (by unfold maxLen; omega) (by simp)
      rw [World.size_alloc] at h
      have h2 := h.alloc (.cells #[.slice (some ⟨w.heap.size + 1, 0, none⟩) 0 n] 22)
      exact h2.kept (row := none) ⟨b1.os, b1.tape, b1.output, b1.size, fun k hk _ => b1.block k (by simp at hk; omega)⟩ (by simp [Value.ownBlock])
    have B1 : Below w.heap.size w w1 := (((((Below.refl _ w).alloc (Nat.le_refl _) _).alloc (by simp) _).alloc (by simp; omega) _)).trans (b1.mono (by omega))
    obtain ⟨a1, n1, c1, hv1, q1⟩ := id r1
    subst hv1
    gi_wp2_with (refine ⟨trivial, ?_⟩; gi_at_call 57; refine (backward_in Fence.wide _ trivial rfl _ _ _ _ rfl _).mono ?_; rintro e w' ⟨rfl, rfl⟩)
    have r2 : Sl (w1.alloc (.cells #[.slice a1 n1 c1] 22)) w1.heap.size (.slice a1 n1 c1) (invL xs) := r1.sl.old ((Below.refl _ w1).alloc (Nat.le_refl _) _)
    have hlen : (invL xs).length = n := by rw [invL_len, HL.out]
    refine wpIn_rangeFunc_ownG rfl (by omega) (gf := 69) (lb := #[.pointer (some ⟨w1.heap.size, 0, none⟩)]) rfl trivial (enters_of Try.func69 (by kernel_rfl) rfl)
      (backward_stops Fence.wide _ trivial rfl (by omega) (fun k => w.heap.size + 2 < k ∧ k ≤ w1.heap.size) w1.heap.size w1.heap.size _ (invL xs) _ (by simp; omega) (by omega) (fun b off m c e hm => by
        cases e
        obtain ⟨_, _, _, _, h5⟩ := q1
        obtain ⟨g, off', cur, hg, hlo, hhi, _⟩ := h5 hm
        cases hg
        exact ⟨by omega, by omega⟩) (Boxed.new w1 22 _).cell r2) KeepAt.trans (KeepAt.put (by simp; omega)) (Below.refl _ _) (fun _ => rfl)
      (fun pre W => Boxed W w.heap.size 3 (.int .i64 ((n : Int) - 1)) ∧ Boxed W (w.heap.size + 1 + 1) 22 (.slice (some ⟨w.heap.size + 1, 0, none⟩) pre.length n) ∧
        W.ownsRow w.heap.size 3 1 (.slice (some ⟨w.heap.size + 1, 0, none⟩) pre.length n) pre.length (pre.map fun x => Value.int .i64 (wrap64 ((n : Int) - 1 - x.2))) ∧ Below w.heap.size w W ∧ w1.heap.size < W.heap.size)
      (fun _ _ _ => False) ?hI (fun _ _ _ _ _ hs _ _ => hs) ?h0
      (fun x => { tmps := #[.slice ad n cap, undef, .slice none 0 0, .bool false, .pointer (some ⟨w.heap.size, 0, none⟩), .pointer (some ⟨w.heap.size + 1 + 1, 0, none⟩), undef, .int .i64 x.2, .slice ad n cap, .bool true, .bool false, .slice ad n cap,
        .int .i64 (n : Int), .int .i64 ((n : Int) - 1), .slice ad n cap, .int .i64 (n : Int), .slice (some ⟨w.heap.size + 1, 0, none⟩) 0 n, .slice ad n cap, .slice a1 n1 c1, .func (.func 69) #[] #[.pointer (some ⟨w1.heap.size, 0, none⟩)],
        .int .i64 (x.1 : Int), .int .i64 x.2, undef, undef, undef, undef, undef, undef, undef], defers := [] }) ?assign ?body ?done ?stop
    case hI =>
      refine OwnFrom.and (Own.from (fun s A B row hs hg hr => ?_) _) (OwnFrom.and (Own.from (fun s A B row hs hg hr => ?_) _) (OwnFrom.and (Own.from (fun s A B row hs hg hr => ?_) _) (OwnFrom.and (ownFrom_below (Nat.le_refl _) (by simp; omega)) (fun s A B row hs hg hr => Nat.lt_of_lt_of_le hs hg.size))))
      · exact hs.kept hg (fun e => by obtain ⟨o, ho, hc⟩ := hr _ e.symm; rw [show A.heap[w.heap.size]? = _ from hs] at ho; cases ho; cases hc)
      · exact hs.kept hg (fun e => by obtain ⟨o, ho, hc⟩ := hr _ e.symm; rw [show A.heap[w.heap.size + 1 + 1]? = _ from hs] at ho; cases ho; cases hc)
      · refine World.ownsRow.kept hs hg (.inr fun e => ?_)
        obtain ⟨o, ho, hc⟩ := hr (w.heap.size + 1) (by simpa [Value.ownBlock] using e.symm)
        rcases hs.2 with ⟨h, _⟩ | ⟨g, cp, cur, h, _, hgb, _⟩
        · cases h
        · cases h
          rw [hgb] at ho; cases ho; cases hc
    case h0 => exact ⟨bL.alloc _, bO.alloc _, oA.alloc _, B1.alloc (by omega) _, by simp⟩
    case assign =>
      intro l x W K hK
      unfold encP
      gi_wp2
      exact hK
    case body =>
      rintro l pre x W ⟨iL, iO, iA, iB, iZ⟩ hpre
      rw [hlen] at hpre
      have hcL := iL.cell
      have hcO := iO.cell
      have hfO := iO.frozen
      have hsz := iB.size
      have hlO := iO.lt
      obtain ⟨i0, hi0, hz0, hz1, hz2⟩ := info_parts infoInt
      gi_wp2_with (gi_at_builtin; refine wpListIn_append_fits _ (by rfl) _ _ 22 (by rfl) w.heap.size 3 i0 1 Try.underlying22 hi0 hz1 (w.heap.size + 1) pre.length n _ (by rfl) (iA.alloc _) ⟨W.heap.size, 0, none⟩ 1 1 [.int .i64 (wrap64 ((n : Int) - 1 - x.2))] (by rfl) (by rfl) (cell_one_new _ _ _) (by simp [Value.oneCell']) (by omega) ?_; intro w4 hown4 hgrow4; have iL4 := (iL.alloc (.cells #[.int .i64 (wrap64 ((n : Int) - 1 - x.2))] 3)).kept hgrow4 (by simp); have iO4 := (iO.alloc (.cells #[.int .i64 (wrap64 ((n : Int) - 1 - x.2))] 3)).kept hgrow4 (by simp); have hc4 := iO4.cell; have hf4 := iO4.frozen)
      have hg5 := grownBy_setCell' w4 (w.heap.size + 1 + 1) (.slice (some ⟨w.heap.size + 1, 0, none⟩) (pre.length + 1) n)
      have iB5 : Below w.heap.size W (w4.setCell ⟨w.heap.size + 1 + 1, 0, none⟩ (.slice (some ⟨w.heap.size + 1, 0, none⟩) (pre.length + 1) n)) :=
        (((Below.refl w.heap.size W).alloc hsz _).grown hgrow4 (by simp; omega) (fun k e => by cases e; omega)).setCell (p := ⟨w.heap.size + 1 + 1, 0, none⟩) (by show w.heap.size ≤ w.heap.size + 1 + 1; omega) _
      refine ⟨((KeepsOthers.alloc W _).trans ((KeepsOthers.of_grownBy hgrow4 fun j o ej hj => ?_).trans (KeepsOthers.setCell _ _ _))).from _, fun k hk => ?_, iL4.kept hg5 (by simp; omega), ?_, ?_, iB.trans iB5, Nat.lt_of_lt_of_le iZ iB5.size⟩
      · cases ej
        rcases (iA.alloc (.cells #[.int .i64 (wrap64 ((n : Int) - 1 - x.2))] 3)).2 with ⟨h, _⟩ | ⟨g, cp, cur, h, _, hgb, _⟩
        · cases h
        · cases h
          rw [hgb] at hj; cases hj; rfl
      · have e1 : (w4.setCell ⟨w.heap.size + 1 + 1, 0, none⟩ (.slice (some ⟨w.heap.size + 1, 0, none⟩) (pre.length + 1) n)).heap[k]? = w4.heap[k]? := Below.heap_setCell _ _ _ _ (by show k ≠ w.heap.size + 1 + 1; omega)
        rw [e1, hgrow4.block k (by simp; omega) (by simp; omega)]
        exact Below.heap_alloc _ _ _ (by omega)
      · rw [List.length_append]; exact iO4.set _
      · rw [List.length_append, List.map_append]
        exact hown4.kept hg5 (by simp [Value.ownBlock])
    case done =>
      rintro D ys W hD rfl ⟨iL, iO, iA, iB, iZ⟩ hK
      have hcO := iO.cell
      rw [hlen] at iA
      rw [upto_length] at iA
      simp only [World.size_alloc] at hD
      rw [hlen, upto_length] at hcO
      have e0 : n1 = n := q1.1.symm.trans hlen
      gi_wp2
      refine ⟨by simp, .inl ⟨_, _, rfl, run_takeDeferred hK, ?_⟩⟩
      have bD : Below w.heap.size W (W.putObj D (.deferred none)) := belowK_b (w := w) (Nat.le_refl _) W D _ _ (by omega) hK rfl rfl
      have oD := ownsRow_putObj iA (.deferred none) hK rfl
      refine ⟨_, results_tmp2 rfl _ _ _, _, rfl, iB.trans bD, ?_⟩
      have hL : (upto (fromEnd (invL xs) n) n).map (fun x => Value.int .i64 (wrap64 ((n : Int) - 1 - x.2))) = (outBack xs).map (Value.int .i64) := by
        rw [outBack, if_pos h1]
        apply List.ext_getElem
        · simp [upto, backL_len, HL.out]
        · intro j hj1 hj2
          simp [upto] at hj1
          have hj' : n - 1 - j < xs.length := by rw [HL.out]; omega
          have hb := (inv1_spec h1 hj').1
          rw [HL.out] at hb
          simp only [upto, List.getElem_map, List.getElem_range, fromEnd, invL_gi hj']
          have e2 : wrap64 ((n : Int) - 1 - (inv1 xs (n - 1 - j) : Int)) = (n : Int) - 1 - (inv1 xs (n - 1 - j) : Int) := IntWalk.wrap64_in _ ⟨by omega, by omega⟩
          rw [e2]
          simp [backL, HL.out]
      rw [hL] at oD
      have hfin := Wr.of_own oD hn
      exact hfin
    case stop =>
      rintro D c pre W _ _ h _
      exact h.elim

end Go.Proofs.Ytldjnfcdmhcjdaa
