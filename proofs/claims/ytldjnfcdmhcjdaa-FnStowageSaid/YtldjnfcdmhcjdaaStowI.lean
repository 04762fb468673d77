/- Contract: StowageValid of the program. -/
import Derived.Test.YtldjnfcdmhcjdaaOrd
import Derived.Test.YtldjnfcdmhcjdaaStack
import Derived.Test.YtldjnfcdmhcjdaaWithin
import Derived.Test.YtldjnfcdmhcjdaaStowPlain
namespace Go.Proofs.Ytldjnfcdmhcjdaa
open Go.RowKit

/-- Five stacks in block A. -/
structure Tks (w : World) (B A : Nat) (vs : Nat → Value) (ls : Nat → List Int) : Prop where
  row : ∃ cu, Row w A 50 cu ∧ cu.size = 5 ∧ ∀ t, t < 5 → cu[t]? = some (vs t)
  own : ∀ t, t < 5 → OwI w B (vs t) (ls t)
  apart : ∀ t, t < 5 → some A ≠ (vs t).ownBlock
  two : ∀ t t', t < 5 → t' < 5 → t ≠ t' → (vs t).ownBlock = none ∨ (vs t).ownBlock ≠ (vs t').ownBlock

theorem Tks.below {w w' : World} {B A : Nat} {vs : Nat → Value} {ls : Nat → List Int} (h : Tks w B A vs ls) (hb : Below w.heap.size w w') : Tks w' B A vs ls := by
  obtain ⟨⟨cu, h1, h2, h3⟩, h4, h5, h6⟩ := h
  exact ⟨⟨cu, h1.old hb, h2, h3⟩, fun t ht => (h4 t ht).below hb, h5, h6⟩

theorem Tks.push {w w1 : World} {B A : Nat} {vs : Nat → Value} {ls : Nat → List Int} (h : Tks w B A vs ls) {t : Nat} (ht : t < 5) {v' : Value} {ys' : List Int}
    (hA : A < w.heap.size) (ho : OwI w1 B v' ys') (hg : w.grownBy w1 (vs t).ownBlock) (hn : NewBlk w (vs t) v') :
    Tks (w1.setCell ⟨A, t, none⟩ v') B A (fun i => if i = t then v' else vs i) (fun i => if i = t then ys' else ls i) := by
  obtain ⟨⟨cu, h1, h2, h3⟩, h4, h5, h6⟩ := h
  have hrow1 : Row w1 A 50 cu := (hg.block A hA (h5 t ht)).trans h1
  have hset : w1.grownBy (w1.setCell ⟨A, t, none⟩ v') (some A) := ⟨rfl, rfl, rfl, by simp [World.setCell], fun k _ hk => Below.heap_setCell _ _ _ _ (fun e => hk (by rw [e]))⟩
  have hv'A : some A ≠ v'.ownBlock := by
    rcases hn with e | ⟨g, e, hge⟩
    · rw [e]; exact h5 t ht
    · rw [e]; simp; omega
  refine ⟨⟨_, hrow1.set t v', by simpa using h2, fun i hi => ?_⟩, fun i hi => ?_, fun i hi => ?_, fun i j hi hj hij => ?_⟩
  · by_cases e : i = t
    · subst e
      rw [if_pos rfl, Array.getElem?_setIfInBounds_self_of_lt (by omega)]
    · rw [if_neg e, Array.getElem?_setIfInBounds_ne (fun e' => e e'.symm)]
      exact h3 i hi
  · by_cases e : i = t
    · subst e
      simp only [if_true]
      exact ho.kept hset (.inr hv'A.symm)
    · simp only [if_neg e]
      have hd := h6 i t hi ht e
      refine World.ownsRow.kept ((h4 i hi).kept hg ?_) hset (.inr (h5 i hi).symm)
      exact hd
  · by_cases e : i = t
    · subst e; simp only [if_true]; exact hv'A
    · simp only [if_neg e]; exact h5 i hi
  · have lt : ∀ i, i < 5 → ∀ g, (vs i).ownBlock = some g → g < w.heap.size := fun i hi g e => ((h4 i hi).lt g e).2
    have key : ∀ i, i < 5 → i ≠ t → (vs i).ownBlock = none ∨ (vs i).ownBlock ≠ v'.ownBlock := by
      intro i hi e
      rcases hn with en | ⟨g, en, hge⟩
      · rw [en]; exact h6 i t hi ht e
      · rw [en]
        cases ho' : (vs i).ownBlock with
        | none => exact .inl rfl
        | some g' =>
          refine .inr fun e2 => ?_
          have := lt i hi g' ho'
          simp at e2
          omega
    by_cases e : i = t
    · subst e
      have e' : j ≠ i := fun h => hij h.symm
      simp only [if_true, if_neg e']
      rcases key j hj e' with k | k
      · rw [k]
        cases hvo : v'.ownBlock with
        | none => exact .inl rfl
        | some g => exact .inr (by simp)
      · exact .inr k.symm
    · by_cases e2 : j = t
      · subst e2
        simp only [if_true, if_neg e]
        exact key i hi e
      · simp only [if_neg e, if_neg e2]
        exact h6 i j hi hj hij

theorem implStowageValid_any (v0 v1 : Value) (xs ts : List Int) (hi0 hi1 : Nat) (w : World) (hv0 : Sl w hi0 v0 xs) (hv1 : Sl w hi1 v1 ts) :
    Calls Try.prog 34 #[v0, v1] w fun e w' => e = .returned (.bool (stowB xs ts)) ∧ Below w.heap.size w w' := by
  have hv0' := hv0
  have hv1' := hv1
  obtain ⟨ad, n, cap, rfl, hl, hn, hcap, hcap2, hc⟩ := hv0
  obtain ⟨ad2, m, cap3, rfl, hl2, hn2, hcap3, hcap4, hc2⟩ := hv1
  have HV := Lib.hid hv0'
  have HV1 := Lib.hid hv1'
  have HL := Lib.hid hl
  have HL2 := Lib.hid hl2
  clear hv0' hv1' hl hl2
  cases h1 : ordB xs with
  | false =>
    go_enter Try.func34, Try.ntmps34
    go_wp2_with fail
    refine (implOrdersValid_is _ xs _ _ HV.out h1).mono ?_
    rintro e _ ⟨rfl, rfl⟩
    go_wp2
    go_ret
    exact ⟨by simp [stowB, h1], Below.refl _ _⟩
  | true =>
    by_cases hnm : m = n
    · subst hnm
      cases hw : inAll ts 0 4 with
      | false =>
        go_enter Try.func34, Try.ntmps34
        go_wp2_with fail
        refine (implOrdersValid_is _ xs _ _ HV.out h1).mono ?_
        rintro e _ ⟨rfl, rfl⟩
        go_wp2_with fail
        refine (allWithin_is _ ts 0 4 _ _ HV1.out hw).mono ?_
        rintro e w1 ⟨rfl, b1⟩
        go_wp2
        go_ret
        refine ⟨?_, b1⟩
        have : stowB xs ts = false := by
          cases hs : stowB xs ts with
          | false => rfl
          | true =>
            have h3 := (stowB_true.1 hs).2.2
            have : inAll ts 0 4 = true := by
              simp only [inAll, decide_eq_true_eq]
              exact fun i hi => (h3 i hi).1
            rw [this] at hw
            cases hw
        rw [this]; rfl
      | true =>
        have hin : ∀ k, k < m → 0 ≤ gi ts k ∧ gi ts k ≤ 4 := fun k hk => by
          simp only [inAll, decide_eq_true_eq] at hw
          exact hw k (by rw [HL2.out]; exact hk)
        have HIN := Lib.hid hin
        have h10 : m ≤ 10 := by have := (ordB_true.1 h1).1; rw [HL.out] at this; exact this
        clear hin
        go_enter Try.func34, Try.ntmps34
        go_wp2_with fail
        refine (implOrdersValid_is _ xs _ _ HV.out h1).mono ?_
        rintro e _ ⟨rfl, rfl⟩
        go_wp2_with fail
        refine (allWithin_is _ ts 0 4 _ _ HV1.out hw).mono ?_
        rintro e w1 ⟨rfl, b1⟩
        have z1 := b1.size
        go_wp2
        go_loopw [27] (fun i wr => ∃ k : Nat, k ≤ m ∧ i = .int .i64 k ∧ Below w.heap.size w wr ∧ w1.heap.size < wr.heap.size ∧ (∃ vs, Tks wr w.heap.size w1.heap.size vs (fun t => stk ts t k)) ∧ Hid (stowTo xs ts k)) (fun i _ => m - (intOf i).toNat)
        case atStart =>
          refine ⟨0, Nat.zero_le _, rfl, b1.alloc z1 _, by simp, ⟨fun _ => .slice none 0 0, ⟨_, Row.new _ _ _, rfl, fun t ht => ?_⟩, fun t ht => OwI.nil _ _, fun t ht => by simp [Value.ownBlock], fun t t' _ _ _ => .inl rfl⟩, stowTo_zero xs ts⟩
          match t, ht with
          | 0, _ => rfl
          | 1, _ => rfl
          | 2, _ => rfl
          | 3, _ => rfl
          | 4, _ => rfl
        case round =>
          obtain ⟨k, hk, rfl, hB, hZ, ⟨vs, hT⟩, hno⟩ := hrel
          by_cases hlt : k < m
          · obtain ⟨b, off, rfl, hbh, hc⟩ := hc (by omega)
            obtain ⟨b2, off2, rfl, hbh2, hc2⟩ := hc2 (by omega)
            have hck := (hB.cell (p := ⟨b2, off2 + k, none⟩) (World.block_lt_of_cell? w _ (hc2 k hlt))).trans (hc2 k hlt)
            have hok := (hB.cell (p := ⟨b, off + k, none⟩) (World.block_lt_of_cell? w _ (hc k hlt))).trans (hc k hlt)
            have hg := HIN.out k hlt
            obtain ⟨T, hTe⟩ := Int.eq_ofNat_of_zero_le hg.1
            have hT5 : T < 5 := by omega
            rw [hTe] at hck
            obtain ⟨cu, hR, hcs, hcu⟩ := hT.row
            have hcell : wr.cell? ⟨w1.heap.size, T, none⟩ = some (vs T) := by rw [hR.cell]; exact hcu T hT5
            have hfz := hR.frozen T
            have hown := hT.own T hT5
            have hstl : (stk ts (T : Int) k).length ≤ 10 := by have := stk_len ts (T : Int) k; omega
            have hsl : Sl wr wr.heap.size (vs T) (stk ts (T : Int) k) := (hown.wr (by omega)).sl
            have hspec := stk_spec ts (T : Int) k
            have HTK := Lib.hid hT
            have HTE := Lib.hid hTe
            have HC := Lib.hid hc
            clear hc hc2 hT hTe hg hR hcs hcu
            have hfun : (fun i : Nat => if i = T then stk ts (T : Int) k ++ [(k : Int)] else stk ts (i : Int) k) = fun t : Nat => stk ts (t : Int) (k + 1) := by
              funext i
              simp only [stk, HTE.out]
              by_cases e : i = T
              · subst e; simp
              · rw [if_neg e, if_neg (by omega)]
            have HF := Lib.hid hfun
            clear hfun
            have hpush : ∀ d : Nat, Calls Try.prog 61 #[.pointer (some ⟨w1.heap.size, T, none⟩), .int .i64 k] (wr.drewN d) fun e w' => e = .returned (.tuple #[]) ∧
                Below w.heap.size wr w' ∧ ∃ vs', Tks w' w.heap.size w1.heap.size vs' (fun t => stk ts t (k + 1)) := fun d => by
              refine (push_any w1.heap.size T w.heap.size (vs T) (stk ts (T : Int) k) k (wr.drewN d) hcell hfz (HTK.out.apart T hT5) hZ (hown.drewN d) (by omega) hB.size).mono ?_
              rintro e w' ⟨rfl, g, c, w3, rfl, hown3, hg3, hn3⟩
              refine ⟨rfl, ?_, ?_⟩
              · exact ((below_drewN (Below.refl _ wr) d).grown hg3 hB.size (fun k' hk' => (hown.lt k' hk').1)).setCell (p := ⟨w1.heap.size, T, none⟩) z1 _
              · have := (HTK.out.below (below_drewN (Below.refl _ wr) d)).push hT5 hZ hown3 hg3 hn3
                rw [HF.out] at this
                exact ⟨_, this⟩
            have HP := Lib.hid hpush
            clear hpush
            rcases hspec with ⟨he, hnone⟩ | ⟨j, ys, he, hj, hjt, hlast⟩
            · have hd : decide (0 < (stk ts (T : Int) k).length) = false := by rw [he]; rfl
              have hstep : ∀ i, i < k → gi ts k = gi ts i → gi xs k < gi xs i := fun i hik hh => absurd (hh.symm.trans HTE.out) (hnone i hik)
              have HS := Lib.hid hstep
              clear he hnone hstep
              go_wp2_with fail
              refine (top_any _ _ _ _ hsl).mono ?_
              rintro e _ ⟨rfl, rfl⟩
              go_wp2
              go_quiet (fail)
              go_wp2_with fail
              refine (HP.out _).mono ?_
              rintro e w4 ⟨rfl, b4, t4⟩
              go_wp2
              go_roundw
              case rel => exact ⟨k + 1, by omega, by go_num, hB.trans b4, Nat.lt_of_lt_of_le hZ b4.size, t4, stowTo_succ hno.out (HIN.out k hlt) HS.out⟩
              case measure => simp [intOf]; omega
            · have hd : decide (0 < (stk ts (T : Int) k).length) = true := by rw [he]; simp
              have htop : topI (stk ts (T : Int) k) = (j : Int) := by rw [he]; simp [topI, gi]
              have hoj := (hB.cell (p := ⟨b, off + j, none⟩) (World.block_lt_of_cell? w _ (HC.out j (by omega)))).trans (HC.out j (by omega))
              have hjk : gi ts j = gi ts k := hjt.trans HTE.out.symm
              by_cases hlt2 : gi xs j < gi xs k
              · have hbad : stowB xs ts = false := stowB_no_at (k := k) (by rw [HL2.out]; exact hlt) (fun h => by have := h.2 j hj hjk.symm; omega)
                have HBAD := Lib.hid hbad
                have HX := Lib.hid he
                have HY := Lib.hid hlast
                have HJ := Lib.hid hjt
                clear hbad he hlast hjt hjk
                go_wp2_with fail
                refine (top_any _ _ _ _ hsl).mono ?_
                rintro e _ ⟨rfl, rfl⟩
                go_wp2
                go_quiet (fail)
                go_wp2
                go_ret
                exact ⟨by rw [HBAD.out]; rfl, below_drewN hB _⟩
              · have hstep := stow_step h1 (by rw [HL.out]; exact hlt) hno.out hj hjk (fun i hi hh => hlast i hi (hh.trans HTE.out)) hlt2
                have hd2 : decide (gi xs j < gi xs k) = false := by simpa using hlt2
                have HS := Lib.hid hstep
                clear he hlast hjt hjk hstep
                go_wp2_with fail
                refine (top_any _ _ _ _ hsl).mono ?_
                rintro e _ ⟨rfl, rfl⟩
                go_wp2
                go_quiet (fail)
                go_wp2_with fail
                refine (HP.out _).mono ?_
                rintro e w4 ⟨rfl, b4, t4⟩
                go_wp2
                go_roundw
                case rel => exact ⟨k + 1, by omega, by go_num, hB.trans b4, Nat.lt_of_lt_of_le hZ b4.size, t4, stowTo_succ hno.out (HIN.out k hlt) HS.out⟩
                case measure => simp [intOf]; omega
          · obtain rfl : m = k := by omega
            go_wp2
            go_ret
            refine ⟨?_, hB⟩
            have : stowB xs ts = true := stowB_true.2 ⟨h1, by rw [HL.out, HL2.out], by rw [HL2.out]; exact hno.out⟩
            rw [this]; rfl
    · have hb : ((m : Int) != (n : Int)) = true := by simp; omega
      go_enter Try.func34, Try.ntmps34
      go_wp2_with fail
      refine (implOrdersValid_is _ xs _ _ HV.out h1).mono ?_
      rintro e _ ⟨rfl, rfl⟩
      go_wp2
      go_ret
      exact ⟨by simp [stowB, HL.out, HL2.out, hnm], Below.refl _ _⟩

theorem implStowageValid_is {r : Bool} (v0 v1 : Value) (xs ts : List Int) (hi0 hi1 : Nat) (w : World) (hv0 : Sl w hi0 v0 xs) (hv1 : Sl w hi1 v1 ts) (h : stowB xs ts = r) :
    Calls Try.prog 34 #[v0, v1] w fun e w' => e = .returned (.bool r) ∧ Below w.heap.size w w' := h ▸ implStowageValid_any v0 v1 xs ts hi0 hi1 w hv0 hv1

end Go.Proofs.Ytldjnfcdmhcjdaa
