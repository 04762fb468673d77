/- Contract: faultsIf, at the functions that it is handed. -/
import Derived.Test.YtoanefccnbnkmaaOne
import Derived.Test.YtoanefccnbnkmaaEach
namespace Go.Proofs.Ytoanefccnbnkmaa
open Go.RowKit

/-- The faults that a measurement from one end fits, and that p keeps. -/
def filTo (cs : List Int) (n : Nat) (a : Int) (p : Nat → Bool) : Nat → List Int
  | 0 => []
  | k + 1 => if inB (a - ohmsI cs n k) 0 1000 && p k then filTo cs n a p k ++ [(k : Int), a - ohmsI cs n k] else filTo cs n a p k
def filL (cs : List Int) (n : Nat) (a : Int) (p : Nat → Bool) : List Int := if oneOk cs n a then filTo cs n a p (nMl cs n) else []
theorem filTo_no {cs : List Int} {n : Nat} {a : Int} {p : Nat → Bool} {k : Nat} (h : (inB (a - ohmsI cs n k) 0 1000 && p k) = false) : filTo cs n a p (k + 1) = filTo cs n a p k := by
  simp only [filTo, h]; rfl
theorem filTo_yes {cs : List Int} {n : Nat} {a : Int} {p : Nat → Bool} {k : Nat} (h : (inB (a - ohmsI cs n k) 0 1000 && p k) = true) : filTo cs n a p (k + 1) = filTo cs n a p k ++ [(k : Int), a - ohmsI cs n k] := by
  simp only [filTo, h]; rfl
theorem filTo_on (cs : List Int) (n : Nat) (a : Int) : ∀ k, filTo cs n a (fun _ => true) k = onTo cs n a k
  | 0 => rfl
  | k + 1 => by simp only [filTo, onTo, filTo_on cs n a k, Bool.and_true]
theorem filTo_bo (cs : List Int) (n : Nat) (a t l : Int) : ∀ k, filTo cs n a (fun k => erB cs n k (a - ohmsI cs n k) t l) k = boTo cs n a t l k
  | 0 => rfl
  | k + 1 => by simp only [filTo, boTo, filTo_bo cs n a t l k]

theorem OwF.apart {w : World} {B c G : Nat} {v : Value} {ys : List Int} {t : TypeId} {cur : Array Value} (h : OwF w B v ys c) (hr : Row w G t cur) (ht : t ≠ 41) : v.ownBlock ≠ some G := by
  obtain ⟨_, hv⟩ := h
  rcases hv with ⟨rfl, h1⟩ | ⟨g, cap, cur', rfl, _, hg, _⟩
  · intro e; cases e
  · intro e
    cases e
    unfold Row at hr
    rw [hg] at hr
    cases hr
    exact ht rfl
theorem OwF.set {w : World} {B c : Nat} {v : Value} {ys : List Int} (h : OwF w B v ys c) {p : Addr} {x : Value} (hp : v.ownBlock ≠ some p.block) : OwF (w.setCell p x) B v ys c :=
  World.ownsRow.kept (row := some p.block) h ⟨rfl, rfl, rfl, by simp [World.setCell], fun k _ hk => Below.heap_setCell w p x k (fun e => hk (by rw [e]))⟩ (.inr hp)
theorem Row.grown {w w' : World} {g : Nat} {t : TypeId} {cur : Array Value} {r : Option Nat} (h : Row w g t cur) (hg : w.grownBy w' r) (hr : r ≠ some g) : Row w' g t cur :=
  (hg.block g h.lt (fun e => hr e.symm)).trans h

/-- What stands while the faults are walked. -/
structure IfFaultOne (w : World) (cs : List Int) (n : Nat) (a : Int) (p : Nat → Bool) (G : Nat) (k : Nat) (W : World) : Prop where
  fn : Row W w.heap.size 80 #[(.func (.func 77) #[] #[])]
  out : ∃ s c, c ≤ k ∧ Row W G 26 #[s] ∧ OwF W w.heap.size s (filTo cs n a p k) c
  bel : Below w.heap.size w W
theorem IfFaultOne.old {w : World} {cs : List Int} {n : Nat} {a : Int} {p : Nat → Bool} {G k : Nat} {W W' : World} (h : IfFaultOne w  cs n a p G k W) (hb : Below W.heap.size W W') : IfFaultOne w  cs n a p G k W' := by
  obtain ⟨s, c, hc, hr, ho⟩ := h.out
  exact ⟨h.fn.old hb, ⟨s, c, hc, hr.old hb, ho.below hb⟩, h.bel.trans (hb.mono h.bel.size)⟩

set_option maxRecDepth 100000 in
set_option maxHeartbeats 1000000 in
theorem ifStepFaultOne (w : World) (cs : List Int) (n : Nat) (a : Int) (p : Nat → Bool) (G : Nat) (hG : w.heap.size ≤ G) (k : Nat) (W : World) (hk : k < nMl cs n) (hI : IfFaultOne w  cs n a p G k W) (hin : inB (a - ohmsI cs n k) 0 1000 = true)
    (hst : ∀ W, Below w.heap.size w W → Calls Try.prog 77 #[.agg #[.int .i64 (k : Int), .int .i64 (a - ohmsI cs n k)]] W fun e W' => e = .returned (.bool (p k)) ∧ Below W.heap.size W W') :
    Calls Try.prog 92 #[.agg #[.int .i64 (k : Int), .int .i64 (a - ohmsI cs n k)], .pointer (some ⟨w.heap.size, 0, none⟩), .pointer (some ⟨G, 0, none⟩)] W
      fun e W' => (e = .returned (.bool true) ∧ IfFaultOne w  cs n a p G (k + 1) W') ∨ (e = .returned (.bool false) ∧ False) := by
  have hNX : (inB (a - ohmsI cs n k) 0 1000 && p k) = p k := by rw [hin]; rfl
  have H0 := Lib.hid fun h => filTo_no (cs := cs) (n := n) (a := a) (p := p) (k := k) (hNX.trans h)
  have H1 := Lib.hid fun h => filTo_yes (cs := cs) (n := n) (a := a) (p := p) (k := k) (hNX.trans h)
  have hkl : k ≤ 401 := Nat.le_trans (Nat.le_of_lt hk) nMl_le
  clear hNX hin hk
  revert hst H0 H1
  generalize a - ohmsI cs n k = F
  intro hst H0 H1
  have bx := box2 W (k : Int) F 41
  have HI := Lib.hid (hI.old bx.1)
  have HST := Lib.hid hst
  have c0 : (W.alloc (.cells #[.int .i64 (k : Int), .int .i64 F] 41)).cell? ⟨w.heap.size, 0, none⟩ = some (.func (.func 77) #[] #[]) := by rw [HI.out.fn.cell]; rfl
  have X1 := Lib.hid bx.2.1
  have X2 := Lib.hid bx.2.2
  clear hI hst bx
  go_enter Try.func92, Try.ntmps92
  go_wp2_with fail
  refine (HST.out _ HI.out.bel).mono ?_
  rintro e w1 ⟨rfl, b1⟩
  have HI1 := HI.out.old b1
  obtain ⟨s, c, hc, hr, ho⟩ := HI1.out
  obtain ⟨sa, sn, sc, rfl, hsn⟩ := ho.form
  have HI2 := Lib.hid HI1
  have HR := Lib.hid hr
  have HO := Lib.hid ho
  have d0 : w1.cell? ⟨G, 0, none⟩ = some (.slice sa sn sc) := by rw [hr.cell]; rfl
  have f0 := cellB X1.out b1
  have f1 := cellB X2.out b1
  have hs1 := HI1.bel.size
  clear HI1 hr ho b1 c0 HI X1 X2 HST hsn
  cases hp : p k with
  | false =>
    have HH := Lib.hid (H0.out hp)
    go_wp2
    go_ret
    exact .inl ⟨rfl, HI2.out.fn, ⟨_, c, by omega, HR.out, by rw [HH.out]; exact HO.out⟩, HI2.out.bel⟩
  | true =>
    have HH := Lib.hid (H1.out hp)
    go_wp2_with (at_builtin; refine wpList_pushF HO.out (by rfl) (by rfl) (by rfl) (by rfl) (by omega) hs1 ?_; intro v' w4 hown4 hb4 hg4; obtain ⟨ta, tn, tc, rfl, htn⟩ := hown4.form; have HR4 := HR.out.grown hg4 (HO.out.apart HR.out (by decide)); have HF4 := HI2.out.fn.grown hg4 (HO.out.apart HI2.out.fn (by decide)); have e0 : w4.cell? ⟨G, 0, none⟩ = some (.slice sa sn sc) := (by rw [HR4.cell]; rfl); have z0 := HR4.frozen 0; have HRR := Lib.hid HR4; have HFF := Lib.hid HF4; have HO4 := Lib.hid hown4; have HB4 := Lib.hid hb4; clear hown4 hb4 hg4 HR4 HF4 htn)
    go_ret
    have hne : w.heap.size ≠ G := fun e => by
      have h1 := HFF.out
      have h2 := HRR.out
      unfold Row at h1 h2
      rw [e, h2] at h1
      cases h1
    refine .inl ⟨rfl, HFF.out.other (a := ⟨G, 0, none⟩) hne _, ⟨_, c + 1, by omega, HRR.out.set 0 _, ?_⟩, ((HI2.out.bel.trans HB4.out)).setCell (p := ⟨G, 0, none⟩) hG _⟩
    rw [HH.out]
    exact HO4.out.set (HO4.out.apart HRR.out (by decide))

set_option maxRecDepth 100000 in
set_option maxHeartbeats 1000000 in
theorem implFaultsIf_FaultOne (v : Value) (a : Int) (cs : List Int) (n hi : Nat) (p : Nat → Bool) (w : World) (hv : SlF 3 w hi v cs n) (ha : -9223372036854775808 ≤ a ∧ a ≤ 9223372036854775807)
    (hst : ∀ (k : Nat) W, k < nMl cs n → inB (a - ohmsI cs n k) 0 1000 = true → Below w.heap.size w W → Calls Try.prog 77 #[.agg #[.int .i64 (k : Int), .int .i64 (a - ohmsI cs n k)]] W fun e W' => e = .returned (.bool (p k)) ∧ Below W.heap.size W W') :
    Calls Try.prog 61 #[v, .int .i64 a, (.func (.func 77) #[] #[])] w fun e w' => ∃ v' c, e = .returned (.tuple #[v', .bool (oneOk cs n a)]) ∧ Below w.heap.size w w' ∧ WrF 2 41 w' w.heap.size w'.heap.size v' (filL cs n a p) c := by
  have B0 := Lib.hid ((Below.refl w.heap.size w).alloc (Nat.le_refl _) (.cells #[(.func (.func 77) #[] #[])] 80))
  have V0 := Lib.hid (hv.old B0.out)
  have HV := Lib.hid hv
  have R0 := Lib.hid (Row.new w #[(.func (.func 77) #[] #[])] 80)
  have HST := Lib.hid hst
  have HA := Lib.hid ha
  cases h1 : cabB cs n with
  | false =>
    have HO : Hid (oneOk cs n a = false) := Lib.hid (by simp [oneOk, h1])
    have HL : Hid (filL cs n a p = []) := Lib.hid (by unfold filL; rw [HO.out]; rfl)
    clear hv hst ha
    go_enter Try.func61, Try.ntmps61
    go_wp2_with fail
    refine (implCableValid_is _ cs n hi _ V0.out h1).mono ?_
    rintro e w1 ⟨rfl, b1⟩
    have B1 := Lib.hid (nextW B0.out b1)
    clear b1
    go_wp2
    go_ret2
    exact ⟨_, 0, by rw [HO.out]; rfl, B1.out, by rw [HL.out]; exact (OwF.nil _ _).wr (by omega)⟩
  | true =>
    by_cases h0 : 0 ≤ a
    · have HO : Hid (oneOk cs n a = true) := Lib.hid (by simp [oneOk, h1, h0])
      have HL : Hid (filL cs n a p = filTo cs n a p (nMl cs n)) := Lib.hid (by unfold filL; rw [HO.out]; rfl)
      have hneg : decide (a < 0) = false := decide_eq_false (by omega)
      clear hv hst ha
      go_enter Try.func61, Try.ntmps61
      go_wp2_with fail
      refine (implCableValid_is _ cs n hi _ V0.out h1).mono ?_
      rintro e w1 ⟨rfl, b1⟩
      have B1 := Lib.hid (nextW B0.out b1)
      have R1 := Lib.hid (R0.out.old b1)
      have hs1 := B1.out.size
      clear b1
      go_wp2_with fail
      refine (each_faultsIf _ cs n hi a _ _ (IfFaultOne w  cs n a p (w1.heap.size + 1)) (fun _ => False) _ HA.out ?_ (fun k W h => HV.out.old h.bel) (fun k W W' h hb => h.old hb) ?_ ?_).mono ?_
      · have a1 := (Below.refl w1.heap.size w1).alloc (Nat.le_refl _) (.cells #[] 41)
        have a2 := a1.alloc (by simp) (.cells #[.slice (some ⟨w1.heap.size, 0, none⟩) 0 0] 26)
        have r2 := Row.new (w1.alloc (.cells #[] 41)) #[.slice (some ⟨w1.heap.size, 0, none⟩) 0 0] 26
        rw [World.size_alloc] at r2
        exact ⟨R1.out.old a2, ⟨_, 0, Nat.le_refl _, r2, (OwF.empty w1 w.heap.size hs1).below ((Below.refl _ _).alloc (Nat.le_refl _) _)⟩, nextW B1.out a2⟩
      · intro k W hk hI hin
        obtain ⟨s, c, hc, hr, ho⟩ := hI.out
        exact ⟨hI.fn, ⟨s, c, by omega, hr, by rw [filTo_no (by rw [hin]; rfl)]; exact ho⟩, hI.bel⟩
      · intro k W hk hI hin
        exact ifStepFaultOne w  cs n a p _ (by omega) k W hk hI hin (fun W hW => HST.out k W hk hin hW)
      rintro e w2 ⟨rfl, h2⟩
      rcases h2.out with h3 | h3
      · obtain ⟨s, c, hc, hr, ho⟩ := h3.out
        obtain ⟨sa, sn, sc, rfl, hsn⟩ := ho.form
        have d0 : w2.cell? ⟨w1.heap.size + 1, 0, none⟩ = some (.slice sa sn sc) := by rw [hr.cell]; rfl
        have B2 := Lib.hid h3.bel
        have HO2 := Lib.hid (ho.wr (by have := nMl_le (cs := cs) (n := n); omega))
        clear h2 h3 ho hr hsn
        go_wp2
        go_ret2
        exact ⟨_, c, by rw [HO.out]; rfl, B2.out, by rw [HL.out]; exact HO2.out⟩
      · exact h3.elim
    · have HO : Hid (oneOk cs n a = false) := Lib.hid (by simp [oneOk, h1]; omega)
      have HL : Hid (filL cs n a p = []) := Lib.hid (by unfold filL; rw [HO.out]; rfl)
      have hneg : decide (a < 0) = true := decide_eq_true (by omega)
      clear hv hst ha
      go_enter Try.func61, Try.ntmps61
      go_wp2_with fail
      refine (implCableValid_is _ cs n hi _ V0.out h1).mono ?_
      rintro e w1 ⟨rfl, b1⟩
      have B1 := Lib.hid (nextW B0.out b1)
      clear b1
      go_wp2
      go_ret2
      exact ⟨_, 0, by rw [HO.out]; rfl, B1.out, by rw [HL.out]; exact (OwF.nil _ _).wr (by omega)⟩

/-- What stands while the faults are walked. -/
structure IfFaultBoth (w : World) (c0 c1 : Value) (cs : List Int) (n : Nat) (a : Int) (p : Nat → Bool) (G : Nat) (k : Nat) (W : World) : Prop where
  fn : Row W w.heap.size 80 #[(.func (.func 62) #[] #[c0, c1])]
  out : ∃ s c, c ≤ k ∧ Row W G 26 #[s] ∧ OwF W w.heap.size s (filTo cs n a p k) c
  bel : Below w.heap.size w W
theorem IfFaultBoth.old {w : World} {c0 c1 : Value} {cs : List Int} {n : Nat} {a : Int} {p : Nat → Bool} {G k : Nat} {W W' : World} (h : IfFaultBoth w c0 c1 cs n a p G k W) (hb : Below W.heap.size W W') : IfFaultBoth w c0 c1 cs n a p G k W' := by
  obtain ⟨s, c, hc, hr, ho⟩ := h.out
  exact ⟨h.fn.old hb, ⟨s, c, hc, hr.old hb, ho.below hb⟩, h.bel.trans (hb.mono h.bel.size)⟩

set_option maxRecDepth 100000 in
set_option maxHeartbeats 1000000 in
theorem ifStepFaultBoth (w : World) (c0 c1 : Value) (cs : List Int) (n : Nat) (a : Int) (p : Nat → Bool) (G : Nat) (hG : w.heap.size ≤ G) (k : Nat) (W : World) (hk : k < nMl cs n) (hI : IfFaultBoth w c0 c1 cs n a p G k W) (hin : inB (a - ohmsI cs n k) 0 1000 = true)
    (hst : ∀ W, Below w.heap.size w W → Calls Try.prog 62 #[.agg #[.int .i64 (k : Int), .int .i64 (a - ohmsI cs n k)], c0, c1] W fun e W' => e = .returned (.bool (p k)) ∧ Below W.heap.size W W') :
    Calls Try.prog 92 #[.agg #[.int .i64 (k : Int), .int .i64 (a - ohmsI cs n k)], .pointer (some ⟨w.heap.size, 0, none⟩), .pointer (some ⟨G, 0, none⟩)] W
      fun e W' => (e = .returned (.bool true) ∧ IfFaultBoth w c0 c1 cs n a p G (k + 1) W') ∨ (e = .returned (.bool false) ∧ False) := by
  have hNX : (inB (a - ohmsI cs n k) 0 1000 && p k) = p k := by rw [hin]; rfl
  have H0 := Lib.hid fun h => filTo_no (cs := cs) (n := n) (a := a) (p := p) (k := k) (hNX.trans h)
  have H1 := Lib.hid fun h => filTo_yes (cs := cs) (n := n) (a := a) (p := p) (k := k) (hNX.trans h)
  have hkl : k ≤ 401 := Nat.le_trans (Nat.le_of_lt hk) nMl_le
  clear hNX hin hk
  revert hst H0 H1
  generalize a - ohmsI cs n k = F
  intro hst H0 H1
  have bx := box2 W (k : Int) F 41
  have HI := Lib.hid (hI.old bx.1)
  have HST := Lib.hid hst
  have c0 : (W.alloc (.cells #[.int .i64 (k : Int), .int .i64 F] 41)).cell? ⟨w.heap.size, 0, none⟩ = some (.func (.func 62) #[] #[c0, c1]) := by rw [HI.out.fn.cell]; rfl
  have X1 := Lib.hid bx.2.1
  have X2 := Lib.hid bx.2.2
  clear hI hst bx
  go_enter Try.func92, Try.ntmps92
  go_wp2_with fail
  refine (HST.out _ HI.out.bel).mono ?_
  rintro e w1 ⟨rfl, b1⟩
  have HI1 := HI.out.old b1
  obtain ⟨s, c, hc, hr, ho⟩ := HI1.out
  obtain ⟨sa, sn, sc, rfl, hsn⟩ := ho.form
  have HI2 := Lib.hid HI1
  have HR := Lib.hid hr
  have HO := Lib.hid ho
  have d0 : w1.cell? ⟨G, 0, none⟩ = some (.slice sa sn sc) := by rw [hr.cell]; rfl
  have f0 := cellB X1.out b1
  have f1 := cellB X2.out b1
  have hs1 := HI1.bel.size
  clear HI1 hr ho b1 c0 HI X1 X2 HST hsn
  cases hp : p k with
  | false =>
    have HH := Lib.hid (H0.out hp)
    go_wp2
    go_ret
    exact .inl ⟨rfl, HI2.out.fn, ⟨_, c, by omega, HR.out, by rw [HH.out]; exact HO.out⟩, HI2.out.bel⟩
  | true =>
    have HH := Lib.hid (H1.out hp)
    go_wp2_with (at_builtin; refine wpList_pushF HO.out (by rfl) (by rfl) (by rfl) (by rfl) (by omega) hs1 ?_; intro v' w4 hown4 hb4 hg4; obtain ⟨ta, tn, tc, rfl, htn⟩ := hown4.form; have HR4 := HR.out.grown hg4 (HO.out.apart HR.out (by decide)); have HF4 := HI2.out.fn.grown hg4 (HO.out.apart HI2.out.fn (by decide)); have e0 : w4.cell? ⟨G, 0, none⟩ = some (.slice sa sn sc) := (by rw [HR4.cell]; rfl); have z0 := HR4.frozen 0; have HRR := Lib.hid HR4; have HFF := Lib.hid HF4; have HO4 := Lib.hid hown4; have HB4 := Lib.hid hb4; clear hown4 hb4 hg4 HR4 HF4 htn)
    go_ret
    have hne : w.heap.size ≠ G := fun e => by
      have h1 := HFF.out
      have h2 := HRR.out
      unfold Row at h1 h2
      rw [e, h2] at h1
      cases h1
    refine .inl ⟨rfl, HFF.out.other (a := ⟨G, 0, none⟩) hne _, ⟨_, c + 1, by omega, HRR.out.set 0 _, ?_⟩, ((HI2.out.bel.trans HB4.out)).setCell (p := ⟨G, 0, none⟩) hG _⟩
    rw [HH.out]
    exact HO4.out.set (HO4.out.apart HRR.out (by decide))

set_option maxRecDepth 100000 in
set_option maxHeartbeats 1000000 in
theorem implFaultsIf_FaultBoth (v : Value) (a : Int) (c0 c1 : Value) (cs : List Int) (n hi : Nat) (p : Nat → Bool) (w : World) (hv : SlF 3 w hi v cs n) (ha : -9223372036854775808 ≤ a ∧ a ≤ 9223372036854775807)
    (hst : ∀ (k : Nat) W, k < nMl cs n → inB (a - ohmsI cs n k) 0 1000 = true → Below w.heap.size w W → Calls Try.prog 62 #[.agg #[.int .i64 (k : Int), .int .i64 (a - ohmsI cs n k)], c0, c1] W fun e W' => e = .returned (.bool (p k)) ∧ Below W.heap.size W W') :
    Calls Try.prog 61 #[v, .int .i64 a, (.func (.func 62) #[] #[c0, c1])] w fun e w' => ∃ v' c, e = .returned (.tuple #[v', .bool (oneOk cs n a)]) ∧ Below w.heap.size w w' ∧ WrF 2 41 w' w.heap.size w'.heap.size v' (filL cs n a p) c := by
  have B0 := Lib.hid ((Below.refl w.heap.size w).alloc (Nat.le_refl _) (.cells #[(.func (.func 62) #[] #[c0, c1])] 80))
  have V0 := Lib.hid (hv.old B0.out)
  have HV := Lib.hid hv
  have R0 := Lib.hid (Row.new w #[(.func (.func 62) #[] #[c0, c1])] 80)
  have HST := Lib.hid hst
  have HA := Lib.hid ha
  cases h1 : cabB cs n with
  | false =>
    have HO : Hid (oneOk cs n a = false) := Lib.hid (by simp [oneOk, h1])
    have HL : Hid (filL cs n a p = []) := Lib.hid (by unfold filL; rw [HO.out]; rfl)
    clear hv hst ha
    go_enter Try.func61, Try.ntmps61
    go_wp2_with fail
    refine (implCableValid_is _ cs n hi _ V0.out h1).mono ?_
    rintro e w1 ⟨rfl, b1⟩
    have B1 := Lib.hid (nextW B0.out b1)
    clear b1
    go_wp2
    go_ret2
    exact ⟨_, 0, by rw [HO.out]; rfl, B1.out, by rw [HL.out]; exact (OwF.nil _ _).wr (by omega)⟩
  | true =>
    by_cases h0 : 0 ≤ a
    · have HO : Hid (oneOk cs n a = true) := Lib.hid (by simp [oneOk, h1, h0])
      have HL : Hid (filL cs n a p = filTo cs n a p (nMl cs n)) := Lib.hid (by unfold filL; rw [HO.out]; rfl)
      have hneg : decide (a < 0) = false := decide_eq_false (by omega)
      clear hv hst ha
      go_enter Try.func61, Try.ntmps61
      go_wp2_with fail
      refine (implCableValid_is _ cs n hi _ V0.out h1).mono ?_
      rintro e w1 ⟨rfl, b1⟩
      have B1 := Lib.hid (nextW B0.out b1)
      have R1 := Lib.hid (R0.out.old b1)
      have hs1 := B1.out.size
      clear b1
      go_wp2_with fail
      refine (each_faultsIf _ cs n hi a _ _ (IfFaultBoth w c0 c1 cs n a p (w1.heap.size + 1)) (fun _ => False) _ HA.out ?_ (fun k W h => HV.out.old h.bel) (fun k W W' h hb => h.old hb) ?_ ?_).mono ?_
      · have a1 := (Below.refl w1.heap.size w1).alloc (Nat.le_refl _) (.cells #[] 41)
        have a2 := a1.alloc (by simp) (.cells #[.slice (some ⟨w1.heap.size, 0, none⟩) 0 0] 26)
        have r2 := Row.new (w1.alloc (.cells #[] 41)) #[.slice (some ⟨w1.heap.size, 0, none⟩) 0 0] 26
        rw [World.size_alloc] at r2
        exact ⟨R1.out.old a2, ⟨_, 0, Nat.le_refl _, r2, (OwF.empty w1 w.heap.size hs1).below ((Below.refl _ _).alloc (Nat.le_refl _) _)⟩, nextW B1.out a2⟩
      · intro k W hk hI hin
        obtain ⟨s, c, hc, hr, ho⟩ := hI.out
        exact ⟨hI.fn, ⟨s, c, by omega, hr, by rw [filTo_no (by rw [hin]; rfl)]; exact ho⟩, hI.bel⟩
      · intro k W hk hI hin
        exact ifStepFaultBoth w c0 c1 cs n a p _ (by omega) k W hk hI hin (fun W hW => HST.out k W hk hin hW)
      rintro e w2 ⟨rfl, h2⟩
      rcases h2.out with h3 | h3
      · obtain ⟨s, c, hc, hr, ho⟩ := h3.out
        obtain ⟨sa, sn, sc, rfl, hsn⟩ := ho.form
        have d0 : w2.cell? ⟨w1.heap.size + 1, 0, none⟩ = some (.slice sa sn sc) := by rw [hr.cell]; rfl
        have B2 := Lib.hid h3.bel
        have HO2 := Lib.hid (ho.wr (by have := nMl_le (cs := cs) (n := n); omega))
        clear h2 h3 ho hr hsn
        go_wp2
        go_ret2
        exact ⟨_, c, by rw [HO.out]; rfl, B2.out, by rw [HL.out]; exact HO2.out⟩
      · exact h3.elim
    · have HO : Hid (oneOk cs n a = false) := Lib.hid (by simp [oneOk, h1]; omega)
      have HL : Hid (filL cs n a p = []) := Lib.hid (by unfold filL; rw [HO.out]; rfl)
      have hneg : decide (a < 0) = true := decide_eq_true (by omega)
      clear hv hst ha
      go_enter Try.func61, Try.ntmps61
      go_wp2_with fail
      refine (implCableValid_is _ cs n hi _ V0.out h1).mono ?_
      rintro e w1 ⟨rfl, b1⟩
      have B1 := Lib.hid (nextW B0.out b1)
      clear b1
      go_wp2
      go_ret2
      exact ⟨_, 0, by rw [HO.out]; rfl, B1.out, by rw [HL.out]; exact (OwF.nil _ _).wr (by omega)⟩

theorem filL_one (cs : List Int) (n : Nat) (a : Int) : filL cs n a (fun _ => true) = oneL cs n a := by
  unfold filL oneL; rw [filTo_on]

theorem implFaultOne_b (v : Value) (a : Int) (cs : List Int) (n hi : Nat) (w : World) (hv : SlF 3 w hi v cs n) (ha : -9223372036854775808 ≤ a ∧ a ≤ 9223372036854775807) :
    Calls Try.prog 38 #[v, .int .i64 a] w fun e w' => ∃ v' c, e = .returned (.tuple #[v', .bool (oneOk cs n a)]) ∧ Below w.heap.size w w' ∧ WrF 2 41 w' w.heap.size w'.heap.size v' (oneL cs n a) c := by
  have HV := Lib.hid hv
  have HA := Lib.hid ha
  clear hv ha
  go_enter Try.func38, Try.ntmps38
  go_wp2_with fail
  refine (implFaultsIf_FaultOne _ a cs n hi (fun _ => true) _ HV.out HA.out ?_).mono ?_
  · intro k W hk hin hb
    go_enter Try.func77, Try.ntmps77
    go_wp2
    go_ret
    exact ⟨rfl, (Below.refl _ _).alloc (Nat.le_refl _) _⟩
  rintro e w1 ⟨v1, c, rfl, b1, r1⟩
  have B1 := Lib.hid b1
  have R1 := Lib.hid r1
  clear b1 r1
  go_wp2
  go_ret2
  exact ⟨_, c, rfl, B1.out, by rw [← filL_one]; exact R1.out⟩

end Go.Proofs.Ytoanefccnbnkmaa
