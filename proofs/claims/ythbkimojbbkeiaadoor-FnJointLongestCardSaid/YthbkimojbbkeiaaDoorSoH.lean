/- Contract: SparesSort of the program. -/
import Derived.Test.YthbkimojbbkeiaaDoorSoG
namespace Go.Proofs.YthbkimojbbkeiaaDoor
open Go.RowKit

theorem stableS_any (v : Value) (cs : List Int) (n B : Nat) (w : World) (h : OwP w B v cs n) (hn : n ≤ 10) (hc : spTo cs n) (hB : B ≤ w.heap.size) :
    Calls Tryd.prog 54 #[v, .int .i64 n, .func (.func 34) #[] #[]] w fun e w' => e = .returned (.tuple #[]) ∧ Hid (Below B w w') ∧ Hid (∃ ys, OwP w' B v ys n ∧ SoK cs ys n n) := by
  have HC := Lib.hid hc
  have HO := Lib.hid h
  obtain ⟨a, cap, rfl, -⟩ := h.form0
  clear h hc
  have t1 : decide ((20 : Int) ≤ (n : Int)) = false := decide_eq_false (by omega)
  have t2 : decide ((20 : Int) < (n : Int)) = false := decide_eq_false (by omega)
  have t3 : ¬ (20 : Int) ≤ (n : Int) := by omega
  have t4 : ¬ (20 : Int) < (n : Int) := by omega
  go_enter Tryd.func54, Tryd.ntmps54
  go_wp2
  go_loop [7, 8] (fun i j => i = .int .i64 0 ∧ j = .int .i64 20) (fun _ _ => 0)
  case atStart => exact ⟨rfl, rfl⟩
  case round =>
    obtain ⟨rfl, rfl⟩ := hrel
    go_wp2_with fail
    refine (insS_any _ cs n B _ HO.out hn HC.out hB).mono ?_
    rintro e w1 ⟨rfl, b1, y1⟩
    clear HO
    go_wp2
    go_loopw [6, 7, 8] (fun k i j wr => k = .int .i64 20 ∧ i = .int .i64 0 ∧ j = .int .i64 20 ∧ wr = w1) (fun _ _ _ _ => 0)
    case atStart => exact ⟨rfl, rfl, rfl, rfl⟩
    case round =>
      obtain ⟨rfl, rfl, rfl, rfl⟩ := hrel
      go_wp2
      go_end0
      exact ⟨rfl, b1, y1⟩

theorem sortStableS_any (v : Value) (cs : List Int) (n B : Nat) (w : World) (h : OwP w B v cs n) (hn : n ≤ 10) (hc : spTo cs n) (hB : B ≤ w.heap.size) :
    Calls Tryd.prog 33 #[v, .func (.func 34) #[] #[]] w fun e w' => e = .returned (.tuple #[]) ∧ Hid (Below B w w') ∧ Hid (∃ ys, OwP w' B v ys n ∧ SoK cs ys n n) := by
  have HC := Lib.hid hc
  have HO := Lib.hid h
  obtain ⟨a, cap, rfl, -⟩ := h.form0
  clear h hc
  go_enter Tryd.func33, Tryd.ntmps33
  go_wp2_with fail
  refine (stableS_any _ cs n B _ HO.out hn HC.out hB).mono ?_
  rintro e w1 ⟨rfl, b1, y1⟩
  go_wp2
  go_end0
  exact ⟨rfl, b1, y1⟩

/-- Whatever is in order and has the same spares is what SparesSort answers. -/
theorem sok_is {cs ys : List Int} {n : Nat} (h : SoK cs ys n n) (hc : spTo cs n) (hl : ys.length = n * 2) : ys = fl (srtTo (prs cs n) 200) := by
  have h1 := srt_is (prs_ok hc) (srt_of_fn (cs := ys) (n := n) h.2) h.1
  rw [← fl_prs hl, h1]

theorem cloneN_any (c : Nat) (w : World) :
    Calls Tryd.prog 32 #[.slice none 0 c] w fun e w' => e = .returned (.slice none 0 0) ∧ w = w' := by
  have q := Lib.run_eql_slice_nil (P := Tryd.prog) w 23 30 none 0 c 0 0 Tryd.underlying23
  go_enter Tryd.func32, Tryd.ntmps32
  go_wp2
  go_ret
  exact ⟨rfl, rfl⟩
theorem OwP.nil (w : World) (B : Nat) : OwP w B (.slice none 0 0) [] 0 := ⟨rfl, .inl ⟨rfl, rfl⟩⟩
/-- slices.Clone of any list. -/
theorem cloneA_any (v : Value) (n hi : Nat) (cs : List Int) (w : World) (hn : n ≤ 1000) (hv : SlF 2 w hi v cs n) :
    Calls Tryd.prog 32 #[v] w fun e w' => ∃ v', e = .returned v' ∧ Hid (OwP w' w.heap.size v' cs n) ∧ Hid (Below w.heap.size w w') := by
  have HV := Lib.hid hv
  obtain ⟨a, cap, rfl, hl, -, -, -, hc⟩ := hv
  cases a with
  | some ad => exact cloneP_any ad cap n hi cs w hn HV.out
  | none =>
    have h0 : n = 0 := by
      rcases Nat.eq_zero_or_pos n with h | h
      · exact h
      · obtain ⟨b, off, e, _⟩ := hc h; cases e
    subst h0
    obtain rfl : cs = [] := List.eq_nil_of_length_eq_zero (by omega)
    refine (cloneN_any cap w).mono ?_
    rintro e w' ⟨rfl, rfl⟩
    exact ⟨_, rfl, OwP.nil w _, Below.refl _ _⟩
theorem WrF.cap {s : Nat} {e : TypeId} {w : World} {lo hi n c : Nat} {a : Option Addr} {cs : List Int} (h : WrF s e w lo hi (.slice a n c) cs n) : n ≤ c := by
  obtain ⟨a', cap, e', h1, h2, h3, h4, h5⟩ := h
  cases e'
  exact h3
theorem WrF.clip {s : Nat} {e : TypeId} {w : World} {lo hi n c : Nat} {a : Option Addr} {cs : List Int} (h : WrF s e w lo hi (.slice a n c) cs n) : WrF s e w lo hi (.slice a n n) cs n := by
  obtain ⟨a', cap, e', h1, h2, h3, h4, h5⟩ := h
  cases e'
  exact ⟨a, n, rfl, h1, h2, Nat.le_refl _, by omega, h5⟩

theorem implSparesSort_b (v : Value) (cs : List Int) (n hi : Nat) (w : World) (hv : SlF 2 w hi v cs n) :
    Calls Tryd.prog 13 #[v] w fun e w' => ∃ v', e = .returned (.tuple #[v', .bool (spB 10 cs n)]) ∧ Hid (Below w.heap.size w w') ∧ Hid (WrF 2 30 w' w.heap.size w'.heap.size v' (srtL cs n) (srtN cs n)) := by
  have HV := Lib.hid hv
  obtain ⟨a, cap, rfl, -⟩ := hv
  cases h1 : spB 10 cs n with
  | false =>
    have HR : Hid (srtL cs n = [] ∧ srtN cs n = 0) := Lib.hid (by simp [srtL, srtN, h1])
    go_enter Tryd.func13, Tryd.ntmps13
    go_wp2_with fail
    refine (implSparesValid_is _ cs n hi _ HV.out h1).mono ?_
    rintro e w1 ⟨rfl, b1⟩
    go_wp2
    go_ret2
    exact ⟨_, rfl, b1, by rw [HR.out.1, HR.out.2]; exact WrF.nil _ _ _ _ _⟩
  | true =>
    have HS := Lib.hid (spB_true.1 h1)
    have hn10 := HS.out.1
    go_enter Tryd.func13, Tryd.ntmps13
    go_wp2_with fail
    refine (implSparesValid_is _ cs n hi _ HV.out h1).mono ?_
    rintro e w1 ⟨rfl, b1⟩
    have V1 := Lib.hid (HV.out.old b1)
    have B1 := Lib.hid b1
    have z1 := b1.size
    clear b1
    go_wp2_with fail
    refine (cloneA_any _ n _ cs _ (by omega) V1.out).mono ?_
    rintro e w2 ⟨v', rfl, o2, b2⟩
    have z2 := b2.out.size
    have B2 := Lib.hid (nextW B1.out b2.out)
    obtain ⟨a', cap', rfl, -⟩ := o2.out.form0
    clear b2 V1 B1
    go_wp2_with fail
    refine (sortStableS_any _ cs n w1.heap.size _ o2.out (by omega) HS.out.2 z2).mono ?_
    rintro e w3 ⟨rfl, b3, y3⟩
    have B3 := Lib.hid (B2.out.trans (b3.out.mono z1))
    obtain ⟨ys, oy, ky⟩ := y3.out
    have WY := Lib.hid ((oy.wr (by omega)).mono z1 (Nat.le_refl _))
    have HR : Hid (srtL cs n = ys ∧ srtN cs n = n) := Lib.hid (by
      rw [srtL, srtN, if_pos h1, if_pos h1]
      exact ⟨(sok_is ky HS.out.2 WY.out.len.1).symm, rfl⟩)
    have hcap := WY.out.cap
    clear o2 b3 B2 y3 oy ky
    go_wp2_with fail
    refine (clipP_any a' n cap' _ hcap).mono ?_
    rintro e _ ⟨rfl, rfl⟩
    go_wp2_with fail
    go_ret2
    exact ⟨_, rfl, B3, by rw [HR.out.1, HR.out.2]; exact WY.out.clip⟩

end Go.Proofs.YthbkimojbbkeiaaDoor
