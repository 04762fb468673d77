/- Contracts: forecasts. -/
import Derived.Test.YtemgmajlpfdhmaaProg
import Derived.Test.YtemgmajlpfdhmaaFcPlain
import Derived.Lib.Tables
import Derived.WalkSpells
import Derived.WalkLawsBesides
import Derived.BigQuiet
import Derived.Deep.QuietTactic
import Derived.BigRegion
import Derived.Lib.Hide
namespace Go.Proofs.Ytemgmajlpfdhmaa
open Go.RowKit

theorem l6In_any (n a b : Int) (w : World) :
    Calls Try.prog 10 #[.int .i64 n, .int .i64 a, .int .i64 b] w fun e w' => e = .returned (.bool (inB n a b)) ∧ w = w' := by
  go_enter Try.func10, Try.ntmps10
  go_wp2
  all_goals go_ret
  · have h : a ≤ n := by assumption
    exact ⟨by simp [inB, h], rfl⟩
  · have h : n < a := by assumption
    exact ⟨by simp [inB]; omega, rfl⟩
theorem within_any (n a b : Int) (w : World) :
    Calls Try.prog 11 #[.int .i64 n, .int .i64 a, .int .i64 b] w fun e w' => e = .returned (.bool (inB n a b)) ∧ w = w' := by
  go_enter Try.func11, Try.ntmps11
  go_wp2
  all_goals go_ret
  · have h : a ≤ n := by assumption
    exact ⟨by simp [inB, h], rfl⟩
  · have h : n < a := by assumption
    exact ⟨by simp [inB]; omega, rfl⟩
theorem l6In_is {r : Bool} (n a b : Int) (w : World) (h : inB n a b = r) :
    Calls Try.prog 10 #[.int .i64 n, .int .i64 a, .int .i64 b] w fun e w' => e = .returned (.bool r) ∧ w = w' := h ▸ l6In_any n a b w
theorem within_is {r : Bool} (n a b : Int) (w : World) (h : inB n a b = r) :
    Calls Try.prog 11 #[.int .i64 n, .int .i64 a, .int .i64 b] w fun e w' => e = .returned (.bool r) ∧ w = w' := h ▸ within_any n a b w

/-- 's[k]'. -/
theorem run_ch (s : ByteArray) (k : Nat) (w : World) (h : k < s.size) :
    (Instr.index 9 (.string s) (.int .i64 (k : Int))).run Try.prog w = .ok (.int .u8 (ch s k)) w := by
  rw [run_index_string w 9 s .i64 k Try.underlying9, dif_pos ⟨by omega, by omega⟩]
  simp only [Int.toNat_natCast, ch_eq h]

theorem specForecastValid_any (s : ByteArray) (w : World) (hs : s.size ≤ 1048576) :
    Calls Try.prog 5 #[.string s] w fun e w' => e = .returned (.bool (fcB s)) ∧ w = w' := by
  have hrun := fun k w => run_ch s k w
  go_enter Try.func5, Try.ntmps5
  go_wp2
  go_loop [3] (fun i => ∃ k : Nat, k ≤ s.size ∧ i = .int .i64 k ∧ Hid (okTo s k)) (fun i => s.size - (intOf i).toNat)
  case atStart => exact ⟨0, Nat.zero_le _, rfl, fun j hj => absurd hj (by omega)⟩
  case round =>
    obtain ⟨k, hk, rfl, hno⟩ := hrel
    by_cases hlt : k < s.size
    · have hr := fun w => hrun k w hlt
      clear hrun
      by_cases h1 : ch s k = 111
      · have hb : (ch s k != 111) = false := by simp [h1]
        have H1 := Lib.hid h1
        clear h1
        go_wp2
        go_round
        case rel => exact ⟨k + 1, by omega, by go_num, okTo_succ hno.out (.inl H1.out)⟩
        case measure => simp [intOf]; omega
      · have hb : (ch s k != 111) = true := by simp [h1]
        by_cases h2 : ch s k = 120
        · have hb2 : (ch s k != 120) = false := by simp [h2]
          have H2 := Lib.hid h2
          clear h1 h2
          go_wp2
          go_round
          case rel => exact ⟨k + 1, by omega, by go_num, okTo_succ hno.out (.inr H2.out)⟩
          case measure => simp [intOf]; omega
        · have hb2 : (ch s k != 120) = true := by simp [h2]
          have H1 := Lib.hid h1
          have H2 := Lib.hid h2
          clear h1 h2
          go_wp2
          go_ret
          exact ⟨by rw [fcB_no_at hlt H1.out H2.out]; rfl, rfl⟩
    · obtain rfl : s.size = k := by omega
      clear hrun
      go_wp2
      go_ret
      have e : decide ((s.size : Int) ≤ 30) = decide (s.size ≤ 30) := by rw [decide_eq_decide]; omega
      refine ⟨?_, rfl⟩
      rw [fcB_all hno.out, ← e]
      rfl

theorem specForecastValid_is {r : Bool} (s : ByteArray) (w : World) (hs : s.size ≤ 1048576) (h : fcB s = r) :
    Calls Try.prog 5 #[.string s] w fun e w' => e = .returned (.bool r) ∧ w = w' := h ▸ specForecastValid_any s w hs

def fopI (s : ByteArray) (d : Int) : Int := if fcB s && inB d 0 s.size then (opn s d.toNat : Int) else -1

theorem specForecastOpen_any (s : ByteArray) (d : Int) (w : World) (hs : s.size ≤ 1048576) :
    Calls Try.prog 7 #[.string s, .int .i64 d] w fun e w' => e = .returned (.int .i64 (fopI s d)) ∧ w = w' := by
  cases h1 : fcB s with
  | false =>
    go_enter Try.func7, Try.ntmps7
    go_wp2_with fail
    refine (specForecastValid_is s _ hs h1).mono ?_
    rintro e _ ⟨rfl, rfl⟩
    go_wp2
    go_ret
    exact ⟨by simp [fopI, h1], rfl⟩
  | true =>
    cases h2 : inB d 0 s.size with
    | false =>
      go_enter Try.func7, Try.ntmps7
      go_wp2_with fail
      refine (specForecastValid_is s _ hs h1).mono ?_
      rintro e _ ⟨rfl, rfl⟩
      go_wp2_with fail
      refine (l6In_is _ _ _ _ h2).mono ?_
      rintro e _ ⟨rfl, rfl⟩
      go_wp2
      go_ret
      exact ⟨by simp [fopI, h2], rfl⟩
    | true =>
      have h2' := inB_true.1 h2
      obtain ⟨d, rfl⟩ := Int.eq_ofNat_of_zero_le h2'.1
      have hd : d ≤ s.size := by omega
      have hf : fopI s (d : Int) = (opn s d : Int) := by simp [fopI, h1, h2]
      have HF := Lib.hid hf
      clear hf h2'
      have hrun := fun k w => run_ch s k w
      go_enter Try.func7, Try.ntmps7
      go_wp2_with fail
      refine (specForecastValid_is s _ hs h1).mono ?_
      rintro e _ ⟨rfl, rfl⟩
      go_wp2_with fail
      refine (l6In_is _ _ _ _ h2).mono ?_
      rintro e _ ⟨rfl, rfl⟩
      go_wp2
      go_loop [5, 6] (fun c i => ∃ k : Nat, k ≤ d ∧ i = .int .i64 k ∧ c = .int .i64 (opn s k : Int)) (fun _ i => d - (intOf i).toNat)
      case atStart => exact ⟨0, Nat.zero_le _, rfl, rfl⟩
      case round =>
        obtain ⟨k, hk, rfl, rfl⟩ := hrel
        have hol := opn_le s k
        by_cases hlt : k < d
        · have hr := fun w => hrun k w (by omega)
          clear hrun
          by_cases h1 : ch s k = 111
          · have hb : (ch s k == 111) = true := by simp [h1]
            have hs : opn s (k + 1) = opn s k + 1 := by simp [opn, h1]
            have HS := Lib.hid hs
            clear h1 hs
            go_wp2
            go_round
            case rel => exact ⟨k + 1, by omega, by go_num, by rw [HS.out]; go_num⟩
            case measure => simp [intOf]; omega
          · have hb : (ch s k == 111) = false := by simp [h1]
            have hs : opn s (k + 1) = opn s k := by simp [opn, h1]
            have HS := Lib.hid hs
            clear h1 hs
            go_wp2
            go_round
            case rel => exact ⟨k + 1, by omega, by go_num, by rw [HS.out]⟩
            case measure => simp [intOf]; omega
        · obtain rfl : d = k := by omega
          clear hrun
          go_wp2
          go_ret
          exact ⟨by rw [HF.out]; rfl, rfl⟩

theorem ofInt_u32 (a : Nat) (ha : a < 4294967296) : (BitVec.ofInt IntKind.u32.bits (a : Int)).toNat = a := by
  show (BitVec.ofInt 32 (a : Int)).toNat = a
  rw [BitVec.toNat_ofInt]
  omega
theorem u32_and (a b : Nat) (ha : a < 4294967296) (hb : b < 4294967296) : bits .and .u32 (a : Int) (b : Int) = ((a &&& b : Nat) : Int) := by
  show IntKind.u32.wrap (((BitVec.ofInt IntKind.u32.bits (a : Int)) &&& (BitVec.ofInt IntKind.u32.bits (b : Int))).toNat : Int) = _
  rw [BitVec.toNat_and, ofInt_u32 a ha, ofInt_u32 b hb]
  have := Nat.and_le_left (n := a) (m := b)
  exact IntWalk.u32_in _ (by omega)
theorem u32_or (a b : Nat) (ha : a < 4294967296) (hb : b < 4294967296) : bits .or .u32 (a : Int) (b : Int) = ((a ||| b : Nat) : Int) := by
  show IntKind.u32.wrap (((BitVec.ofInt IntKind.u32.bits (a : Int)) ||| (BitVec.ofInt IntKind.u32.bits (b : Int))).toNat : Int) = _
  rw [BitVec.toNat_or, ofInt_u32 a ha, ofInt_u32 b hb]
  have := Nat.or_lt_two_pow (x := a) (y := b) (n := 32) (by omega) (by omega)
  exact IntWalk.u32_in _ (by omega)
theorem u32_and255 (a : Int) (h0 : 0 ≤ a) (h1 : a < 4294967296) : bits .and .u32 a 255 = a % 256 := by
  obtain ⟨n, rfl⟩ := Int.eq_ofNat_of_zero_le h0
  rw [show (255 : Int) = ((255 : Nat) : Int) from rfl, u32_and n 255 (by omega) (by omega), show (255 : Nat) = 2 ^ 8 - 1 from rfl, Nat.and_two_pow_sub_one_eq_mod]
  omega

theorem onesCount32_any (x : Nat) (w : World) (hx : x < 4294967296) :
    Calls Try.prog 13 #[.int .u32 (x : Int)] w fun e w' => e = .returned (.int .i64 (Lib.popAux 64 x : Int)) ∧ ∃ m, w' = w.drewN m := by
  go_enter Try.func13, Try.ntmps13
  go_wp2
  generalize hS : ByteArray.mk _ = S
  obtain rfl : S = Lib.pop8tab := by rw [← hS]; kernel_rfl
  clear hS
  have a1 : bits .and .u32 ((x : Int) / 65536) 255 = (x : Int) / 65536 % 256 := u32_and255 _ (by omega) (by omega)
  have a2 : bits .and .u32 ((x : Int) / 256) 255 = (x : Int) / 256 % 256 := u32_and255 _ (by omega) (by omega)
  have a3 : bits .and .u32 (x : Int) 255 = (x : Int) % 256 := u32_and255 _ (by omega) (by omega)
  have b0 : 0 ≤ (x : Int) / 16777216 := by omega
  have b1 : (x : Int) / 16777216 ≤ 255 := by omega
  go_quiet (fail)
  have hf : (Lib.pop8 ((x : Int) / 16777216) + Lib.pop8 ((x : Int) / 65536 % 256) + Lib.pop8 ((x : Int) / 256 % 256) + Lib.pop8 ((x : Int) % 256)) % 256 = (Lib.popAux 64 x : Int) := by
    have c0 : (x : Int) / 16777216 = ((x / 16777216 : Nat) : Int) := by omega
    have c1 : (x : Int) / 65536 % 256 = ((x / 65536 % 256 : Nat) : Int) := by omega
    have c2 : (x : Int) / 256 % 256 = ((x / 256 % 256 : Nat) : Int) := by omega
    have c3 : (x : Int) % 256 = ((x % 256 : Nat) : Int) := by omega
    rw [c0, c1, c2, c3, pop8_nat _ (by omega), pop8_nat _ (by omega), pop8_nat _ (by omega), pop8_nat _ (by omega), pop32 x hx]
    have l0 := pop8_le (x / 16777216) (by omega)
    have l1 := pop8_le (x / 65536 % 256) (by omega)
    have l2 := pop8_le (x / 256 % 256) (by omega)
    have l3 := pop8_le (x % 256) (by omega)
    omega
  have HF := Lib.hid hf
  clear hf a1 a2 a3 b0 b1
  go_wp2
  go_ret
  exact ⟨by rw [← HF.out]; rfl, nq, rfl⟩

/-- A row of cells that is not frozen. -/
def Row (w : World) (g : Nat) (e : TypeId) (cur : Array Value) : Prop := w.heap[g]? = some (.cells cur e (0, 0))
theorem Row.cell {w : World} {g : Nat} {e : TypeId} {cur : Array Value} (h : Row w g e cur) (k : Nat) : w.cell? ⟨g, k, none⟩ = cur[k]? := cell_of_row w g k cur e (0, 0) h
theorem Row.frozen {w : World} {g : Nat} {e : TypeId} {cur : Array Value} (h : Row w g e cur) (k : Nat) : w.frozen? ⟨g, k, none⟩ = false := frozen_of_row w g k cur e h
theorem Row.lt {w : World} {g : Nat} {e : TypeId} {cur : Array Value} (h : Row w g e cur) : g < w.heap.size := (Array.getElem?_eq_some_iff.1 h).1
theorem Row.set {w : World} {g : Nat} {e : TypeId} {cur : Array Value} (h : Row w g e cur) (k : Nat) (u : Value) : Row (w.setCell ⟨g, k, none⟩ u) g e (cur.setIfInBounds k u) :=
  heap_setCell_same w g k cur e u h
theorem Row.old {w w' : World} {g : Nat} {e : TypeId} {cur : Array Value} (h : Row w g e cur) (hb : Below w.heap.size w w') : Row w' g e cur := (hb.block g h.lt).trans h
theorem Row.new (w : World) (cur : Array Value) (e : TypeId) : Row (w.alloc (.cells cur e)) w.heap.size e cur := heap_alloc_new w _
theorem Row.other {w : World} {g : Nat} {e : TypeId} {cur : Array Value} (h : Row w g e cur) {a : Addr} (ha : g ≠ a.block) (u : Value) : Row (w.setCell a u) g e cur :=
  (Below.heap_setCell w a u g ha).trans h

theorem msk_or (s : ByteArray) (k : Nat) (hk : k < 30) : bits .or .u32 (msk s k : Int) (2 ^ k % 4294967296) = ((msk s k + 2 ^ k : Nat) : Int) := by
  have hml := msk_lt s k
  have hp : 2 ^ k < 2 ^ 30 := Nat.pow_lt_pow_right (by omega) hk
  have e : (2 : Int) ^ k % 4294967296 = ((2 ^ k : Nat) : Int) := by
    rw [show (2 : Int) ^ k = ((2 ^ k : Nat) : Int) by rw [Int.natCast_pow]; rfl]
    revert hp
    generalize 2 ^ k = p
    intro hp
    omega
  rw [e, u32_or _ _ (by omega) (by omega)]
  have := Nat.two_pow_add_eq_or_of_lt hml 1
  rw [Nat.mul_one] at this
  rw [Nat.or_comm, ← this, Nat.add_comm]

/-- The forecast's two cells, given back. -/
theorem forecast_ret2 {w WF : World} {a : Act} {m n : Nat} {b : Bool} {Q : Ending → World → Prop} (h2 : a.tmps[2]?.getD undef = .pointer (some ⟨w.heap.size, 0, none⟩)) (h3 : a.tmps[3]?.getD undef = .bool b) (hd : a.defers = [])
    (hF : Row WF w.heap.size 27 #[.int .u32 (m : Int), .int .i64 (n : Int)])
    (hQ : Q (.returned (.tuple #[.agg #[.int .u32 (m : Int), .int .i64 (n : Int)], .bool b])) WF) :
    bodyPost Try.prog Try.f9 Q .ret a WF := by
  have e0 := hF.cell 0
  have e1 := hF.cell 1
  simp only [List.getElem?_toArray, List.getElem?_cons_zero, List.getElem?_cons_succ] at e0 e1
  exact bodyPost_ret (v := .tuple #[.agg #[.int .u32 (m : Int), .int .i64 (n : Int)], .bool b]) (by simp [results, Try.results9, go_sem, e0, e1, h2, h3]) hd hQ

theorem forecast_ret {w wr : World} {a : Act} {m n : Nat} {b : Bool} {Q : Ending → World → Prop} (h2 : a.tmps[2]?.getD undef = .pointer (some ⟨w.heap.size, 0, none⟩)) (h3 : a.tmps[3]?.getD undef = .bool b) (hd : a.defers = [])
    (hB : Below w.heap.size w wr) (hR : Row wr w.heap.size 27 #[.int .u32 0, .int .i64 0])
    (hQ : ∀ w', Below w.heap.size w w' → Q (.returned (.tuple #[.agg #[.int .u32 (m : Int), .int .i64 (n : Int)], .bool b])) w') :
    bodyPost Try.prog Try.f9 Q .ret a ((wr.setCell ⟨w.heap.size, 0, none⟩ (.int .u32 (m : Int))).setCell ⟨w.heap.size, 1, none⟩ (.int .i64 (n : Int))) :=
  forecast_ret2 h2 h3 hd ((hR.set 0 _).set 1 _) (hQ _ ((hB.setCell (p := ⟨w.heap.size, 0, none⟩) (Nat.le_refl _) (.int .u32 (m : Int))).setCell (p := ⟨w.heap.size, 1, none⟩) (Nat.le_refl _) (.int .i64 (n : Int))))

theorem forecastOf_any (s : ByteArray) (w : World) (hs : s.size ≤ 1048576) :
    Calls Try.prog 9 #[.string s] w fun e w' => ∃ m : Nat, e = .returned (.tuple #[.agg #[.int .u32 (m : Int), .int .i64 (s.size : Int)], .bool (fcB s)]) ∧ Below w.heap.size w w' ∧ (fcB s = true → m = msk s s.size) := by
  by_cases hl : s.size ≤ 30
  · have hrun := fun k w => run_ch s k w
    go_enter Try.func9, Try.ntmps9
    go_wp2
    go_loopw [15] (fun i wr => ∃ k : Nat, k ≤ s.size ∧ i = .int .i64 k ∧ Below w.heap.size w wr ∧ Row wr w.heap.size 27 #[.int .u32 0, .int .i64 0] ∧ Row wr (w.heap.size + 1) 27 #[.int .u32 (msk s k : Int), .int .i64 (s.size : Int)] ∧ Hid (okTo s k)) (fun i _ => s.size - (intOf i).toNat)
    case atStart =>
      refine ⟨0, Nat.zero_le _, rfl, ((Below.refl _ w).alloc (Nat.le_refl _) _).alloc (by simp) _, (Row.new w _ _).old ((Below.refl _ _).alloc (Nat.le_refl _) _), ?_, fun j hj => absurd hj (by omega)⟩
      have := Row.new (w.alloc (.cells #[.int .u32 0, .int .i64 0] 27)) #[.int .u32 0, .int .i64 (s.size : Int)] 27
      rw [World.size_alloc] at this
      exact this
    case round =>
      obtain ⟨k, hk, rfl, hB, hR0, hR, hno⟩ := hrel
      have hml := msk_lt s k
      have hp : 2 ^ k ≤ 2 ^ 30 := Nat.pow_le_pow_right (by omega) (by omega)
      have c0 : wr.cell? ⟨w.heap.size + 1, 0, none⟩ = some (.int .u32 (msk s k : Int)) := by rw [hR.cell]; rfl
      have c1 : wr.cell? ⟨w.heap.size + 1, 1, none⟩ = some (.int .i64 (s.size : Int)) := by rw [hR.cell]; rfl
      have f0 := hR.frozen 0
      have d0 : wr.cell? ⟨w.heap.size, 0, none⟩ = some (.int .u32 0) := by rw [hR0.cell]; rfl
      have d1 : wr.cell? ⟨w.heap.size, 1, none⟩ = some (.int .i64 0) := by rw [hR0.cell]; rfl
      have g0 := hR0.frozen 0
      have g1 := hR0.frozen 1
      have HR0 := Lib.hid hR0
      have HR := Lib.hid hR
      have HB := Lib.hid hB
      clear hR0 hR hB
      by_cases hlt : k < s.size
      · have hr := fun w => hrun k w hlt
        clear hrun
        by_cases h1 : ch s k = 111
        · have hb : (ch s k == 111) = true := by simp [h1]
          have hs : msk s (k + 1) = msk s k + 2 ^ k := by simp [msk, h1]
          have HS := Lib.hid hs
          have H1 := Lib.hid h1
          clear h1 hs
          go_wp2
          go_region
          rw [msk_or s k (by omega)]
          go_wp2
          go_roundw
          case rel => exact ⟨k + 1, by omega, by go_num, (HB.out.setCell (p := ⟨w.heap.size + 1, 0, none⟩) (by show w.heap.size ≤ w.heap.size + 1; omega) _).drew, HR0.out.other (by show w.heap.size ≠ w.heap.size + 1; omega) _, by rw [HS.out]; exact HR.out.set 0 _, okTo_succ hno.out (.inl H1.out)⟩
          case measure => simp [intOf]; omega
        · have hb : (ch s k == 111) = false := by simp [h1]
          have hs : msk s (k + 1) = msk s k := by simp [msk, h1]
          have HS := Lib.hid hs
          by_cases h2 : ch s k = 120
          · have hb2 : (ch s k == 120) = true := by simp [h2]
            have H2 := Lib.hid h2
            clear h1 hs h2
            go_wp2
            go_roundw
            case rel => exact ⟨k + 1, by omega, by go_num, HB.out, HR0.out, by rw [HS.out]; exact HR.out, okTo_succ hno.out (.inr H2.out)⟩
            case measure => simp [intOf]; omega
          · have hb2 : (ch s k == 120) = false := by simp [h2]
            have H1 := Lib.hid h1
            have H2 := Lib.hid h2
            clear h1 hs h2
            go_wp2
            have hf := fcB_no_at hlt H1.out H2.out
            exact forecast_ret rfl rfl rfl HB.out HR0.out (fun w' hb => ⟨_, by rw [hf], hb, fun h => by rw [hf] at h; cases h⟩)
      · obtain rfl : s.size = k := by omega
        clear hrun
        go_wp2
        have hf : fcB s = true := fcB_true.2 ⟨hno.out, hl⟩
        exact forecast_ret rfl rfl rfl HB.out HR0.out (fun w' hb => ⟨_, by rw [hf], hb, fun _ => rfl⟩)
  · have hf := fcB_no_long (s := s) (by omega)
    have HF := Lib.hid hf
    clear hf
    go_enter Try.func9, Try.ntmps9
    go_wp2
    refine forecast_ret2 (m := 0) (n := s.size) (b := false) rfl rfl rfl ((Row.new w _ _).old ((Below.refl _ _).alloc (Nat.le_refl _) _)) ⟨0, by rw [HF.out], ((Below.refl _ w).alloc (Nat.le_refl _) _).alloc (by simp) _, fun h => by rw [HF.out] at h; cases h⟩

theorem forecastOf_is {r : Bool} (s : ByteArray) (w : World) (hs : s.size ≤ 1048576) (h : fcB s = r) :
    Calls Try.prog 9 #[.string s] w fun e w' => ∃ m : Nat, e = .returned (.tuple #[.agg #[.int .u32 (m : Int), .int .i64 (s.size : Int)], .bool r]) ∧ Below w.heap.size w w' ∧ (r = true → m = msk s s.size) := h ▸ forecastOf_any s w hs

theorem implForecastValid_any (s : ByteArray) (w : World) (hs : s.size ≤ 1048576) :
    Calls Try.prog 6 #[.string s] w fun e w' => e = .returned (.bool (fcB s)) ∧ Below w.heap.size w w' := by
  go_enter Try.func6, Try.ntmps6
  go_wp2_with fail
  refine (forecastOf_any s _ hs).mono ?_
  rintro e w1 ⟨m, rfl, b1, _⟩
  have z1 := b1.size
  go_wp2
  go_ret
  exact ⟨rfl, b1.alloc z1 _⟩

theorem ahead_any (s : ByteArray) (d n : Nat) (w : World) (hd : d ≤ s.size) (hn : s.size ≤ 30) :
    Calls Try.prog 12 #[.agg #[.int .u32 (msk s s.size : Int), .int .i64 (n : Int)], .int .i64 (d : Int)] w fun e w' => e = .returned (.int .i64 (opn s d : Int)) ∧ Below w.heap.size w w' := by
  have hp : 2 ^ d ≤ 2 ^ 30 := Nat.pow_le_pow_right (by omega) (by omega)
  have hml := msk_lt s d
  have hq : 2 ^ s.size ≤ 2 ^ 30 := Nat.pow_le_pow_right (by omega) hn
  have hml2 := msk_lt s s.size
  have hmm : msk s s.size % 2 ^ d = msk s d := by
    have := msk_mod s d (s.size - d)
    rwa [show d + (s.size - d) = s.size by omega] at this
  have e1 : (2 : Int) ^ d % 4294967296 = ((2 ^ d : Nat) : Int) := by
    rw [show (2 : Int) ^ d = ((2 ^ d : Nat) : Int) by rw [Int.natCast_pow]; rfl]
    revert hp
    generalize 2 ^ d = p
    intro hp
    omega
  have e2 : IntKind.u32.wrap ((2 : Int) ^ d % 4294967296 - 1) = ((2 ^ d - 1 : Nat) : Int) := by
    have := Nat.two_pow_pos d
    rw [e1, IntWalk.u32_in _ (by omega)]
    omega
  have e3 : bits .and .u32 (msk s s.size : Int) ((2 ^ d - 1 : Nat) : Int) = (msk s d : Int) := by
    rw [u32_and _ _ (by omega) (by omega), Nat.and_two_pow_sub_one_eq_mod, hmm]
  have e4 : Lib.popAux 64 (msk s d) = opn s d := pop_msk s 64 d (by omega)
  have hoc : ∀ w, Calls Try.prog 13 #[.int .u32 (msk s d : Int)] w fun e w' => e = .returned (.int .i64 (opn s d : Int)) ∧ ∃ m, w' = w.drewN m := fun w => e4 ▸ onesCount32_any (msk s d) w (by omega)
  have e5 : ((2 : Int) ^ d % 4294967296 - 1) % 4294967296 = ((2 ^ d - 1 : Nat) : Int) := by rw [← e2, IntKind.wrap_u32]
  have e6 : ((2 : Int) ^ d - 1) % 4294967296 = ((2 ^ d - 1 : Nat) : Int) := by rw [← e5, Int.emod_sub_emod]
  clear hmm hml hml2 hp hq e4 e1
  revert e2 e3 e5 e6
  generalize (2 ^ d - 1 : Nat) = P
  intro e2 e3 e5 e6
  go_enter Try.func12, Try.ntmps12
  go_wp2
  go_quiet ((go_at_call 13; exact Calls.quiet_of (hoc _)))
  clear e2 e3 e5 e6
  go_wp2
  go_ret
  exact ⟨rfl, below_drewN ((Below.refl _ w).alloc (Nat.le_refl _) _) _⟩

end Go.Proofs.Ytemgmajlpfdhmaa
