/- Contracts: FaultBoth of the reference and of the program. -/
import Derived.Test.YtoanefccnbnkmaaIf
import Derived.Test.YtoanefccnbnkmaaEarth
import Derived.ArgAppend
namespace Go.Proofs.Ytoanefccnbnkmaa
open Go.RowKit

/-- Is a ratio measured at a fault, the far end earthed? -/
def fkB (cs : List Int) (n : Nat) (t l m f : Int) : Bool := (feT cs n m f == t) && (feL cs n m f == l)
theorem fk_er {cs : List Int} {n : Nat} {t l m f : Int} (h : fvB cs n m f = true) : fkB cs n t l m f = erB cs n m f t l := by
  unfold fkB feT feL erB
  rw [h]; rfl

/-- Those of a list of faults. -/
def fltL (cs : List Int) (n : Nat) (t l : Int) : List Int → List Int
  | m :: f :: r => if fkB cs n t l m f then m :: f :: fltL cs n t l r else fltL cs n t l r
  | _ => []
theorem fltL_snoc {cs : List Int} {n : Nat} {t l : Int} (m f : Int) : ∀ (c : Nat) (xs : List Int), xs.length = c * 2 → fltL cs n t l (xs ++ [m, f]) = if fkB cs n t l m f then fltL cs n t l xs ++ [m, f] else fltL cs n t l xs
  | 0, xs, h => by
    have : xs = [] := List.length_eq_zero_iff.1 (by omega)
    subst this
    simp [fltL]
  | c + 1, [], h => by simp at h
  | c + 1, [x], h => by simp at h; omega
  | c + 1, x :: y :: r, h => by
    have ih := fltL_snoc (cs := cs) (n := n) (t := t) (l := l) m f c r (by simp at h; omega)
    simp only [List.cons_append, fltL, ih]
    split <;> split <;> simp
theorem fltL_on {cs : List Int} {n : Nat} {a t l : Int} : ∀ k, k ≤ nMl cs n → fltL cs n t l (onTo cs n a k) = boTo cs n a t l k
  | 0, _ => rfl
  | k + 1, hk => by
    obtain ⟨c, hc⟩ := onTo_fl cs n a k
    have ih := fltL_on (cs := cs) (n := n) (a := a) (t := t) (l := l) k (by omega)
    simp only [onTo, boTo]
    cases h : inB (a - ohmsI cs n k) 0 1000 with
    | false => simpa using ih
    | true =>
      have hv := fv_of (cs := cs) (n := n) (k := k) (by omega) h
      simp only [if_true, Bool.true_and]
      rw [fltL_snoc _ _ c _ hc.1, fk_er hv, ih]
def bothL (cs : List Int) (n : Nat) (a t l : Int) : List Int := if oneOk cs n a then boTo cs n a t l (nMl cs n) else []
theorem fltL_one (cs : List Int) (n : Nat) (a t l : Int) : fltL cs n t l (oneL cs n a) = bothL cs n a t l := by
  unfold oneL bothL
  split
  · exact fltL_on _ (Nat.le_refl _)
  · rfl
theorem filL_both (cs : List Int) (n : Nat) (a t l : Int) : filL cs n a (fun k => erB cs n k (a - ohmsI cs n k) t l) = bothL cs n a t l := by
  unfold filL bothL; rw [filTo_bo]
theorem take_pair {L : List Int} {c j : Nat} (h : L.length = c * 2) (hj : j < c) : L.take ((j + 1) * 2) = L.take (j * 2) ++ [gi L (j * 2), gi L (j * 2 + 1)] := by
  have e : (j + 1) * 2 = j * 2 + 1 + 1 := by omega
  have h1 : j * 2 < L.length := by omega
  have h2 : j * 2 + 1 < L.length := by omega
  rw [e, List.take_add_one, List.take_add_one, List.getElem?_eq_getElem h1, List.getElem?_eq_getElem h2, gi_eq h1, gi_eq h2, List.append_assoc]
  rfl
theorem flt_next {cs L : List Int} {n : Nat} {t l : Int} {c j : Nat} (h : L.length = c * 2) (hj : j < c) :
    fltL cs n t l (L.take ((j + 1) * 2)) = if fkB cs n t l (gi L (j * 2)) (gi L (j * 2 + 1)) then fltL cs n t l (L.take (j * 2)) ++ [gi L (j * 2), gi L (j * 2 + 1)] else fltL cs n t l (L.take (j * 2)) := by
  rw [take_pair h hj]
  exact fltL_snoc _ _ j _ (by simp; omega)

theorem OwF.lower {w : World} {B B' c : Nat} {v : Value} {ys : List Int} (h : OwF w B v ys c) (hb : B' ≤ B) : OwF w B' v ys c := by
  obtain ⟨h1, h2⟩ := h
  refine ⟨h1, ?_⟩
  rcases h2 with h2 | ⟨g, cap, cur, hv, hg, r⟩
  · exact .inl h2
  · exact .inr ⟨g, cap, cur, hv, by omega, r⟩
/-- 'out = append(out, f)' where out has no room at all. -/
theorem wpList_pushF0 {ops : Array Oper} {rest : List Oper} {o : Oper} {a : Act} {Q : Exit → Act → World → Prop} {w : World} {ad : Addr} {m f : Int} {s x : Operand} (hgd : o.guard = none)
    (ho : o.op = .call { callee := .builtin .append, args := #[s, x], argTypes := #[26, 26] })
    (hs : a.eval s = .slice (some ad) 0 0) (hx : a.eval x = .slice (some ⟨w.heap.size, 0, none⟩) 1 1)
    (h : ∀ v' w', OwF w' w.heap.size v' [m, f] 1 → Below w.heap.size w w' → wpList Try.prog ops Q rest (a.put o.dst v') w') :
    wpList Try.prog ops Q (o :: rest) a (w.alloc (.cells #[.int .i64 m, .int .i64 f] 41)) := by
  obtain ⟨i, hi, hz, hsz, hb⟩ := info_parts infoFault2
  refine wpList_append_grows _ hgd s x 26 ho 41 i (.agg #[.int .i64 0, .int .i64 0]) 2 16 Try.underlying26 hi hz hsz hb rfl (by decide) (some ad) 0 0 [] hs (fun h => by cases h) (by simp) (fun b _ j u hj => by simp at hj)
    ⟨w.heap.size, 0, none⟩ 1 1 [.int .i64 m, .int .i64 f] hx rfl ?_ ?_ (by omega) (by unfold maxLen; omega) (by omega) ?_
  · intro j u hj
    match j, hj with
    | 0, hj =>
      simp at hj
      subst hj
      simp [Addr.add]
    | 1, hj =>
      simp at hj
      subst hj
      simp [Addr.add]
  · intro u hu
    simp at hu
    rcases hu with rfl | rfl <;> rfl
  · intro v' w' h1 h2
    refine h v' w' ?_ ?_
    · obtain ⟨k1, k2⟩ := h1
      refine ⟨by simp, ?_⟩
      rcases k2 with k2 | ⟨g, cap, cur, hv, hg, r⟩
      · exact absurd k2.2 (by omega)
      · exact .inr ⟨g, cap, cur, hv, by simp at hg; omega, r⟩
    · have e := World.grownBy_alloc w (.cells #[.int .i64 m, .int .i64 f] 41) none
      exact ⟨h2.os.trans e.os, h2.tape.trans e.tape, h2.output.trans e.output, Nat.le_trans e.size h2.size, fun i hi => (h2.block i (Nat.lt_of_lt_of_le hi e.size) (by simp)).trans (e.block i hi (by simp))⟩

theorem implFaultEarthed_is {T L : Int} {p : Bool} (v : Value) (m f : Int) (cs : List Int) (n hi : Nat) (w : World) (hv : SlF 3 w hi v cs n) (h : feT cs n m f = T ∧ feL cs n m f = L ∧ fvB cs n m f = p) :
    Calls Try.prog 45 #[v, .agg #[.int .i64 m, .int .i64 f]] w fun e w' => e = .returned (.tuple #[.agg #[.int .i64 T, .int .i64 L], .bool p]) ∧ Below w.heap.size w w' := by
  obtain ⟨rfl, rfl, rfl⟩ := h
  exact implFaultEarthed_b v m f cs n hi w hv
theorem specFaultEarthed_is {T L : Int} {p : Bool} (v : Value) (m f : Int) (cs : List Int) (n hi : Nat) (w : World) (hv : SlF 3 w hi v cs n) (h : feT cs n m f = T ∧ feL cs n m f = L ∧ fvB cs n m f = p) :
    Calls Try.prog 44 #[v, .agg #[.int .i64 m, .int .i64 f]] w fun e w' => e = .returned (.tuple #[.agg #[.int .i64 T, .int .i64 L], .bool p]) ∧ Below w.heap.size w w' := by
  obtain ⟨rfl, rfl, rfl⟩ := h
  exact specFaultEarthed_b v m f cs n hi w hv

set_option maxHeartbeats 1000000 in
theorem bothStep (v : Value) (a t l : Int) (cs : List Int) (n hi g h : Nat) (k : Nat) (W : World) (hv : SlF 3 W hi v cs n) (hg : Row W g 29 #[v]) (hh : Row W h 31 #[.int .i64 t, .int .i64 l]) (hf : fvB cs n k (a - ohmsI cs n k) = true) :
    Calls Try.prog 62 #[.agg #[.int .i64 (k : Int), .int .i64 (a - ohmsI cs n k)], .pointer (some ⟨g, 0, none⟩), .pointer (some ⟨h, 0, none⟩)] W fun e W' => e = .returned (.bool (erB cs n k (a - ohmsI cs n k) t l)) ∧ Below W.heap.size W W' := by
  rw [← fk_er hf]
  clear hf
  generalize a - ohmsI cs n k = F
  obtain ⟨b0, x0, x1⟩ := box2 W (k : Int) F 41
  obtain ⟨a0, cap0, rfl, -⟩ := (id hv)
  have V0 := Lib.hid (hv.old b0)
  have B0 := Lib.hid b0
  have H0 := Lib.hid (hh.old b0)
  have c0 : (W.alloc (.cells #[.int .i64 (k : Int), .int .i64 F] 41)).cell? ⟨g, 0, none⟩ = some (.slice a0 n cap0) := by rw [(hg.old b0).cell]; rfl
  unfold fkB
  obtain ⟨T, hT⟩ : ∃ T, feT cs n k F = T := ⟨_, rfl⟩
  obtain ⟨L, hL⟩ : ∃ L, feL cs n k F = L := ⟨_, rfl⟩
  obtain ⟨p, hp⟩ : ∃ p, fvB cs n k F = p := ⟨_, rfl⟩
  have HT := Lib.hid (And.intro hT (And.intro hL hp))
  rw [hT, hL]
  clear hT hL hp
  clear hv b0 hh hg
  go_enter Try.func62, Try.ntmps62
  go_wp2_with fail
  refine (implFaultEarthed_is _ k F cs n hi _ V0.out HT.out).mono ?_
  rintro e w1 ⟨rfl, b1⟩
  obtain ⟨y0, y1, y2⟩ := box2 w1 T L 31
  have B1 := Lib.hid (nextW (nextW B0.out b1) y0)
  have hH := (H0.out.old b1).old y0
  have d0 : _ = some (Value.int .i64 t) := hH.cell 0
  have d1 : _ = some (Value.int .i64 l) := hH.cell 1
  clear b1 y0 hH c0 x0 x1
  by_cases e1 : T = t
  · subst e1
    by_cases e2 : L = l
    · subst e2
      go_wp2
      go_ret
      exact ⟨by simp, B1.out⟩
    · go_wp2
      go_ret
      exact ⟨by simp [e2], B1.out⟩
  · go_wp2
    go_ret
    exact ⟨by simp [e1], B1.out⟩

set_option maxHeartbeats 1000000 in
theorem implFaultBoth_b (v : Value) (a t l : Int) (cs : List Int) (n hi : Nat) (w : World) (hv : SlF 3 w hi v cs n) (ha : -9223372036854775808 ≤ a ∧ a ≤ 9223372036854775807) :
    Calls Try.prog 21 #[v, .int .i64 a, .agg #[.int .i64 t, .int .i64 l]] w fun e w' => ∃ v' c, e = .returned (.tuple #[v', .bool (oneOk cs n a)]) ∧ Below w.heap.size w w' ∧ WrF 2 41 w' w.heap.size w'.heap.size v' (bothL cs n a t l) c := by
  have r0 := Row.new w #[v] 29
  have n0 := (Below.refl (w.alloc (.cells #[v] 29)).heap.size _).alloc (Nat.le_refl _) (.cells #[.int .i64 t, .int .i64 l] 31)
  have R0 := Lib.hid (r0.old n0)
  have r1 := Row.new (w.alloc (.cells #[v] 29)) #[.int .i64 t, .int .i64 l] 31
  rw [World.size_alloc] at r1
  have R1 := Lib.hid r1
  have B0 := Lib.hid (nextW ((Below.refl w.heap.size w).alloc (Nat.le_refl _) (.cells #[v] 29)) n0)
  have V0 := Lib.hid (hv.old B0.out)
  have HA := Lib.hid ha
  have c0 : ((w.alloc (.cells #[v] 29)).alloc (.cells #[.int .i64 t, .int .i64 l] 31)).cell? ⟨w.heap.size, 0, none⟩ = some v := by rw [R0.out.cell]; rfl
  clear r0 n0 r1 ha
  obtain ⟨a0, cap0, rfl, -⟩ := hv
  go_enter Try.func21, Try.ntmps21
  go_wp2_with fail
  refine (implFaultsIf_FaultBoth _ a _ _ cs n hi (fun k => erB cs n k (a - ohmsI cs n k) t l) _ V0.out HA.out ?_).mono ?_
  · intro k W hk hin hb
    exact bothStep _ a t l cs n hi _ _ k W (V0.out.old hb) (R0.out.old hb) (R1.out.old hb) (fv_of hk hin)
  rintro e w1 ⟨v1, c, rfl, b1, r1⟩
  rw [filL_both] at r1
  have hs := B0.out.size
  have B1 := Lib.hid (nextW B0.out b1)
  have R2 := Lib.hid (r1.mono hs (Nat.le_refl _))
  clear b1 r1 c0 hs
  go_wp2
  go_ret2
  exact ⟨_, c, rfl, B1.out, R2.out⟩

set_option maxRecDepth 100000 in
set_option maxHeartbeats 1000000 in
theorem specFaultBoth_b (v : Value) (a t l : Int) (cs : List Int) (n hi : Nat) (w : World) (hv : SlF 3 w hi v cs n) :
    Calls Try.prog 18 #[v, .int .i64 a, .agg #[.int .i64 t, .int .i64 l]] w fun e w' => ∃ v' c, e = .returned (.tuple #[v', .bool (oneOk cs n a)]) ∧ Below w.heap.size w w' ∧ WrF 2 41 w' w.heap.size w'.heap.size v' (bothL cs n a t l) c := by
  have r0 := Row.new w #[.int .i64 t, .int .i64 l] 31
  have n0 := (Below.refl (w.alloc (.cells #[.int .i64 t, .int .i64 l] 31)).heap.size _).alloc (Nat.le_refl _) (.cells #[] 41)
  have B0 := Lib.hid (nextW ((Below.refl w.heap.size w).alloc (Nat.le_refl _) (.cells #[.int .i64 t, .int .i64 l] 31)) n0)
  have R0 := Lib.hid (r0.old n0)
  have O0 := Lib.hid (OwF.empty (w.alloc (.cells #[.int .i64 t, .int .i64 l] 31)) w.heap.size (by simp))
  rw [World.size_alloc] at O0
  have HV := Lib.hid hv
  clear hv r0 n0
  go_enter Try.func18, Try.ntmps18
  go_wp2_with fail
  refine (specFaultOne_b _ a cs n hi _ (HV.out.old B0.out)).mono ?_
  rintro e w1 ⟨v1, c, rfl, b1, r1⟩
  have B1 := Lib.hid (nextW B0.out b1)
  have R1 := Lib.hid (R0.out.old b1)
  have O1 := Lib.hid (O0.out.below b1)
  have HF := Lib.hid (fltL_one cs n a t l)
  revert HF r1
  generalize oneL cs n a = L
  intro r1 HF
  obtain ⟨hl, hcn⟩ := r1.len
  have S1 := Lib.hid r1.sl
  obtain ⟨va, vcap, rfl, -, -, hcap, hcap2, hc⟩ := (id S1.out)
  have HC := Lib.hid hc
  have HLL := Lib.hid hl
  clear hc
  clear b1 r1 B0 R0 O0
  go_wp2
  have HA : Hid (∀ (s : Value) (j d : Nat) (wr : World), (s = .slice (some ⟨w.heap.size + 1, 0, none⟩) 0 0 ∧ d = 0 ∧ fltL cs n t l (L.take (j * 2)) = []) ∨ OwF wr w1.heap.size s (fltL cs n t l (L.take (j * 2))) d → d ≤ 1048576 → Below w1.heap.size w1 wr → ∃ lo hi', lo = w.heap.size ∧ hi' = wr.heap.size ∧ WrF 2 41 wr lo hi' s (fltL cs n t l (L.take (j * 2))) d) := Lib.hid (by
    intro s j d wr h hd hbw
    refine ⟨_, _, rfl, rfl, ?_⟩
    rcases h with ⟨rfl, rfl, h3⟩ | h
    · rw [h3]
      exact (O1.out.below hbw).wr (by omega)
    · exact (h.wr hd).mono B1.out.size (Nat.le_refl _))
  clear O1
  go_loopw [8, 11] (fun s i wr => ∃ j d : Nat, j ≤ c ∧ d ≤ j ∧ i = .int .i64 j ∧ Hid (Below w1.heap.size w1 wr) ∧ ((s = .slice (some ⟨w.heap.size + 1, 0, none⟩) 0 0 ∧ Hid (d = 0 ∧ fltL cs n t l (L.take (j * 2)) = [])) ∨ Hid (OwF wr w1.heap.size s (fltL cs n t l (L.take (j * 2))) d))) (fun _ i _ => c - (intOf i).toNat)
  case atStart => exact ⟨0, 0, Nat.zero_le _, Nat.le_refl _, rfl, Lib.hid (Below.refl _ _), .inl ⟨rfl, Lib.hid ⟨rfl, by simp [fltL]⟩⟩⟩
  case round =>
    obtain ⟨j, d, hj, hdj, rfl, hB1, hO⟩ := hrel
    have hB := Lib.hid (nextW B1.out hB1.out)
    by_cases hlt : j < c
    · obtain ⟨b, off, rfl, hbh, hc⟩ := HC.out (by omega)
      obtain ⟨c0, c1⟩ := cel2 hc hlt hB1.out (World.block_lt_of_cell? w1 _ (hc (j * 2) (by omega)))
      have HN := Lib.hid (flt_next (cs := cs) (n := n) (t := t) (l := l) HLL.out hlt)
      clear hc
      revert c0 c1 HN
      generalize gi L (j * 2) = m
      generalize gi L (j * 2 + 1) = f
      intro c0 c1 HN
      obtain ⟨T, hT⟩ : ∃ T, feT cs n m f = T := ⟨_, rfl⟩
      obtain ⟨M, hM⟩ : ∃ M, feL cs n m f = M := ⟨_, rfl⟩
      obtain ⟨p, hp⟩ : ∃ p, fvB cs n m f = p := ⟨_, rfl⟩
      have HT := Lib.hid (And.intro hT (And.intro hM hp))
      unfold fkB at HN
      rw [hT, hM] at HN
      clear hT hM hp
      go_wp2_with fail
      refine (specFaultEarthed_is _ m f cs n hi _ (HV.out.old hB.out) HT.out).mono ?_
      rintro e w2 ⟨rfl, b2⟩
      obtain ⟨y0, y1, y2⟩ := box2 w2 T M 31
      have hB2 := Lib.hid (nextW (nextW hB.out b2) y0)
      have hB12 := Lib.hid (nextW (nextW hB1.out b2) y0)
      have hR := R1.out.old hB12.out
      have d0 : _ = some (Value.int .i64 t) := hR.cell 0
      have d1 : _ = some (Value.int .i64 l) := hR.cell 1
      have k0 := cellB (cellB c0 b2) y0
      have k1 := cellB (cellB c1 b2) y0
      have hs2 := hB12.out.size
      have HOB := Lib.hid fun (h : OwF wr w1.heap.size u8 (fltL cs n t l (L.take (j * 2))) d) => (h.below b2).below y0
      clear b2 y0 hR c0 c1 hB hB1
      by_cases e1 : T = t
      · replace e1 := e1.symm
        subst e1
        by_cases e2 : M = l
        · replace e2 := e2.symm
          subst e2
          have HN2 := Lib.hid (HN.out.trans (if_pos (by simp)))
          clear HN
          rcases hO with ⟨rfl, hO⟩ | hO
          · obtain ⟨hd0, hf0⟩ := hO.out
            have HN3 := HN2.out
            rw [hf0, List.nil_append] at HN3
            have HN4 := Lib.hid HN3
            clear HN2 HN3 hf0 hO HOB
            go_wp2_with (at_builtin; go_loud (refine wpList_pushF0 (by rfl) (by rfl) (by rfl) (by rw [World.size_alloc]; rfl) ?_); intro v' w4 hown4 hb4; have HO4 := Lib.hid hown4; have HB4 := Lib.hid hb4; clear hown4 hb4)
            go_roundw
            case rel => exact ⟨j + 1, 1, by omega, by omega, by go_num, Lib.hid (hB12.out.trans (HB4.out.mono hs2)), .inr (Lib.hid (by rw [HN4.out]; exact HO4.out.lower hs2))⟩
            case measure => simp [intOf]; omega
          · have hO2 := Lib.hid (HOB.out hO.out)
            clear hO HOB
            go_wp2_with (at_builtin; go_loud (refine wpList_pushF hO2.out (by rfl) (by rfl) (by rfl) (by rw [World.size_alloc]; rfl) (by omega) hs2 ?_); intro v' w4 hown4 hb4 hg4; have HO4 := Lib.hid hown4; have HB4 := Lib.hid hb4; clear hown4 hb4 hg4)
            go_roundw
            case rel => exact ⟨j + 1, d + 1, by omega, by omega, by go_num, Lib.hid (hB12.out.trans HB4.out), .inr (Lib.hid (by rw [HN2.out]; exact HO4.out))⟩
            case measure => simp [intOf]; omega
        · have HN2 := Lib.hid (HN.out.trans (if_neg (by simp [e2])))
          clear HN
          have hO3 : ((u8 = .slice (some ⟨w.heap.size + 1, 0, none⟩) 0 0 ∧ Hid (d = 0 ∧ fltL cs n t l (L.take ((j + 1) * 2)) = [])) ∨ Hid (OwF (w2.alloc (.cells #[.int .i64 t, .int .i64 M] 31)) w1.heap.size u8 (fltL cs n t l (L.take ((j + 1) * 2))) d)) := by
            rw [HN2.out]
            rcases hO with hO | hO
            · exact .inl hO
            · exact .inr (Lib.hid (HOB.out hO.out))
          have HO3 := Lib.hid hO3
          clear hO hO3 HOB
          go_wp2
          go_roundw
          case rel => exact ⟨j + 1, d, by omega, by omega, by go_num, hB12, HO3.out⟩
          case measure => simp [intOf]; omega
      · have HN2 := Lib.hid (HN.out.trans (if_neg (by simp [e1])))
        clear HN
        have hO3 : ((u8 = .slice (some ⟨w.heap.size + 1, 0, none⟩) 0 0 ∧ Hid (d = 0 ∧ fltL cs n t l (L.take ((j + 1) * 2)) = [])) ∨ Hid (OwF (w2.alloc (.cells #[.int .i64 T, .int .i64 M] 31)) w1.heap.size u8 (fltL cs n t l (L.take ((j + 1) * 2))) d)) := by
          rw [HN2.out]
          rcases hO with hO | hO
          · exact .inl hO
          · exact .inr (Lib.hid (HOB.out hO.out))
        have HO3 := Lib.hid hO3
        clear hO hO3 HOB
        go_wp2
        go_roundw
        case rel => exact ⟨j + 1, d, by omega, by omega, by go_num, hB12, HO3.out⟩
        case measure => simp [intOf]; omega
    · obtain rfl : c = j := by omega
      obtain ⟨lo, hi', rfl, rfl, hW⟩ := HA.out u8 c d wr (by rcases hO with ⟨h1, h2⟩ | h; exact .inl ⟨h1, h2.out⟩; exact .inr h.out) (by omega) hB1.out
      rw [List.take_of_length_le (by omega), HF.out] at hW
      have HW := Lib.hid hW
      clear HF hW hO HA
      go_wp2
      go_ret2
      exact ⟨_, d, rfl, hB.out, HW.out⟩

end Go.Proofs.Ytoanefccnbnkmaa
