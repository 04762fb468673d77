/- Words for the laws on structs: slices of structs and structs that came in. -/
import Derived.Test.YthbkimojbbkeiaaDoorLawB
import Derived.Test.YthbkimojbbkeiaaDoorFlat
import Derived.Deep.Slices
import Derived.Deep.Fields
import Derived.Lib.SmallJoins
namespace Go.Proofs.YthbkimojbbkeiaaDoor
open Go.ChangeShapes Go.WideShapes Go.ChangeAt Go.RowKit Go.Deep

/-- A slice of structs of ints that came in, of whatever length. -/
def SlF0 (s : Nat) (w : World) (v : Value) (cs : List Int) (n : Nat) : Prop :=
  ∃ a cap, v = .slice a n cap ∧ cs.length = n * s ∧ n ≤ cap ∧ cap ≤ 9223372036854775807 ∧
    (0 < n → ∃ b off, a = some ⟨b, off, none⟩ ∧ b < w.heap.size ∧ ∀ k, k < n * s → w.cell? ⟨b, off + k, none⟩ = some (.int .i64 (gi cs k)))

theorem SlF0.sl {s : Nat} {w : World} {v : Value} {n : Nat} {cs : List Int} (h : SlF0 s w v cs n) (hn : n ≤ 1048576) : SlF s w w.heap.size v cs n := by
  obtain ⟨a', cap', he, h1, h2, h3, h4⟩ := h
  exact ⟨a', cap', he, h1, hn, h2, h3, h4⟩
theorem SlF0.caps {s : Nat} {w : World} {a : Option Addr} {n cap : Nat} {cs : List Int} (h : SlF0 s w (.slice a n cap) cs n) : n ≤ cap ∧ cap ≤ 9223372036854775807 := by
  obtain ⟨a', cap', he, h1, h2, h3, h4⟩ := h
  cases he
  exact ⟨h2, h3⟩

/-- The number in a cell. -/
def cellZ (w : World) (a : Addr) : Int := match w.cell? a with
  | some (.int _ z) => z
  | _ => 0

/-- What a reading of a slice of structs gives. -/
theorem slF0_of {H : Type} {enc : TypeId × Value → H} {W : World} {t e : TypeId} {fs : Array Field} {s : Nat} (ht : Tryd.prog.underlying t = some (.slice e)) (he : Tryd.prog.underlying e = some (.struct fs))
    (hone : oneCellFields Tryd.prog fs = true) (hC : Tryd.prog.cellsOf e = s) (hs : fs.size = s) (hs0 : 0 < s) (hf : ∀ (j : Nat) (f : Field), fs[j]? = some f → Tryd.prog.underlying f.type = some (.int .i64))
    {a : Option Addr} {n cap : Nat} {d : DataW H} {p : List MemPlace} (h : DataW.Trod enc Tryd.prog W 0 (fun _ => true) true t (.slice a n cap) d p) : ∃ cs, SlF0 s W (.slice a n cap) cs n := by
  obtain ⟨fuel, hfu⟩ := h
  rcases open_slice ht hfu with ⟨hcs, _⟩ | ⟨x, l, c, m, q, D, Pl, hcs, _, hl, hm, hmm, _, hi⟩
  · simp [Value.cells] at hcs
    obtain ⟨rfl, rfl, rfl⟩ := hcs
    exact ⟨[], none, 0, rfl, by simp, by omega, by omega, fun h => by omega⟩
  · simp [Value.cells] at hcs
    obtain ⟨rfl, rfl, rfl⟩ := hcs
    have key : ∀ k, k < n * s → W.cell? (x.add k) = some (.int .i64 (cellZ W (x.add k))) := by
      intro k hk
      have hks : k / s < m := by
        have : k / s < n := Nat.div_lt_of_lt_mul (by rw [Nat.mul_comm]; exact hk)
        have : m = cap := by simpa using hmm
        omega
      obtain ⟨cs', hc, htr⟩ := hi (k / s) hks
      rw [hC] at hc
      obtain ⟨_, hlen, hat⟩ := World.cells?_some hc
      obtain ⟨ys, q', _, _, _, hyl, hfld⟩ := DataW.trod_struct he htr
      have hj : k % s < s := Nat.mod_lt _ hs0
      have hfj : fs[k % s]? = some (fs[k % s]'(by omega)) := Array.getElem?_eq_getElem (by omega)
      obtain ⟨ho, hk1⟩ := hone_of hone _ _ hfj
      have h1 := hfld _ _ hfj
      rw [ho, hk1, List.getElem?_eq_getElem (show k % s < ys.length by omega)] at h1
      obtain ⟨z, hz, _, _⟩ := DataW.trod_int (hf _ _ hfj) h1
      have h2 := hat (k % s) hj
      have h3 : cs'[k % s]? = some (.int .i64 z) := by
        have : ((cs'.drop (k % s)).take 1)[0]? = some (.int .i64 z) := by rw [hz]; rfl
        simpa [List.getElem?_take, List.getElem?_drop] using this
      rw [h3, add_add, show k / s * s + k % s = k from Nat.div_add_mod' k s] at h2
      rw [h2, cellZ, h2]
    refine ⟨(List.range (n * s)).map fun k => cellZ W (x.add k), some x, cap, rfl, by simp, hl, by simpa [maxLen] using hm, fun hn => ?_⟩
    have hns : 0 < n * s := Nat.mul_pos hn hs0
    obtain ⟨b, off, spot⟩ := x
    have hc0 := key 0 hns
    have hspot : spot = none := by simpa [Addr.add] using World.cell?_spot hc0
    subst hspot
    refine ⟨b, off, rfl, ?_, fun k hk => ?_⟩
    · have := World.block_lt_of_cell? W _ hc0
      rw [addr_add] at this
      exact this
    · have := key k hk
      rw [addr_add] at this
      rw [this]
      have e : gi ((List.range (n * s)).map fun k => cellZ W ((⟨b, off, none⟩ : Addr).add k)) k = cellZ W ⟨b, off + k, none⟩ := by
        simp only [gi, List.getElem?_map, List.getElem?_range hk, Option.map_some, Option.getD_some, addr_add]
      rw [e]

theorem flds2 {P : Program} {f0 f1 : Field} (h0 : P.underlying f0.type = some (.int .i64)) (h1 : P.underlying f1.type = some (.int .i64)) : ∀ (j : Nat) (f : Field), (#[f0, f1] : Array Field)[j]? = some f → P.underlying f.type = some (.int .i64) := fun j f h => by
  match j with
  | 0 => simp at h; subst h; exact h0
  | 1 => simp at h; subst h; exact h1
  | n + 2 => simp at h
theorem flds3 {P : Program} {f0 f1 f2 : Field} (h0 : P.underlying f0.type = some (.int .i64)) (h1 : P.underlying f1.type = some (.int .i64)) (h2 : P.underlying f2.type = some (.int .i64)) : ∀ (j : Nat) (f : Field), (#[f0, f1, f2] : Array Field)[j]? = some f → P.underlying f.type = some (.int .i64) := fun j f h => by
  match j with
  | 0 => simp at h; subst h; exact h0
  | 1 => simp at h; subst h; exact h1
  | 2 => simp at h; subst h; exact h2
  | n + 3 => simp at h

/-- A struct of two ints that came in. -/
theorem agg2_of {H : Type} {P : Program} {enc : TypeId × Value → H} {W : World} {b0 : Nat} {t : TypeId} {f0 f1 : Field} {v : Value} {d : DataW H} {p : List MemPlace} (hs : P.underlying t = some (.struct #[f0, f1])) (hone : oneCellFields P #[f0, f1] = true) (hC : P.cellsOf t = 2)
    (h0 : P.underlying f0.type = some (.int .i64)) (h1 : P.underlying f1.type = some (.int .i64))
    (hv : Value.okWide P W .any b0 t v) (h : DataW.Trod enc P W 0 (fun _ => true) true t v d p) :
    ∃ x y : Int, v = .agg #[.int .i64 x, .int .i64 y] := by
  obtain ⟨cs, rfl, hsz⟩ := okWide_struct hs hv
  rw [hC] at hsz
  obtain ⟨l⟩ := cs
  match l, hsz with
  | [c0, c1], _ =>
    obtain ⟨fuel, hfu⟩ := h
    obtain ⟨ys, q, _, _, _, hyl, hfld⟩ := DataW.trod_struct hs hfu
    have one : ∀ (j : Nat) (f : Field), (#[f0, f1] : Array Field)[j]? = some f → P.underlying f.type = some (.int .i64) → ∃ z, (([c0, c1] : List Value).drop j).take 1 = [.int .i64 z] := fun j f hj hu => by
      obtain ⟨ho, hk⟩ := hone_of hone j f hj
      have h1 := hfld j f hj
      have hjl : j < ys.length := by rw [hyl]; exact (Array.getElem?_eq_some_iff.1 hj).1
      rw [ho, hk, List.getElem?_eq_getElem hjl] at h1
      obtain ⟨z, hz, _⟩ := DataW.trod_int hu h1
      exact ⟨z, hz⟩
    obtain ⟨x, hx⟩ := one 0 f0 rfl h0
    obtain ⟨y, hy⟩ := one 1 f1 rfl h1
    simp at hx hy
    exact ⟨x, y, by rw [hx, hy]⟩

end Go.Proofs.YthbkimojbbkeiaaDoor
