/- Words for the laws that draw faults: a code that came in. -/
import Derived.Test.YtoanefccnbnkmaaLawB
import Derived.Test.YtoanefccnbnkmaaRd
namespace Go.Proofs.Ytoanefccnbnkmaa
open Go.ChangeShapes Go.WideShapes Go.ChangeAt Go.RowKit

/-- What a reading of a slice of bytes gives. -/
theorem by0_of {H : Type} {enc : TypeId × Value → H} {W : World} {a : Option Addr} {n cap : Nat} {d : DataW H} {p : List MemPlace}
    (h : DataW.Trod enc Try.prog W 0 (fun _ => true) true 48 (.slice a n cap) d p) : ∃ _ : Unit, By W W.heap.size (.slice a n cap) n := by
  refine ⟨(), ?_⟩
  obtain ⟨fuel, hf⟩ := h
  rcases open_ints Try.underlying48 Try.underlying5 (by kernel_rfl) hf with ⟨hcs, _⟩ | ⟨x, l, c, zs, hcs, _, hl, hm, hz, _, hcell, hwz⟩
  · simp [Value.cells] at hcs
    obtain ⟨rfl, rfl, rfl⟩ := hcs
    exact ⟨none, 0, fun _ => 0, rfl, by omega, by omega, fun h => by omega⟩
  · simp [Value.cells] at hcs
    obtain ⟨rfl, rfl, rfl⟩ := hcs
    simp at hz
    refine ⟨some x, cap, fun k => (zs.getD k 0).toNat, rfl, hl, by simpa [maxLen] using hm, fun hn => ?_⟩
    obtain ⟨b, off, spot⟩ := x
    have hc := hcell 0 (by omega)
    have hspot : spot = none := by simpa [Addr.add] using World.cell?_spot hc
    subst hspot
    refine ⟨b, off, rfl, ?_, fun k hk => ?_⟩
    · have := World.block_lt_of_cell? W _ hc
      simpa [Addr.add] using this
    · have hck := hcell k (by omega)
      have ea : (⟨b, off, none⟩ : Addr).add k = ⟨b, off + k, none⟩ := by unfold Addr.add; split <;> simp_all
      rw [ea] at hck
      have hbd : 0 ≤ zs.getD k 0 ∧ zs.getD k 0 ≤ 255 := by
        have hmem : zs.getD k 0 ∈ zs := by
          rw [List.getD_eq_getElem?_getD, List.getElem?_eq_getElem (by omega)]
          exact List.getElem_mem _
        have := hwz _ hmem
        simpa [Lit.wf, IntKind.min, IntKind.max, IntKind.signed, IntKind.bits] using this
      refine ⟨by show (zs.getD k 0).toNat ≤ 255; omega, ?_⟩
      show _ = some (Value.int .u8 (((zs.getD k 0).toNat : Nat) : Int))
      have : (((zs.getD k 0).toNat : Nat) : Int) = zs.getD k 0 := Int.toNat_of_nonneg hbd.1
      rw [hck, this]

end Go.Proofs.Ytoanefccnbnkmaa
