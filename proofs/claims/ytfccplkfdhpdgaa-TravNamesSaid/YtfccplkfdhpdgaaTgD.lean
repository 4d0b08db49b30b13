
/-
  Traversers' names: the builtin clear over names and values.
-/
import Derived.Test.YtfccplkfdhpdgaaTgB
set_option linter.unusedSimpArgs false
set_option linter.unusedVariables false
namespace Go.Proofs.Ytfccplkfdhpdgaa
open Go.RowKit

abbrev zTag : Value := .agg #[.string ByteArray.empty, .int .i64 0, .bool false, .int .i64 0, .float .f64 0, .string ByteArray.empty, .slice none 0 0]
theorem zTag_run (w : World) : (zeroValue 52).run Try.prog w = .ok zTag w := by
  obtain ⟨i0, hi0, hz0, hz1, hz2⟩ := info_parts tag_info
  simp [zeroValue, typeInfo, hi0, hz0, Result.andThen]
theorem run_clear_tags (w : World) (ty : TypeId) (g o m c : Nat) (hm : 0 < m) (hc : ∀ j, j < m * 7 → (w.cell? ⟨g, o + j, none⟩).isSome = true) (hf : ∀ j, j < m * 7 → w.frozen? ⟨g, o + j, none⟩ = false) :
    ∃ vs, (Builtin.clear_ #[32] ty #[.slice (some ⟨g, o, none⟩) m c]).run Try.prog w = .ok (.tuple #[]) (w.setCells g o vs) := by
  have hlen : (Builtin.zeroCells zTag.cells m).toList.length = m * 7 := by simp [Builtin.zeroCells, Value.cells]
  have hone : ∀ v ∈ (Builtin.zeroCells zTag.cells m).toList, v.oneCell' = true := by
    intro v hv
    obtain ⟨i, hi, rfl⟩ := List.mem_iff_getElem.1 hv
    simp only [Builtin.zeroCells, Value.cells, Array.toList_map, List.getElem_map]
    have h7 : ∀ k, k < 7 → (#[Value.string ByteArray.empty, .int .i64 0, .bool false, .int .i64 0, .float .f64 0, .string ByteArray.empty, .slice none 0 0][k]!).oneCell' = true := by
      intro k hk
      match k, hk with
      | 0, _ => rfl
      | 1, _ => rfl
      | 2, _ => rfl
      | 3, _ => rfl
      | 4, _ => rfl
      | 5, _ => rfl
      | 6, _ => rfl
    exact h7 _ (Nat.mod_lt _ (by decide))
  have hst := run_storeCells_cells (P := Try.prog) g o (Builtin.zeroCells zTag.cells m).toList 0 w (fun j hj => by rw [hlen] at hj; simpa using hc j hj) (fun j hj => by rw [hlen] at hj; simpa using hf j hj) hone
  simp only [Nat.add_zero] at hst
  clear hlen hone
  refine ⟨(Builtin.zeroCells zTag.cells m).toList, ?_⟩
  · obtain ⟨m, rfl⟩ : ∃ k, m = k + 1 := ⟨m - 1, by omega⟩
    simp [Builtin.clear_, run_underlying Try.underlying32, zTag_run, Result.andThen]
    erw [hst]
end Go.Proofs.Ytfccplkfdhpdgaa
