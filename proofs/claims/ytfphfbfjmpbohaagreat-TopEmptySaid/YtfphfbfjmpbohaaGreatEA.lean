/-
  What is owed to enter functions, their slots written out. Printed by wip/genen.py of this repo.
-/
import Derived.Test.YtfphfbfjmpbohaaGreatDC
import Derived.Test.YtfphfbfjmpbohaaGreatDWa
namespace Go.Proofs.YtfphfbfjmpbohaaGreat
open Go Go.D
noncomputable abbrev cfgO (ora : FuncId → Option (List DV → H → Option (DV × H))) : Cfg := ⟨ttT, fnT, ora⟩
set_option linter.unusedVariables false
set_option maxRecDepth 100000

/-- cmp.isNaN[int] -/
abbrev F_cmp_isNaN_int : FuncId := 165
abbrev m_cmp_isNaN_int : Meta := ⟨[2], [], []⟩
theorem fn_cmp_isNaN_int : fnT 165 = some (Tryz.f165, m_cmp_isNaN_int) := by kernel_rfl
theorem en_cmp_isNaN_int {ora : FuncId → Option (List DV → H → Option (DV × H))} (ho : ora 165 = none) {a0 : DV} {h : H} {Q : DV → H → Prop}
    (hw : wpCode (cfgO ora) m_cmp_isNaN_int (Tryz.f165.body.getD .skip) ⟨[(0, a0), (2, .tup [])], []⟩ h (qEnd ttT Tryz.f165 Q)) : wpCall (cfgO ora) 165 [a0] h Q :=
  wpCall_fn ho fn_cmp_isNaN_int rfl hw

/-- cmp.Compare[int] -/
abbrev F_cmp_Compare_int : FuncId := 125
abbrev m_cmp_Compare_int : Meta := ⟨[4, 5, 6], [], []⟩
theorem fn_cmp_Compare_int : fnT 125 = some (Tryz.f125, m_cmp_Compare_int) := by kernel_rfl
theorem en_cmp_Compare_int {ora : FuncId → Option (List DV → H → Option (DV × H))} (ho : ora 125 = none) {a0 a1 : DV} {h : H} {Q : DV → H → Prop}
    (hw : wpCode (cfgO ora) m_cmp_Compare_int (Tryz.f125.body.getD .skip) ⟨[(0, a0), (1, a1), (4, .tup []), (5, .tup []), (6, .tup [])], []⟩ h (qEnd ttT Tryz.f125 Q)) : wpCall (cfgO ora) 125 [a0, a1] h Q :=
  wpCall_fn ho fn_cmp_Compare_int rfl hw

/-- cmp.Or[int] -/
abbrev F_cmp_Or_int : FuncId := 124
abbrev m_cmp_Or_int : Meta := ⟨[2, 3, 5, 6, 7, 8], [], []⟩
theorem fn_cmp_Or_int : fnT 124 = some (Tryz.f124, m_cmp_Or_int) := by kernel_rfl
theorem en_cmp_Or_int {ora : FuncId → Option (List DV → H → Option (DV × H))} (ho : ora 124 = none) {a0 : DV} {h : H} {Q : DV → H → Prop}
    (hw : wpCode (cfgO ora) m_cmp_Or_int (Tryz.f124.body.getD .skip) ⟨[(0, a0), (2, .tup []), (3, .tup []), (5, .tup []), (6, .tup []), (7, .tup []), (8, .tup [])], []⟩ h (qEnd ttT Tryz.f124 Q)) : wpCall (cfgO ora) 124 [a0] h Q :=
  wpCall_fn ho fn_cmp_Or_int rfl hw

/-- temple/deps.bit -/
abbrev F_deps_bit : FuncId := 126
abbrev m_deps_bit : Meta := ⟨[2], [], []⟩
theorem fn_deps_bit : fnT 126 = some (Tryz.f126, m_deps_bit) := by kernel_rfl
theorem en_deps_bit {ora : FuncId → Option (List DV → H → Option (DV × H))} (ho : ora 126 = none) {a0 : DV} {h : H} {Q : DV → H → Prop}
    (hw : wpCode (cfgO ora) m_deps_bit (Tryz.f126.body.getD .skip) ⟨[(0, a0), (2, .tup [])], []⟩ h (qEnd ttT Tryz.f126 Q)) : wpCall (cfgO ora) 126 [a0] h Q :=
  wpCall_fn ho fn_deps_bit rfl hw

/-- temple/deps.row -/
abbrev F_deps_row : FuncId := 80
abbrev m_deps_row : Meta := ⟨[2, 3, 4], [(1, [20, 23])], []⟩
theorem fn_deps_row : fnT 80 = some (Tryz.f80, m_deps_row) := by kernel_rfl
theorem en_deps_row {ora : FuncId → Option (List DV → H → Option (DV × H))} (ho : ora 80 = none) {a0 a1 : DV} {h : H} {Q : DV → H → Prop}
    (hw : wpCode (cfgO ora) m_deps_row (Tryz.f80.body.getD .skip) ⟨[(0, a0), (1, a1), (2, .tup []), (3, .tup []), (4, .tup [])], []⟩ h (qEnd ttT Tryz.f80 Q)) : wpCall (cfgO ora) 80 [a0, a1] h Q :=
  wpCall_fn ho fn_deps_row rfl hw

/-- temple/ways.row -/
abbrev F_ways_row : FuncId := 94
abbrev m_ways_row : Meta := ⟨[2, 3, 4, 5, 6], [(2, [45, 47])], [(1, [(5, 9)])]⟩
theorem fn_ways_row : fnT 94 = some (Tryz.f94, m_ways_row) := by kernel_rfl
theorem en_ways_row {ora : FuncId → Option (List DV → H → Option (DV × H))} (ho : ora 94 = none) {a0 a1 : DV} {h : H} {Q : DV → H → Prop}
    (hw : wpCode (cfgO ora) m_ways_row (Tryz.f94.body.getD .skip) ⟨[(0, a0), (1, a1), (2, .tup []), (3, .tup []), (4, .tup []), (5, .tup []), (6, .tup [])], []⟩ h (qEnd ttT Tryz.f94 Q)) : wpCall (cfgO ora) 94 [a0, a1] h Q :=
  wpCall_fn ho fn_ways_row rfl hw

end Go.Proofs.YtfphfbfjmpbohaaGreat
