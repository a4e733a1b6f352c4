/-
  The types of the program, by tables: cells, zeros, fields, elements.
  Conditions: none.
-/
import Derived.Test.YtgkedbhpeafbbaaProg
import Derived.Test.YtgkedbhpeafbbaaEngW
set_option linter.unusedSimpArgs false
set_option linter.unusedVariables false
namespace Go.Proofs.Ytgkedbhpeafbbaa
open Go.RowKit

def tabs : Tabs where
  ty := [(3, (false, 1, [.int .i64 0])),
    (4, (false, 1, [.bool false])),
    (5, (false, 1, [.int .u8 0])),
    (9, (false, 1, [.string ⟨#[]⟩])),
    (22, (false, 1, [.slice none 0 0])),
    (38, (true, 5, [.int .i64 0, .int .i64 0, .int .i64 0, .int .i64 0, .int .i64 0])),
    (42, (true, 5, [.int .i64 0, .int .i64 0, .int .i64 0, .int .i64 0, .int .i64 0])),
    (46, (true, 8, [.int .i64 0, .int .i64 0, .int .i64 0, .int .i64 0, .int .i64 0, .int .i64 0, .int .i64 0, .string ⟨#[]⟩])),
    (48, (true, 16, [.int .i64 0, .int .i64 0, .int .i64 0, .int .i64 0, .int .i64 0, .int .i64 0, .int .i64 0, .int .i64 0, .int .i64 0, .int .i64 0, .int .i64 0, .int .i64 0, .int .i64 0, .int .i64 0, .int .i64 0, .string ⟨#[]⟩])),
    (50, (true, 8, [.int .i64 0, .int .i64 0, .int .i64 0, .int .i64 0, .int .i64 0, .int .i64 0, .int .i64 0, .string ⟨#[]⟩])),
    (52, (true, 16, [.int .i64 0, .int .i64 0, .int .i64 0, .int .i64 0, .int .i64 0, .int .i64 0, .int .i64 0, .int .i64 0, .int .i64 0, .int .i64 0, .int .i64 0, .int .i64 0, .int .i64 0, .int .i64 0, .int .i64 0, .string ⟨#[]⟩])),
    (54, (true, 18, [.int .i64 0, .int .i64 0, .int .i64 0, .int .i64 0, .int .i64 0, .int .i64 0, .int .i64 0, .int .i64 0, .int .i64 0, .int .i64 0, .int .i64 0, .int .i64 0, .int .i64 0, .int .i64 0, .int .i64 0, .string ⟨#[]⟩, .int .i64 0, .int .i64 0])),
    (63, (true, 18, [.int .i64 0, .int .i64 0, .int .i64 0, .int .i64 0, .int .i64 0, .int .i64 0, .int .i64 0, .int .i64 0, .int .i64 0, .int .i64 0, .int .i64 0, .int .i64 0, .int .i64 0, .int .i64 0, .int .i64 0, .string ⟨#[]⟩, .int .i64 0, .int .i64 0])),
    (73, (true, 8, [.int .i64 0, .int .i64 0, .int .i64 0, .int .i64 0, .int .i64 0, .int .i64 0, .string ⟨#[]⟩, .bool false])),
    (106, (true, 8, [.int .i64 0, .int .i64 0, .int .i64 0, .int .i64 0, .int .i64 0, .int .i64 0, .string ⟨#[]⟩, .bool false])),
    (126, (true, 3, [.slice none 0 0, .int .i64 0, .int .i64 0])),
    (136, (true, 7, [.int .i64 0, .int .i64 0, .int .i64 0, .int .i64 0, .int .i64 0, .int .i64 0, .string ⟨#[]⟩])),
    (139, (true, 5, [.int .i64 0, .int .i64 0, .int .i64 0, .int .i64 0, .string ⟨#[]⟩]))]
  fld := [((38, 0), 0),
    ((38, 1), 1),
    ((38, 2), 2),
    ((38, 3), 3),
    ((38, 4), 4),
    ((42, 0), 0),
    ((42, 1), 1),
    ((42, 2), 2),
    ((42, 3), 3),
    ((42, 4), 4),
    ((46, 0), 0),
    ((46, 1), 1),
    ((46, 2), 2),
    ((46, 3), 3),
    ((46, 4), 4),
    ((46, 5), 5),
    ((46, 6), 6),
    ((46, 7), 7),
    ((48, 0), 0),
    ((48, 1), 1),
    ((48, 2), 2),
    ((48, 3), 3),
    ((48, 4), 4),
    ((48, 5), 5),
    ((48, 6), 6),
    ((48, 7), 7),
    ((48, 8), 8),
    ((50, 0), 0),
    ((50, 1), 1),
    ((50, 2), 2),
    ((50, 3), 3),
    ((50, 4), 4),
    ((50, 5), 5),
    ((50, 6), 6),
    ((50, 7), 7),
    ((52, 0), 0),
    ((52, 1), 1),
    ((52, 2), 2),
    ((52, 3), 3),
    ((52, 4), 4),
    ((52, 5), 5),
    ((52, 6), 6),
    ((52, 7), 7),
    ((52, 8), 8),
    ((54, 0), 0),
    ((54, 1), 16),
    ((54, 2), 17),
    ((63, 0), 0),
    ((63, 1), 16),
    ((63, 2), 17),
    ((73, 0), 0),
    ((73, 1), 5),
    ((73, 2), 6),
    ((73, 3), 7),
    ((106, 0), 0),
    ((106, 1), 5),
    ((106, 2), 6),
    ((106, 3), 7),
    ((126, 0), 0),
    ((126, 1), 1),
    ((126, 2), 2),
    ((136, 0), 0),
    ((136, 1), 1),
    ((136, 2), 2),
    ((136, 3), 3),
    ((136, 4), 4),
    ((136, 5), 5),
    ((136, 6), 6),
    ((139, 0), 0),
    ((139, 1), 1),
    ((139, 2), 2),
    ((139, 3), 3),
    ((139, 4), 4)]
  sl := [(22, (5, 1, 1, [.int .u8 0])),
    (24, (52, 16, 136, [.int .i64 0, .int .i64 0, .int .i64 0, .int .i64 0, .int .i64 0, .int .i64 0, .int .i64 0, .int .i64 0, .int .i64 0, .int .i64 0, .int .i64 0, .int .i64 0, .int .i64 0, .int .i64 0, .int .i64 0, .string ⟨#[]⟩])),
    (26, (54, 18, 152, [.int .i64 0, .int .i64 0, .int .i64 0, .int .i64 0, .int .i64 0, .int .i64 0, .int .i64 0, .int .i64 0, .int .i64 0, .int .i64 0, .int .i64 0, .int .i64 0, .int .i64 0, .int .i64 0, .int .i64 0, .string ⟨#[]⟩, .int .i64 0, .int .i64 0])),
    (30, (73, 8, 72, [.int .i64 0, .int .i64 0, .int .i64 0, .int .i64 0, .int .i64 0, .int .i64 0, .string ⟨#[]⟩, .bool false])),
    (36, (106, 8, 72, [.int .i64 0, .int .i64 0, .int .i64 0, .int .i64 0, .int .i64 0, .int .i64 0, .string ⟨#[]⟩, .bool false])),
    (79, (9, 1, 16, [.string ⟨#[]⟩])),
    (86, (63, 18, 152, [.int .i64 0, .int .i64 0, .int .i64 0, .int .i64 0, .int .i64 0, .int .i64 0, .int .i64 0, .int .i64 0, .int .i64 0, .int .i64 0, .int .i64 0, .int .i64 0, .int .i64 0, .int .i64 0, .int .i64 0, .string ⟨#[]⟩, .int .i64 0, .int .i64 0])),
    (91, (48, 16, 136, [.int .i64 0, .int .i64 0, .int .i64 0, .int .i64 0, .int .i64 0, .int .i64 0, .int .i64 0, .int .i64 0, .int .i64 0, .int .i64 0, .int .i64 0, .int .i64 0, .int .i64 0, .int .i64 0, .int .i64 0, .string ⟨#[]⟩])),
    (123, (3, 1, 8, [.int .i64 0]))]

theorem tab_all {α β : Type} {f : α → Option β} {l : List (α × β)} (h : l.map (fun p => f p.1) = l.map (fun p => some p.2)) : ∀ p ∈ l, f p.1 = some p.2 := by
  induction l with
  | nil => intro p hp; cases hp
  | cons a l ih =>
    simp only [List.map_cons, List.cons.injEq] at h
    intro p hp
    rcases List.mem_cons.1 hp with rfl | hp
    · exact h.1
    · exact ih h.2 p hp

set_option maxRecDepth 100000 in
theorem tabs_ok : tabs.ok Try.prog where
  ty := tab_all (f := tyChk Try.prog) (by kernel_rfl)
  fld := tab_all (f := fun (p : Nat × Nat) => fldChk Try.prog p.1 p.2) (by kernel_rfl)
  sl := tab_all (f := slChk Try.prog) (by kernel_rfl)
set_option maxRecDepth 100000 in
theorem mixed_ok : Try.prog.follows .mixedOrders = true := by kernel_rfl
theorem st_42 : stChk Try.prog 42 = some ([(0, 1), (1, 1), (2, 1), (3, 1), (4, 1)], [.int .i64 0, .int .i64 0, .int .i64 0, .int .i64 0, .int .i64 0]) := by kernel_rfl
theorem st_50 : stChk Try.prog 50 = some ([(0, 1), (1, 1), (2, 1), (3, 1), (4, 1), (5, 1), (6, 1), (7, 1)], [.int .i64 0, .int .i64 0, .int .i64 0, .int .i64 0, .int .i64 0, .int .i64 0, .int .i64 0, .string ⟨#[]⟩]) := by kernel_rfl
theorem st_52 : stChk Try.prog 52 = some ([(0, 1), (1, 1), (2, 1), (3, 1), (4, 1), (5, 1), (6, 1), (7, 1), (8, 8)], [.int .i64 0, .int .i64 0, .int .i64 0, .int .i64 0, .int .i64 0, .int .i64 0, .int .i64 0, .int .i64 0, .int .i64 0, .int .i64 0, .int .i64 0, .int .i64 0, .int .i64 0, .int .i64 0, .int .i64 0, .string ⟨#[]⟩]) := by kernel_rfl
theorem st_54 : stChk Try.prog 54 = some ([(0, 16), (16, 1), (17, 1)], [.int .i64 0, .int .i64 0, .int .i64 0, .int .i64 0, .int .i64 0, .int .i64 0, .int .i64 0, .int .i64 0, .int .i64 0, .int .i64 0, .int .i64 0, .int .i64 0, .int .i64 0, .int .i64 0, .int .i64 0, .string ⟨#[]⟩, .int .i64 0, .int .i64 0]) := by kernel_rfl
theorem st_73 : stChk Try.prog 73 = some ([(0, 5), (5, 1), (6, 1), (7, 1)], [.int .i64 0, .int .i64 0, .int .i64 0, .int .i64 0, .int .i64 0, .int .i64 0, .string ⟨#[]⟩, .bool false]) := by kernel_rfl
theorem st_126 : stChk Try.prog 126 = some ([(0, 1), (1, 1), (2, 1)], [.slice none 0 0, .int .i64 0, .int .i64 0]) := by kernel_rfl
theorem st_136 : stChk Try.prog 136 = some ([(0, 1), (1, 1), (2, 1), (3, 1), (4, 1), (5, 1), (6, 1)], [.int .i64 0, .int .i64 0, .int .i64 0, .int .i64 0, .int .i64 0, .int .i64 0, .string ⟨#[]⟩]) := by kernel_rfl
theorem st_139 : stChk Try.prog 139 = some ([(0, 1), (1, 1), (2, 1), (3, 1), (4, 1)], [.int .i64 0, .int .i64 0, .int .i64 0, .int .i64 0, .string ⟨#[]⟩]) := by kernel_rfl
theorem int_3 : isInt Try.prog 3 = some .i64 := by kernel_rfl
theorem int_5 : isInt Try.prog 5 = some .u8 := by kernel_rfl
theorem int_147 : isInt Try.prog 147 = some .u32 := by kernel_rfl
theorem str_9 : isStr Try.prog 9 = true := by kernel_rfl
end Go.Proofs.Ytgkedbhpeafbbaa
