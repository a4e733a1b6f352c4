/-
  The types of the program, by tables: cells, zeros, fields, elements.
  Conditions: none.
-/
import Derived.Test.YtncciafldmoklaaProg
import Derived.Test.YtncciafldmoklaaEngW
set_option linter.unusedSimpArgs false
set_option linter.unusedVariables false
namespace Go.Proofs.Ytncciafldmoklaa
open Go.RowKit

def tabs : Tabs where
  ty := [(3, (false, 1, [.int .i64 0])),
    (5, (false, 1, [.int .u8 0])),
    (9, (false, 1, [.string ⟨#[]⟩])),
    (23, (true, 5, [.int .i64 0, .int .i64 0, .int .i64 0, .int .i64 0, .int .i64 0])),
    (25, (true, 5, [.int .i64 0, .int .i64 0, .int .i64 0, .int .i64 0, .int .i64 0])),
    (28, (false, 1, [.slice none 0 0])),
    (30, (true, 1, [.slice none 0 0])),
    (35, (false, 1, [.slice none 0 0])),
    (38, (false, 1, [.slice none 0 0])),
    (46, (true, 7, [.int .i64 0, .int .i64 0, .int .i64 0, .int .i64 0, .int .i64 0, .int .i64 0, .int .i64 0])),
    (49, (false, 1, [.slice none 0 0])),
    (51, (true, 1, [.slice none 0 0])),
    (61, (true, 9, [.int .i64 0, .int .i64 0, .int .i64 0, .int .i64 0, .int .i64 0, .int .i64 0, .int .i64 0, .int .i64 0, .int .i64 0])),
    (63, (true, 9, [.int .i64 0, .int .i64 0, .int .i64 0, .int .i64 0, .int .i64 0, .int .i64 0, .int .i64 0, .int .i64 0, .int .i64 0])),
    (68, (false, 1, [.slice none 0 0])),
    (71, (false, 1, [.slice none 0 0])),
    (76, (true, 8, [.int .i64 0, .int .i64 0, .int .i64 0, .int .i64 0, .int .i64 0, .int .i64 0, .int .i64 0, .string ⟨#[]⟩])),
    (78, (true, 16, [.int .i64 0, .int .i64 0, .int .i64 0, .int .i64 0, .int .i64 0, .int .i64 0, .int .i64 0, .int .i64 0, .int .i64 0, .int .i64 0, .int .i64 0, .int .i64 0, .int .i64 0, .int .i64 0, .int .i64 0, .string ⟨#[]⟩])),
    (81, (true, 8, [.int .i64 0, .int .i64 0, .int .i64 0, .int .i64 0, .int .i64 0, .int .i64 0, .int .i64 0, .string ⟨#[]⟩])),
    (83, (true, 16, [.int .i64 0, .int .i64 0, .int .i64 0, .int .i64 0, .int .i64 0, .int .i64 0, .int .i64 0, .int .i64 0, .int .i64 0, .int .i64 0, .int .i64 0, .int .i64 0, .int .i64 0, .int .i64 0, .int .i64 0, .string ⟨#[]⟩])),
    (95, (true, 2, [.string ⟨#[]⟩, .slice none 0 0])),
    (97, (true, 4, [.slice none 0 0, .slice none 0 0, .string ⟨#[]⟩, .slice none 0 0])),
    (100, (true, 2, [.string ⟨#[]⟩, .slice none 0 0])),
    (102, (true, 4, [.slice none 0 0, .slice none 0 0, .string ⟨#[]⟩, .slice none 0 0])),
    (129, (true, 3, [.slice none 0 0, .int .i64 0, .int .i64 0])),
    (134, (true, 7, [.int .i64 0, .int .i64 0, .int .i64 0, .int .i64 0, .int .i64 0, .int .i64 0, .int .i64 0]))]
  fld := [((23, 0), 0),
    ((23, 1), 1),
    ((23, 2), 2),
    ((23, 3), 3),
    ((23, 4), 4),
    ((25, 0), 0),
    ((25, 1), 1),
    ((25, 2), 2),
    ((25, 3), 3),
    ((25, 4), 4),
    ((30, 0), 0),
    ((46, 0), 0),
    ((46, 1), 1),
    ((46, 2), 6),
    ((51, 0), 0),
    ((61, 0), 0),
    ((61, 1), 1),
    ((61, 2), 2),
    ((61, 3), 3),
    ((61, 4), 4),
    ((61, 5), 5),
    ((61, 6), 6),
    ((61, 7), 7),
    ((61, 8), 8),
    ((63, 0), 0),
    ((63, 1), 1),
    ((63, 2), 2),
    ((63, 3), 3),
    ((63, 4), 4),
    ((63, 5), 5),
    ((63, 6), 6),
    ((63, 7), 7),
    ((63, 8), 8),
    ((76, 0), 0),
    ((76, 1), 1),
    ((76, 2), 2),
    ((76, 3), 3),
    ((76, 4), 4),
    ((76, 5), 5),
    ((76, 6), 6),
    ((76, 7), 7),
    ((78, 0), 0),
    ((78, 1), 1),
    ((78, 2), 2),
    ((78, 3), 3),
    ((78, 4), 4),
    ((78, 5), 5),
    ((78, 6), 6),
    ((78, 7), 7),
    ((78, 8), 8),
    ((81, 0), 0),
    ((81, 1), 1),
    ((81, 2), 2),
    ((81, 3), 3),
    ((81, 4), 4),
    ((81, 5), 5),
    ((81, 6), 6),
    ((81, 7), 7),
    ((83, 0), 0),
    ((83, 1), 1),
    ((83, 2), 2),
    ((83, 3), 3),
    ((83, 4), 4),
    ((83, 5), 5),
    ((83, 6), 6),
    ((83, 7), 7),
    ((83, 8), 8),
    ((95, 0), 0),
    ((95, 1), 1),
    ((97, 0), 0),
    ((97, 1), 1),
    ((97, 2), 2),
    ((100, 0), 0),
    ((100, 1), 1),
    ((102, 0), 0),
    ((102, 1), 1),
    ((102, 2), 2),
    ((129, 0), 0),
    ((129, 1), 1),
    ((129, 2), 2),
    ((134, 0), 0),
    ((134, 1), 1),
    ((134, 2), 6)]
  sl := [(28, (46, 7, 56, [.int .i64 0, .int .i64 0, .int .i64 0, .int .i64 0, .int .i64 0, .int .i64 0, .int .i64 0])),
    (35, (5, 1, 1, [.int .u8 0])),
    (37, (25, 5, 40, [.int .i64 0, .int .i64 0, .int .i64 0, .int .i64 0, .int .i64 0])),
    (38, (3, 1, 8, [.int .i64 0])),
    (49, (134, 7, 56, [.int .i64 0, .int .i64 0, .int .i64 0, .int .i64 0, .int .i64 0, .int .i64 0, .int .i64 0])),
    (68, (61, 9, 72, [.int .i64 0, .int .i64 0, .int .i64 0, .int .i64 0, .int .i64 0, .int .i64 0, .int .i64 0, .int .i64 0, .int .i64 0])),
    (71, (63, 9, 72, [.int .i64 0, .int .i64 0, .int .i64 0, .int .i64 0, .int .i64 0, .int .i64 0, .int .i64 0, .int .i64 0, .int .i64 0]))]

theorem tab_all {α β : Type} {f : α → Option β} {l : List (α × β)} (h : l.map (fun p => f p.1) = l.map (fun p => some p.2)) : ∀ p ∈ l, f p.1 = some p.2 := by
  induction l with
  | nil => intro p hp; cases hp
  | cons a l ih =>
    simp only [List.map_cons, List.cons.injEq] at h
    intro p hp
    rcases List.mem_cons.1 hp with rfl | hp
    · exact h.1
    · exact ih h.2 p hp

set_option maxRecDepth 100000 in
theorem tabs_ok : tabs.ok Try.prog where
  ty := tab_all (f := tyChk Try.prog) (by kernel_rfl)
  fld := tab_all (f := fun (p : Nat × Nat) => fldChk Try.prog p.1 p.2) (by kernel_rfl)
  sl := tab_all (f := slChk Try.prog) (by kernel_rfl)
set_option maxRecDepth 100000 in
theorem mixed_ok : Try.prog.follows .mixedOrders = true := by kernel_rfl
theorem st_25 : stChk Try.prog 25 = some ([(0, 1), (1, 1), (2, 1), (3, 1), (4, 1)], [.int .i64 0, .int .i64 0, .int .i64 0, .int .i64 0, .int .i64 0]) := by kernel_rfl
theorem st_30 : stChk Try.prog 30 = some ([(0, 1)], [.slice none 0 0]) := by kernel_rfl
theorem st_46 : stChk Try.prog 46 = some ([(0, 1), (1, 5), (6, 1)], [.int .i64 0, .int .i64 0, .int .i64 0, .int .i64 0, .int .i64 0, .int .i64 0, .int .i64 0]) := by kernel_rfl
theorem st_63 : stChk Try.prog 63 = some ([(0, 1), (1, 1), (2, 1), (3, 1), (4, 1), (5, 1), (6, 1), (7, 1), (8, 1)], [.int .i64 0, .int .i64 0, .int .i64 0, .int .i64 0, .int .i64 0, .int .i64 0, .int .i64 0, .int .i64 0, .int .i64 0]) := by kernel_rfl
theorem st_81 : stChk Try.prog 81 = some ([(0, 1), (1, 1), (2, 1), (3, 1), (4, 1), (5, 1), (6, 1), (7, 1)], [.int .i64 0, .int .i64 0, .int .i64 0, .int .i64 0, .int .i64 0, .int .i64 0, .int .i64 0, .string ⟨#[]⟩]) := by kernel_rfl
theorem st_83 : stChk Try.prog 83 = some ([(0, 1), (1, 1), (2, 1), (3, 1), (4, 1), (5, 1), (6, 1), (7, 1), (8, 8)], [.int .i64 0, .int .i64 0, .int .i64 0, .int .i64 0, .int .i64 0, .int .i64 0, .int .i64 0, .int .i64 0, .int .i64 0, .int .i64 0, .int .i64 0, .int .i64 0, .int .i64 0, .int .i64 0, .int .i64 0, .string ⟨#[]⟩]) := by kernel_rfl
theorem st_129 : stChk Try.prog 129 = some ([(0, 1), (1, 1), (2, 1)], [.slice none 0 0, .int .i64 0, .int .i64 0]) := by kernel_rfl
theorem int_3 : isInt Try.prog 3 = some .i64 := by kernel_rfl
theorem int_5 : isInt Try.prog 5 = some .u8 := by kernel_rfl
theorem str_9 : isStr Try.prog 9 = true := by kernel_rfl
end Go.Proofs.Ytncciafldmoklaa
