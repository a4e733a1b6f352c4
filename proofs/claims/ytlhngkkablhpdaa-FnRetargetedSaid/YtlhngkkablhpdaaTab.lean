/-
  The types of the program, by tables: cells, zeros, fields, elements.
  Conditions: none.
-/
import Derived.Test.YtlhngkkablhpdaaProg
import Derived.Test.YtlhngkkablhpdaaEngW
set_option linter.unusedSimpArgs false
set_option linter.unusedVariables false
namespace Go.Proofs.Ytlhngkkablhpdaa
open Go.RowKit

def tabs : Tabs where
  ty := [(3, (false, 1, [.int .i64 0])),
    (5, (false, 1, [.int .u8 0])),
    (9, (false, 1, [.string ⟨#[]⟩])),
    (29, (true, 5, [.int .i64 0, .int .i64 0, .int .i64 0, .int .i64 0, .int .i64 0])),
    (30, (true, 5, [.int .i64 0, .int .i64 0, .int .i64 0, .int .i64 0, .int .i64 0])),
    (37, (false, 1, [.slice none 0 0])),
    (42, (true, 2, [.string ⟨#[]⟩, .slice none 0 0])),
    (45, (true, 2, [.string ⟨#[]⟩, .slice none 0 0])),
    (55, (false, 1, [.slice none 0 0])),
    (71, (true, 8, [.int .i64 0, .int .i64 0, .int .i64 0, .int .i64 0, .int .i64 0, .int .i64 0, .int .i64 0, .string ⟨#[]⟩])),
    (73, (true, 16, [.int .i64 0, .int .i64 0, .int .i64 0, .int .i64 0, .int .i64 0, .int .i64 0, .int .i64 0, .int .i64 0, .int .i64 0, .int .i64 0, .int .i64 0, .int .i64 0, .int .i64 0, .int .i64 0, .int .i64 0, .string ⟨#[]⟩])),
    (94, (true, 3, [.slice none 0 0, .int .i64 0, .int .i64 0]))]
  fld := [((29, 0), 0),
    ((29, 1), 1),
    ((29, 2), 2),
    ((29, 3), 3),
    ((29, 4), 4),
    ((30, 0), 0),
    ((30, 1), 1),
    ((30, 2), 2),
    ((30, 3), 3),
    ((30, 4), 4),
    ((42, 0), 0),
    ((42, 1), 1),
    ((45, 0), 0),
    ((45, 1), 1),
    ((71, 0), 0),
    ((71, 1), 1),
    ((71, 2), 2),
    ((71, 3), 3),
    ((71, 5), 5),
    ((71, 7), 7),
    ((73, 4), 4),
    ((73, 6), 6),
    ((73, 7), 7),
    ((73, 8), 8),
    ((94, 0), 0),
    ((94, 1), 1),
    ((94, 2), 2)]
  sl := [(37, (3, 1, 8, [.int .i64 0])),
    (55, (5, 1, 1, [.int .u8 0])),
    (65, (73, 16, 136, [.int .i64 0, .int .i64 0, .int .i64 0, .int .i64 0, .int .i64 0, .int .i64 0, .int .i64 0, .int .i64 0, .int .i64 0, .int .i64 0, .int .i64 0, .int .i64 0, .int .i64 0, .int .i64 0, .int .i64 0, .string ⟨#[]⟩])),
    (68, (30, 5, 40, [.int .i64 0, .int .i64 0, .int .i64 0, .int .i64 0, .int .i64 0])),
    (75, (29, 5, 40, [.int .i64 0, .int .i64 0, .int .i64 0, .int .i64 0, .int .i64 0]))]

theorem tab_all {α β : Type} {f : α → Option β} {l : List (α × β)} (h : l.map (fun p => f p.1) = l.map (fun p => some p.2)) : ∀ p ∈ l, f p.1 = some p.2 := by
  induction l with
  | nil => intro p hp; cases hp
  | cons a l ih =>
    simp only [List.map_cons, List.cons.injEq] at h
    intro p hp
    rcases List.mem_cons.1 hp with rfl | hp
    · exact h.1
    · exact ih h.2 p hp

set_option maxRecDepth 100000 in
theorem tabs_ok : tabs.ok Try.prog where
  ty := tab_all (f := tyChk Try.prog) (by kernel_rfl)
  fld := tab_all (f := fun (p : Nat × Nat) => fldChk Try.prog p.1 p.2) (by kernel_rfl)
  sl := tab_all (f := slChk Try.prog) (by kernel_rfl)
set_option maxRecDepth 100000 in
theorem mixed_ok : Try.prog.follows .mixedOrders = true := by kernel_rfl
theorem st_30 : stChk Try.prog 30 = some ([(0, 1), (1, 1), (2, 1), (3, 1), (4, 1)], [.int .i64 0, .int .i64 0, .int .i64 0, .int .i64 0, .int .i64 0]) := by kernel_rfl
theorem st_45 : stChk Try.prog 45 = some ([(0, 1), (1, 1)], [.string ⟨#[]⟩, .slice none 0 0]) := by kernel_rfl
theorem st_71 : stChk Try.prog 71 = some ([(0, 1), (1, 1), (2, 1), (3, 1), (4, 1), (5, 1), (6, 1), (7, 1)], [.int .i64 0, .int .i64 0, .int .i64 0, .int .i64 0, .int .i64 0, .int .i64 0, .int .i64 0, .string ⟨#[]⟩]) := by kernel_rfl
theorem st_73 : stChk Try.prog 73 = some ([(0, 1), (1, 1), (2, 1), (3, 1), (4, 1), (5, 1), (6, 1), (7, 1), (8, 8)], [.int .i64 0, .int .i64 0, .int .i64 0, .int .i64 0, .int .i64 0, .int .i64 0, .int .i64 0, .int .i64 0, .int .i64 0, .int .i64 0, .int .i64 0, .int .i64 0, .int .i64 0, .int .i64 0, .int .i64 0, .string ⟨#[]⟩]) := by kernel_rfl
theorem st_94 : stChk Try.prog 94 = some ([(0, 1), (1, 1), (2, 1)], [.slice none 0 0, .int .i64 0, .int .i64 0]) := by kernel_rfl
theorem int_3 : isInt Try.prog 3 = some .i64 := by kernel_rfl
theorem int_5 : isInt Try.prog 5 = some .u8 := by kernel_rfl
theorem str_9 : isStr Try.prog 9 = true := by kernel_rfl
end Go.Proofs.Ytlhngkkablhpdaa
