/-
  dots.Encode, dots.Decode: the pieces of their code. (Printed by mkpc.py.)
-/
import Derived.Test.YtbhdfmkcoolghaaDoorU6
import Derived.KernelRfl
set_option linter.unusedVariables false
set_option maxRecDepth 100000
namespace Go.Proofs.YtbhdfmkcoolghaaDoor
open Go Go.Am

def sA : Code → Code
  | .seq a _ => a
  | c => c
def sB : Code → Code
  | .seq _ b => b
  | c => c
def inn : Code → Code
  | .block _ a => a
  | .loop a => a
  | c => c
def rfA : Code → Code
  | .rangeFunc _ _ a _ => a
  | c => c
def rfB : Code → Code
  | .rangeFunc _ _ _ b => b
  | c => c
noncomputable def bd11 : Code := Tryd.f11.body.getD .skip
noncomputable def bd9 : Code := Tryd.f9.body.getD .skip
noncomputable def en0 : Code := sA bd11
abbrev qen0 : AC :=
  .region [⟨some 2, .mv (.c (.list 1 [] .full)), none, 0⟩] 0 false []
theorem een0 : compileC Tryd.prog MT 16 en0 = qen0 := by kernel_rfl
theorem pen0 : plainC en0 = true := by rfl
noncomputable def en1 : Code := sA (sB bd11)
abbrev qen1 : AC :=
  .region [⟨some 3, .alloc [.list 1 [] .full], none, 0⟩] 1 false []
theorem een1 : compileC Tryd.prog MT 16 en1 = qen1 := by kernel_rfl
theorem pen1 : plainC en1 = true := by rfl
noncomputable def en2 : Code := sA (sA (sB (sB bd11)))
abbrev qen2 : AC :=
  .region [⟨some 5, .mv (.t 0), none, 0⟩, ⟨some 6, .call (.c (.fn 15 [])) [.t 5], none, 0⟩] 0 false []
theorem een2 : compileC Tryd.prog MT 16 en2 = qen2 := by kernel_rfl
theorem pen2 : plainC en2 = true := by rfl
noncomputable def en3 : Code := rfA (inn (sB (sA (sB (sB bd11)))))
abbrev qen3 : AC :=
  .region [⟨some 4, .mv (.t 7), none, 0⟩] 0 false []
theorem een3 : compileC Tryd.prog MT 16 en3 = qen3 := by kernel_rfl
theorem pen3 : plainC en3 = true := by rfl
noncomputable def en4 : Code := rfB (inn (sB (sA (sB (sB bd11)))))
abbrev qen4 : AC :=
  .block 1 (.region [⟨some 9, .load none (.t 3), none, 0⟩, ⟨some 10, .mv (.t 4), none, 0⟩, ⟨some 11, .call (.c (.fn 7 [])) [.t 10], none, 0⟩, ⟨some 12, .append 1 1 5 (.t 9) (.t 11), none, 0⟩, ⟨some 13,
  .append 1 1 5 (.t 12) (.c (.str [13, 10])), none, 1⟩, ⟨none, .store 1 (.t 3) (.t 13), none, 2⟩] 2 true [(0, 2)])
theorem een4 : compileC Tryd.prog MT 16 en4 = qen4 := by kernel_rfl
theorem pen4 : plainC en4 = true := by rfl
noncomputable def en5 : Code := sB (sB (sB bd11))
abbrev qen5 : AC :=
  .seq (.region [⟨some 14, .load none (.t 3), none, 0⟩, ⟨some 15, .append 1 1 5 (.t 14) (.c (.str [46, 13, 10])), none, 0⟩, ⟨some 2, .mv (.t 15), none, 1⟩] 1 false []) (.ret)
theorem een5 : compileC Tryd.prog MT 16 en5 = qen5 := by kernel_rfl
theorem pen5 : plainC en5 = true := by rfl
noncomputable def de0 : Code := sA bd9
abbrev qde0 : AC :=
  .region [⟨some 2, .alloc [.list 1 [] .full], none, 0⟩, ⟨some 3, .alloc [.int .i64 0], none, 1⟩, ⟨some 4, .alloc [.bool false], none, 2⟩] 3 false []
theorem ede0 : compileC Tryd.prog MT 36 de0 = qde0 := by kernel_rfl
theorem pde0 : plainC de0 = true := by rfl
noncomputable def de1 : Code := sA (sB bd9)
abbrev qde1 : AC :=
  .region [⟨some 5, .alloc [.list 1 [] .full], none, 0⟩] 1 false []
theorem ede1 : compileC Tryd.prog MT 36 de1 = qde1 := by kernel_rfl
theorem pde1 : plainC de1 = true := by rfl
noncomputable def de2 : Code := sA (sB (sB bd9))
abbrev qde2 : AC :=
  .region [⟨some 6, .alloc [.int .i64 0], none, 0⟩, ⟨none, .store 1 (.t 6) (.c (.int .i64 0)), none, 1⟩] 1 false []
theorem ede2 : compileC Tryd.prog MT 36 de2 = qde2 := by kernel_rfl
theorem pde2 : plainC de2 = true := by rfl
noncomputable def de3 : Code := sA (sA (sB (sB (sB bd9))))
abbrev qde3 : AC :=
  .region [⟨some 11, .mv (.t 0), none, 0⟩, ⟨some 12, .call (.c (.fn 15 [])) [.t 11], none, 0⟩] 0 false []
theorem ede3 : compileC Tryd.prog MT 36 de3 = qde3 := by kernel_rfl
theorem pde3 : plainC de3 = true := by rfl
noncomputable def de4 : Code := rfA (inn (sB (sA (sB (sB (sB bd9))))))
abbrev qde4 : AC :=
  .seq (.region [⟨some 7, .mv (.t 13), none, 0⟩] 0 false []) (.region [⟨some 8, .mv (.t 14), none, 0⟩] 0 false [])
theorem ede4 : compileC Tryd.prog MT 36 de4 = qde4 := by kernel_rfl
theorem pde4 : plainC de4 = true := by rfl
noncomputable def de5 : Code := rfB (inn (sB (sA (sB (sB (sB bd9))))))
abbrev qde5 : AC :=
  .block 1 (.seq (.region [⟨some 15, .load none (.t 6), none, 0⟩, ⟨some 16, .mv (.t 7), none, 0⟩, ⟨some 17, .lenS (.t 16), none, 0⟩, ⟨some 18, .bin .add (.t 17) (.c (.int .i64 2)), none, 0⟩, ⟨some 19,
  .bin .add (.t 15) (.t 18), none, 0⟩, ⟨none, .store 1 (.t 6) (.t 19), none, 0⟩] 0 false []) (.seq (.region [⟨some 21, .mv (.t 7), none, 0⟩, ⟨some 22, .call (.c (.fn 5 [])) [.t 21], none, 0⟩, ⟨some 20,
  .mv (.t 22), none, 0⟩, ⟨some 23, .ext (.t 20) 0, none, 0⟩, ⟨some 24, .ext (.t 20) 1, none, 0⟩, ⟨some 9, .mv (.t 23), none, 0⟩, ⟨some 10, .mv (.t 24), none, 0⟩] 0 false []) (.seq (.block 2 (.seq
  (.region [⟨some 26, .mv (.t 8), none, 0⟩, ⟨some 27, .not (.t 26), none, 0⟩, ⟨some 25, .mv (.t 27), none, 0⟩] 0 false []) (.cond (.t 25) (.seq (.region [⟨none, .store 1 (.t 2) (.c (.list 1 [] .full)),
  none, 0⟩, ⟨none, .store 1 (.t 3) (.c (.int .i64 0)), none, 0⟩, ⟨none, .store 1 (.t 4) (.c (.bool false)), none, 0⟩] 0 false []) (.ret)) (.seq (.region [⟨some 29, .mv (.t 10), none, 0⟩, ⟨some 28, .mv
  (.t 29), none, 0⟩] 0 false []) (.cond (.t 28) (.seq (.region [⟨some 30, .load none (.t 5), none, 0⟩, ⟨some 31, .load none (.t 6), none, 0⟩, ⟨none, .store 1 (.t 2) (.t 30), none, 0⟩, ⟨none, .store 1 (.t
  3) (.t 31), none, 0⟩, ⟨none, .store 1 (.t 4) (.c (.bool true)), none, 0⟩] 0 true [(1, 2)]) (.ret)) (.skip)))))) (.region [⟨some 32, .load none (.t 5), none, 0⟩, ⟨some 33, .mv (.t 9), none, 0⟩, ⟨some
  34, .append 1 1 5 (.t 32) (.t 33), none, 0⟩, ⟨some 35, .append 1 1 5 (.t 34) (.c (.str [13, 10])), none, 1⟩, ⟨none, .store 1 (.t 5) (.t 35), none, 2⟩] 2 false []))))
theorem ede5 : compileC Tryd.prog MT 36 de5 = qde5 := by kernel_rfl
theorem pde5 : plainC de5 = true := by rfl
noncomputable def de6 : Code := sB (sB (sB (sB bd9)))
abbrev qde6 : AC :=
  .seq (.region [⟨none, .store 1 (.t 2) (.c (.list 1 [] .full)), none, 0⟩, ⟨none, .store 1 (.t 3) (.c (.int .i64 0)), none, 0⟩, ⟨none, .store 1 (.t 4) (.c (.bool false)), none, 0⟩] 0 false []) (.ret)
theorem ede6 : compileC Tryd.prog MT 36 de6 = qde6 := by kernel_rfl
theorem pde6 : plainC de6 = true := by rfl
theorem f8_is : Tryd.prog.funcs[11]? = some Tryd.f11 := by rfl
theorem f9_is : Tryd.prog.funcs[9]? = some Tryd.f9 := by rfl
theorem f8_body : Tryd.f11.body = some (.seq en0 (.seq en1 (.seq (.seq en2 (.block 0 (.rangeFunc (.tmp 6) #[7, 8] en3 en4))) en5))) := by rfl
theorem f9_body : Tryd.f9.body = some (.seq de0 (.seq de1 (.seq de2 (.seq (.seq de3 (.block 0 (.rangeFunc (.tmp 12) #[13, 14] de4 de5))) de6)))) := by rfl
theorem f8_res : compileRs Tryd.prog Tryd.f11.results.toList = some [.tmp 2] := by kernel_rfl
end Go.Proofs.YtbhdfmkcoolghaaDoor
