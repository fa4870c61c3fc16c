/- The compiled code of functions 51 52 104 116, printed by a program; each is what the compiler 'trFn' gives. -/
import Derived.Test.YthglfhnlolefhaaGreatDoorAbsTop
import Derived.Test.YthglfhnlolefhaaGreatDoorProg
import Derived.KernelRfl
set_option maxRecDepth 100000
namespace Go.Proofs.YthglfhnlolefhaaGreatDoor
open Go.Abs
def c51 : AFn := ⟨6, [(.cell true 5 2)], (.seq (.reg [⟨(some 2), none, (.alloc 27 [(.v (.bool false)), (.v (.bool false)), (.sl 0 []), (.sl 0 []), (.sl 0 [])])⟩]) (.seq (.reg [⟨(some 3), none, (.mv (.t 0))⟩, ⟨(some 4), none, (.call 104 [(.t 3)])⟩, ⟨(some 5), none, (.build [(.v (.bool false)), (.v (.bool false)), (.sl 0 []), (.sl 0 []), (.sl 0 [])] [⟨0, 1, (.k (.c (.v (.bool true))))⟩, ⟨4, 1, (.t 4)⟩])⟩, ⟨none, none, (.store 5 (.t 2) (.t 5))⟩]) .ret))⟩
theorem tr51 : trFn Tryz.prog 51 = some c51 := by kernel_rfl
def c52 : AFn := ⟨6, [(.cell true 5 2)], (.seq (.reg [⟨(some 2), none, (.alloc 27 [(.v (.bool false)), (.v (.bool false)), (.sl 0 []), (.sl 0 []), (.sl 0 [])])⟩]) (.seq (.reg [⟨(some 3), none, (.mv (.t 0))⟩, ⟨(some 4), none, (.conv (.s2b 5) (.t 3))⟩, ⟨(some 5), none, (.build [(.v (.bool false)), (.v (.bool false)), (.sl 0 []), (.sl 0 []), (.sl 0 [])] [⟨3, 1, (.t 4)⟩])⟩, ⟨none, none, (.store 5 (.t 2) (.t 5))⟩]) .ret))⟩
theorem tr52 : trFn Tryz.prog 52 = some c52 := by kernel_rfl
def c104 : AFn := ⟨8, [(.t 2)], (.seq (.reg [⟨(some 2), none, (.mv (.k (.fs 0 [])))⟩]) (.seq (.seq (.reg [⟨(some 3), none, (.mv (.t 0))⟩, ⟨(some 4), none, (.snil false (.t 3))⟩]) (.cond (.t 4) (.seq (.reg [⟨(some 2), none, (.mv (.k (.fs 0 [])))⟩]) .ret) .skip)) (.seq (.reg [⟨(some 5), none, (.bsl 27 0 [] [])⟩, ⟨(some 6), none, (.mv (.t 0))⟩, ⟨(some 7), none, (.app 27 5 80 false (.t 5) (.t 6))⟩, ⟨(some 2), none, (.mv (.t 7))⟩]) .ret)))⟩
theorem tr104 : trFn Tryz.prog 104 = some c104 := by kernel_rfl
def c116 : AFn := ⟨8, [(.t 2)], (.seq (.reg [⟨(some 2), none, (.mv (.k (.fs 0 [])))⟩]) (.seq (.seq (.reg [⟨(some 3), none, (.mv (.t 0))⟩, ⟨(some 4), none, (.snil false (.t 3))⟩]) (.cond (.t 4) (.seq (.reg [⟨(some 2), none, (.mv (.k (.fs 0 [])))⟩]) .ret) .skip)) (.seq (.reg [⟨(some 5), none, (.bsl 5 0 [] [])⟩, ⟨(some 6), none, (.mv (.t 0))⟩, ⟨(some 7), none, (.app 5 1 1 false (.t 5) (.t 6))⟩, ⟨(some 2), none, (.mv (.t 7))⟩]) .ret)))⟩
theorem tr116 : trFn Tryz.prog 116 = some c116 := by kernel_rfl
end Go.Proofs.YthglfhnlolefhaaGreatDoor
