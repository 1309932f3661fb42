/- The program's types, as the executor reads them, and that they are so. Written by a program of this workplace (mkty.py). -/
import Derived.Test.YtojdihbanakhgaaProg
import Derived.Test.YtojdihbanakhgaaCoreA
import Derived.KernelRfl
import Derived.WalkKit
namespace Go.SX

@[irreducible] noncomputable def PR : Program := Go.Proofs.Try.prog
theorem PR_eq : PR = Go.Proofs.Try.prog := by kernel_rfl

inductive TTree where
  | nil
  | node (l : TTree) (k : Nat) (v : TI) (r : TTree)

def TTree.find : TTree → Nat → Option TI
  | .nil, _ => none
  | .node l k v r, t => if t < k then l.find t else if k < t then r.find t else some v

def TTree.All (Q : Nat → TI → Prop) : TTree → Prop
  | .nil => True
  | .node l k v r => l.All Q ∧ Q k v ∧ r.All Q

theorem TTree.find_all {Q : Nat → TI → Prop} : ∀ (t : TTree) {k : Nat} {i : TI}, t.All Q → t.find k = some i → Q k i
  | .nil, _, _, _, h => by cases h
  | .node l k v r, t, i, hq, h => by
    simp only [TTree.find] at h
    split at h
    · exact TTree.find_all l hq.1 h
    · split at h
      · exact TTree.find_all r hq.2.2 h
      · have : t = k := by omega
        subst this; cases h; exact hq.2.1

def ti1 : TI := ⟨1, 8, [.v fun _ => .nilFunc], .other⟩
def ti2 : TI := ⟨1, 8, [.int .i64 0], .int .i64⟩
def ti3 : TI := ⟨1, 8, [.int .i64 0], .int .i64⟩
def ti4 : TI := ⟨1, 1, [.ff], .bool⟩
def ti5 : TI := ⟨1, 1, [.int .u8 0], .int .u8⟩
def ti6 : TI := ⟨1, 1, [.int .u8 0], .int .u8⟩
def ti7 : TI := ⟨4, 24, [.int .i64 0, .int .i64 0, .ff, .int .u8 0], .struct [⟨0, 1, false, true⟩, ⟨1, 1, false, true⟩, ⟨2, 1, false, true⟩, ⟨3, 1, false, true⟩]⟩
def ti8 : TI := ⟨4, 24, [.int .i64 0, .int .i64 0, .ff, .int .u8 0], .struct [⟨0, 1, false, true⟩, ⟨1, 1, false, true⟩, ⟨2, 1, false, true⟩, ⟨3, 1, false, true⟩]⟩
def ti9 : TI := ⟨1, 16, [.v fun _ => .string ⟨#[]⟩], .str⟩
def ti10 : TI := ⟨1, 16, [.v fun _ => .string ⟨#[]⟩], .str⟩
def ti11 : TI := ⟨1, 16, [.v fun _ => .string ⟨#[]⟩], .str⟩
def ti12 : TI := ⟨1, 8, [.int .u64 0], .int .u64⟩
def ti13 : TI := ⟨2, 24, [.v fun _ => .string ⟨#[]⟩, .int .u64 0], .struct [⟨0, 1, false, true⟩, ⟨1, 1, false, true⟩]⟩
def ti14 : TI := ⟨2, 24, [.v fun _ => .string ⟨#[]⟩, .int .u64 0], .struct [⟨0, 1, false, true⟩, ⟨1, 1, false, true⟩]⟩
def ti15 : TI := ⟨1, 8, [.v fun _ => .pointer none], .ptr 176⟩
def ti16 : TI := ⟨1, 8, [.v fun _ => .pointer none], .ptr 179⟩
def ti17 : TI := ⟨1, 8, [.v fun _ => .pointer none], .ptr 189⟩
def ti18 : TI := ⟨1, 8, [.v fun _ => .pointer none], .struct [⟨0, 1, false, true⟩]⟩
def ti19 : TI := ⟨1, 8, [.v fun _ => .pointer none], .struct [⟨0, 1, false, true⟩]⟩
def ti21 : TI := ⟨1, 4, [.int .i32 0], .int .i32⟩
def ti22 : TI := ⟨1, 24, [.nils], .slice 97⟩
def ti23 : TI := ⟨1, 24, [.nils], .slice 64⟩
def ti24 : TI := ⟨2, 48, [.nils, .nils], .struct [⟨0, 1, false, true⟩, ⟨1, 1, false, true⟩]⟩
def ti25 : TI := ⟨2, 48, [.nils, .nils], .struct [⟨0, 1, false, true⟩, ⟨1, 1, false, true⟩]⟩
def ti26 : TI := ⟨1, 8, [.v fun _ => .nilFunc], .other⟩
def ti27 : TI := ⟨1, 8, [.int .i64 0], .int .i64⟩
def ti29 : TI := ⟨1, 8, [.v fun _ => .nilFunc], .other⟩
def ti31 : TI := ⟨1, 8, [.v fun _ => .nilFunc], .other⟩
def ti32 : TI := ⟨1, 8, [.v fun _ => .nilFunc], .other⟩
def ti33 : TI := ⟨1, 8, [.v fun _ => .nilFunc], .other⟩
def ti34 : TI := ⟨1, 8, [.v fun _ => .nilFunc], .other⟩
def ti35 : TI := ⟨1, 8, [.v fun _ => .nilFunc], .other⟩
def ti37 : TI := ⟨1, 8, [.v fun _ => .nilFunc], .other⟩
def ti38 : TI := ⟨1, 24, [.nils], .slice 3⟩
def ti39 : TI := ⟨3, 56, [.int .i64 0, .nils, .nils], .struct [⟨0, 1, false, true⟩, ⟨1, 1, false, true⟩, ⟨2, 1, false, true⟩]⟩
def ti40 : TI := ⟨3, 56, [.int .i64 0, .nils, .nils], .struct [⟨0, 1, false, true⟩, ⟨1, 1, false, true⟩, ⟨2, 1, false, true⟩]⟩
def ti41 : TI := ⟨1, 8, [.v fun _ => .nilFunc], .other⟩
def ti42 : TI := ⟨2, 16, [.int .i64 0, .int .i64 0], .struct [⟨0, 1, false, true⟩, ⟨1, 1, false, true⟩]⟩
def ti43 : TI := ⟨2, 16, [.int .i64 0, .int .i64 0], .struct [⟨0, 1, false, true⟩, ⟨1, 1, false, true⟩]⟩
def ti44 : TI := ⟨1, 8, [.v fun _ => .nilFunc], .other⟩
def ti46 : TI := ⟨1, 8, [.v fun _ => .nilFunc], .other⟩
def ti47 : TI := ⟨1, 8, [.v fun _ => .nilFunc], .other⟩
def ti49 : TI := ⟨1, 8, [.v fun _ => .nilFunc], .other⟩
def ti50 : TI := ⟨1, 8, [.v fun _ => .nilFunc], .other⟩
def ti51 : TI := ⟨1, 8, [.v fun _ => .nilFunc], .other⟩
def ti52 : TI := ⟨1, 8, [.v fun _ => .nilFunc], .other⟩
def ti53 : TI := ⟨1, 24, [.nils], .slice 40⟩
def ti54 : TI := ⟨1, 8, [.v fun _ => .nilFunc], .other⟩
def ti55 : TI := ⟨2, 48, [.nils, .nils], .struct [⟨0, 1, false, true⟩, ⟨1, 1, false, true⟩]⟩
def ti56 : TI := ⟨2, 48, [.nils, .nils], .struct [⟨0, 1, false, true⟩, ⟨1, 1, false, true⟩]⟩
def ti58 : TI := ⟨1, 8, [.v fun _ => .nilFunc], .other⟩
def ti59 : TI := ⟨1, 8, [.v fun _ => .nilFunc], .other⟩
def ti61 : TI := ⟨1, 8, [.v fun _ => .nilFunc], .other⟩
def ti62 : TI := ⟨1, 8, [.v fun _ => .nilFunc], .other⟩
def ti63 : TI := ⟨8, 64, [.int .i64 0, .int .u8 0, .int .i64 0, .int .i64 0, .int .i64 0, .int .i64 0, .int .i64 0, .int .i64 0], .struct [⟨0, 1, false, true⟩, ⟨1, 1, false, true⟩, ⟨2, 2, true, true⟩, ⟨4, 2, true, true⟩, ⟨6, 2, true, true⟩]⟩
def ti64 : TI := ⟨8, 64, [.int .i64 0, .int .u8 0, .int .i64 0, .int .i64 0, .int .i64 0, .int .i64 0, .int .i64 0, .int .i64 0], .struct [⟨0, 1, false, true⟩, ⟨1, 1, false, true⟩, ⟨2, 2, true, true⟩, ⟨4, 2, true, true⟩, ⟨6, 2, true, true⟩]⟩
def ti65 : TI := ⟨1, 8, [.v fun _ => .nilFunc], .other⟩
def ti66 : TI := ⟨1, 8, [.v fun _ => .nilFunc], .other⟩
def ti68 : TI := ⟨1, 8, [.v fun _ => .nilFunc], .other⟩
def ti69 : TI := ⟨1, 8, [.v fun _ => .nilFunc], .other⟩
def ti70 : TI := ⟨1, 8, [.v fun _ => .nilFunc], .other⟩
def ti71 : TI := ⟨1, 8, [.v fun _ => .nilFunc], .other⟩
def ti72 : TI := ⟨1, 8, [.v fun _ => .nilFunc], .other⟩
def ti73 : TI := ⟨1, 8, [.v fun _ => .nilFunc], .other⟩
def ti74 : TI := ⟨1, 8, [.v fun _ => .nilFunc], .other⟩
def ti75 : TI := ⟨1, 8, [.v fun _ => .nilFunc], .other⟩
def ti76 : TI := ⟨1, 8, [.v fun _ => .nilFunc], .other⟩
def ti77 : TI := ⟨1, 8, [.v fun _ => .nilFunc], .other⟩
def ti79 : TI := ⟨1, 8, [.v fun _ => .nilFunc], .other⟩
def ti81 : TI := ⟨1, 8, [.v fun _ => .nilFunc], .other⟩
def ti83 : TI := ⟨1, 8, [.v fun _ => .nilFunc], .other⟩
def ti85 : TI := ⟨1, 8, [.v fun _ => .nilFunc], .other⟩
def ti86 : TI := ⟨1, 24, [.nils], .slice 4⟩
def ti88 : TI := ⟨1, 8, [.v fun _ => .nilFunc], .other⟩
def ti90 : TI := ⟨1, 8, [.v fun _ => .nilFunc], .other⟩
def ti91 : TI := ⟨1, 8, [.v fun _ => .nilFunc], .other⟩
def ti92 : TI := ⟨1, 8, [.v fun _ => .nilFunc], .other⟩
def ti93 : TI := ⟨1, 8, [.v fun _ => .nilFunc], .other⟩
def ti94 : TI := ⟨1, 8, [.v fun _ => .nilFunc], .other⟩
def ti95 : TI := ⟨1, 8, [.v fun _ => .nilFunc], .other⟩
def ti96 : TI := ⟨8, 128, [.int .i64 0, .nils, .nils, .int .i64 0, .nils, .nils, .int .i64 0, .int .i64 0], .struct [⟨0, 3, true, true⟩, ⟨3, 3, true, true⟩, ⟨6, 1, false, true⟩, ⟨7, 1, false, true⟩]⟩
def ti97 : TI := ⟨8, 128, [.int .i64 0, .nils, .nils, .int .i64 0, .nils, .nils, .int .i64 0, .int .i64 0], .struct [⟨0, 3, true, true⟩, ⟨3, 3, true, true⟩, ⟨6, 1, false, true⟩, ⟨7, 1, false, true⟩]⟩
def ti98 : TI := ⟨1, 8, [.v fun _ => .nilFunc], .other⟩
def ti100 : TI := ⟨1, 8, [.v fun _ => .nilFunc], .other⟩
def ti101 : TI := ⟨1, 8, [.v fun _ => .nilFunc], .other⟩
def ti102 : TI := ⟨1, 8, [.v fun _ => .nilFunc], .other⟩
def ti103 : TI := ⟨1, 8, [.v fun _ => .nilFunc], .other⟩
def ti104 : TI := ⟨1, 8, [.v fun _ => .nilFunc], .other⟩
def ti105 : TI := ⟨1, 8, [.v fun _ => .nilFunc], .other⟩
def ti106 : TI := ⟨1, 8, [.v fun _ => .nilFunc], .other⟩
def ti107 : TI := ⟨1, 8, [.v fun _ => .nilFunc], .other⟩
def ti108 : TI := ⟨1, 8, [.v fun _ => .nilFunc], .other⟩
def ti109 : TI := ⟨1, 8, [.v fun _ => .pointer none], .ptr 113⟩
def ti110 : TI := ⟨1, 8, [.v fun _ => .nilFunc], .other⟩
def ti111 : TI := ⟨1, 8, [.v fun _ => .nilFunc], .other⟩
def ti112 : TI := ⟨2, 48, [.nils, .nils], .struct [⟨0, 2, true, true⟩]⟩
def ti113 : TI := ⟨2, 48, [.nils, .nils], .struct [⟨0, 2, true, true⟩]⟩
def ti114 : TI := ⟨1, 8, [.v fun _ => .nilFunc], .other⟩
def ti115 : TI := ⟨1, 8, [.v fun _ => .nilFunc], .other⟩
def ti116 : TI := ⟨1, 8, [.v fun _ => .nilFunc], .other⟩
def ti117 : TI := ⟨1, 8, [.v fun _ => .nilFunc], .other⟩
def ti118 : TI := ⟨1, 8, [.v fun _ => .nilFunc], .other⟩
def ti119 : TI := ⟨1, 8, [.v fun _ => .nilFunc], .other⟩
def ti120 : TI := ⟨1, 8, [.v fun _ => .nilFunc], .other⟩
def ti121 : TI := ⟨1, 8, [.v fun _ => .nilFunc], .other⟩
def ti122 : TI := ⟨1, 8, [.v fun _ => .nilFunc], .other⟩
def ti123 : TI := ⟨1, 8, [.v fun _ => .nilFunc], .other⟩
def ti124 : TI := ⟨1, 8, [.v fun _ => .nilFunc], .other⟩
def ti125 : TI := ⟨2, 48, [.nils, .nils], .struct [⟨0, 2, true, true⟩]⟩
def ti126 : TI := ⟨2, 48, [.nils, .nils], .struct [⟨0, 2, true, true⟩]⟩
def ti127 : TI := ⟨1, 8, [.v fun _ => .nilFunc], .other⟩
def ti128 : TI := ⟨1, 8, [.v fun _ => .nilFunc], .other⟩
def ti129 : TI := ⟨1, 8, [.v fun _ => .nilFunc], .other⟩
def ti130 : TI := ⟨1, 8, [.v fun _ => .nilFunc], .other⟩
def ti131 : TI := ⟨1, 8, [.v fun _ => .nilFunc], .other⟩
def ti132 : TI := ⟨1, 8, [.v fun _ => .nilFunc], .other⟩
def ti133 : TI := ⟨1, 8, [.v fun _ => .nilFunc], .other⟩
def ti134 : TI := ⟨6, 112, [.int .i64 0, .nils, .nils, .int .i64 0, .nils, .nils], .arr 2 40⟩
def ti135 : TI := ⟨1, 8, [.int .u64 0], .int .u64⟩
def ti136 : TI := ⟨1, 8, [.v fun _ => .nilFunc], .other⟩
def ti137 : TI := ⟨1, 8, [.v fun _ => .nilFunc], .other⟩
def ti138 : TI := ⟨1, 8, [.v fun _ => .nilFunc], .other⟩
def ti139 : TI := ⟨2, 16, [.int .u64 0, .int .u64 0], .struct [⟨0, 1, false, true⟩, ⟨1, 1, false, true⟩]⟩
def ti140 : TI := ⟨2, 16, [.int .u64 0, .int .u64 0], .struct [⟨0, 1, false, true⟩, ⟨1, 1, false, true⟩]⟩
def ti141 : TI := ⟨1, 8, [.v fun _ => .nilFunc], .other⟩
def ti142 : TI := ⟨1, 8, [.v fun _ => .pointer none], .ptr 97⟩
def ti143 : TI := ⟨1, 8, [.v fun _ => .nilFunc], .other⟩
def ti144 : TI := ⟨1, 8, [.v fun _ => .nilFunc], .other⟩
def ti146 : TI := ⟨1, 8, [.v fun _ => .nilFunc], .other⟩
def ti147 : TI := ⟨1, 8, [.v fun _ => .nilFunc], .other⟩
def ti148 : TI := ⟨1, 8, [.v fun _ => .nilFunc], .other⟩
def ti149 : TI := ⟨1, 8, [.v fun _ => .nilFunc], .other⟩
def ti150 : TI := ⟨1, 8, [.v fun _ => .nilFunc], .other⟩
def ti151 : TI := ⟨1, 8, [.v fun _ => .nilFunc], .other⟩
def ti152 : TI := ⟨1, 8, [.v fun _ => .nilFunc], .other⟩
def ti153 : TI := ⟨1, 8, [.v fun _ => .nilFunc], .other⟩
def ti154 : TI := ⟨1, 8, [.v fun _ => .nilFunc], .other⟩
def ti155 : TI := ⟨1, 8, [.v fun _ => .nilFunc], .other⟩
def ti156 : TI := ⟨1, 8, [.v fun _ => .nilFunc], .other⟩
def ti157 : TI := ⟨1, 8, [.v fun _ => .nilFunc], .other⟩
def ti158 : TI := ⟨1, 8, [.v fun _ => .nilFunc], .other⟩
def ti159 : TI := ⟨1, 8, [.int .u64 0], .int .u64⟩
def ti162 : TI := ⟨1, 8, [.v fun _ => .nilFunc], .other⟩
def ti163 : TI := ⟨1, 8, [.v fun _ => .nilFunc], .other⟩
def ti164 : TI := ⟨1, 8, [.v fun _ => .nilFunc], .other⟩
def ti165 : TI := ⟨1, 8, [.v fun _ => .nilFunc], .other⟩
def ti166 : TI := ⟨1, 8, [.v fun _ => .nilFunc], .other⟩
def ti168 : TI := ⟨1, 8, [.v fun _ => .nilFunc], .other⟩
def ti169 : TI := ⟨1, 8, [.v fun _ => .nilFunc], .other⟩
def ti170 : TI := ⟨1, 8, [.v fun _ => .nilFunc], .other⟩
def ti171 : TI := ⟨1, 8, [.v fun _ => .nilFunc], .other⟩
def ti172 : TI := ⟨1, 24, [.nils], .slice 27⟩
theorem tiok1 : TyOk PR 1 ti1 := ⟨by kernel_rfl, by kernel_rfl, by kernel_rfl, rfl⟩
theorem tiok2 : TyOk PR 2 ti2 := ⟨by kernel_rfl, by kernel_rfl, by kernel_rfl, rfl⟩
theorem tiok3 : TyOk PR 3 ti3 := ⟨by kernel_rfl, by kernel_rfl, by kernel_rfl, rfl⟩
theorem tiok4 : TyOk PR 4 ti4 := ⟨by kernel_rfl, by kernel_rfl, by kernel_rfl, rfl⟩
theorem tiok5 : TyOk PR 5 ti5 := ⟨by kernel_rfl, by kernel_rfl, by kernel_rfl, rfl⟩
theorem tiok6 : TyOk PR 6 ti6 := ⟨by kernel_rfl, by kernel_rfl, by kernel_rfl, rfl⟩
theorem tiok7 : TyOk PR 7 ti7 := ⟨by kernel_rfl, by kernel_rfl, by kernel_rfl, rfl⟩
theorem tiok8 : TyOk PR 8 ti8 := ⟨by kernel_rfl, by kernel_rfl, by kernel_rfl, rfl⟩
theorem tiok9 : TyOk PR 9 ti9 := ⟨by kernel_rfl, by kernel_rfl, by kernel_rfl, rfl⟩
theorem tiok10 : TyOk PR 10 ti10 := ⟨by kernel_rfl, by kernel_rfl, by kernel_rfl, rfl⟩
theorem tiok11 : TyOk PR 11 ti11 := ⟨by kernel_rfl, by kernel_rfl, by kernel_rfl, rfl⟩
theorem tiok12 : TyOk PR 12 ti12 := ⟨by kernel_rfl, by kernel_rfl, by kernel_rfl, rfl⟩
theorem tiok13 : TyOk PR 13 ti13 := ⟨by kernel_rfl, by kernel_rfl, by kernel_rfl, rfl⟩
theorem tiok14 : TyOk PR 14 ti14 := ⟨by kernel_rfl, by kernel_rfl, by kernel_rfl, rfl⟩
theorem tiok15 : TyOk PR 15 ti15 := ⟨by kernel_rfl, by kernel_rfl, by kernel_rfl, rfl⟩
theorem tiok16 : TyOk PR 16 ti16 := ⟨by kernel_rfl, by kernel_rfl, by kernel_rfl, rfl⟩
theorem tiok17 : TyOk PR 17 ti17 := ⟨by kernel_rfl, by kernel_rfl, by kernel_rfl, rfl⟩
theorem tiok18 : TyOk PR 18 ti18 := ⟨by kernel_rfl, by kernel_rfl, by kernel_rfl, rfl⟩
theorem tiok19 : TyOk PR 19 ti19 := ⟨by kernel_rfl, by kernel_rfl, by kernel_rfl, rfl⟩
theorem tiok21 : TyOk PR 21 ti21 := ⟨by kernel_rfl, by kernel_rfl, by kernel_rfl, rfl⟩
theorem tiok22 : TyOk PR 22 ti22 := ⟨by kernel_rfl, by kernel_rfl, by kernel_rfl, rfl⟩
theorem tiok23 : TyOk PR 23 ti23 := ⟨by kernel_rfl, by kernel_rfl, by kernel_rfl, rfl⟩
theorem tiok24 : TyOk PR 24 ti24 := ⟨by kernel_rfl, by kernel_rfl, by kernel_rfl, rfl⟩
theorem tiok25 : TyOk PR 25 ti25 := ⟨by kernel_rfl, by kernel_rfl, by kernel_rfl, rfl⟩
theorem tiok26 : TyOk PR 26 ti26 := ⟨by kernel_rfl, by kernel_rfl, by kernel_rfl, rfl⟩
theorem tiok27 : TyOk PR 27 ti27 := ⟨by kernel_rfl, by kernel_rfl, by kernel_rfl, rfl⟩
theorem tiok29 : TyOk PR 29 ti29 := ⟨by kernel_rfl, by kernel_rfl, by kernel_rfl, rfl⟩
theorem tiok31 : TyOk PR 31 ti31 := ⟨by kernel_rfl, by kernel_rfl, by kernel_rfl, rfl⟩
theorem tiok32 : TyOk PR 32 ti32 := ⟨by kernel_rfl, by kernel_rfl, by kernel_rfl, rfl⟩
theorem tiok33 : TyOk PR 33 ti33 := ⟨by kernel_rfl, by kernel_rfl, by kernel_rfl, rfl⟩
theorem tiok34 : TyOk PR 34 ti34 := ⟨by kernel_rfl, by kernel_rfl, by kernel_rfl, rfl⟩
theorem tiok35 : TyOk PR 35 ti35 := ⟨by kernel_rfl, by kernel_rfl, by kernel_rfl, rfl⟩
theorem tiok37 : TyOk PR 37 ti37 := ⟨by kernel_rfl, by kernel_rfl, by kernel_rfl, rfl⟩
theorem tiok38 : TyOk PR 38 ti38 := ⟨by kernel_rfl, by kernel_rfl, by kernel_rfl, rfl⟩
theorem tiok39 : TyOk PR 39 ti39 := ⟨by kernel_rfl, by kernel_rfl, by kernel_rfl, rfl⟩
theorem tiok40 : TyOk PR 40 ti40 := ⟨by kernel_rfl, by kernel_rfl, by kernel_rfl, rfl⟩
theorem tiok41 : TyOk PR 41 ti41 := ⟨by kernel_rfl, by kernel_rfl, by kernel_rfl, rfl⟩
theorem tiok42 : TyOk PR 42 ti42 := ⟨by kernel_rfl, by kernel_rfl, by kernel_rfl, rfl⟩
theorem tiok43 : TyOk PR 43 ti43 := ⟨by kernel_rfl, by kernel_rfl, by kernel_rfl, rfl⟩
theorem tiok44 : TyOk PR 44 ti44 := ⟨by kernel_rfl, by kernel_rfl, by kernel_rfl, rfl⟩
theorem tiok46 : TyOk PR 46 ti46 := ⟨by kernel_rfl, by kernel_rfl, by kernel_rfl, rfl⟩
theorem tiok47 : TyOk PR 47 ti47 := ⟨by kernel_rfl, by kernel_rfl, by kernel_rfl, rfl⟩
theorem tiok49 : TyOk PR 49 ti49 := ⟨by kernel_rfl, by kernel_rfl, by kernel_rfl, rfl⟩
theorem tiok50 : TyOk PR 50 ti50 := ⟨by kernel_rfl, by kernel_rfl, by kernel_rfl, rfl⟩
theorem tiok51 : TyOk PR 51 ti51 := ⟨by kernel_rfl, by kernel_rfl, by kernel_rfl, rfl⟩
theorem tiok52 : TyOk PR 52 ti52 := ⟨by kernel_rfl, by kernel_rfl, by kernel_rfl, rfl⟩
theorem tiok53 : TyOk PR 53 ti53 := ⟨by kernel_rfl, by kernel_rfl, by kernel_rfl, rfl⟩
theorem tiok54 : TyOk PR 54 ti54 := ⟨by kernel_rfl, by kernel_rfl, by kernel_rfl, rfl⟩
theorem tiok55 : TyOk PR 55 ti55 := ⟨by kernel_rfl, by kernel_rfl, by kernel_rfl, rfl⟩
theorem tiok56 : TyOk PR 56 ti56 := ⟨by kernel_rfl, by kernel_rfl, by kernel_rfl, rfl⟩
theorem tiok58 : TyOk PR 58 ti58 := ⟨by kernel_rfl, by kernel_rfl, by kernel_rfl, rfl⟩
theorem tiok59 : TyOk PR 59 ti59 := ⟨by kernel_rfl, by kernel_rfl, by kernel_rfl, rfl⟩
theorem tiok61 : TyOk PR 61 ti61 := ⟨by kernel_rfl, by kernel_rfl, by kernel_rfl, rfl⟩
theorem tiok62 : TyOk PR 62 ti62 := ⟨by kernel_rfl, by kernel_rfl, by kernel_rfl, rfl⟩
theorem tiok63 : TyOk PR 63 ti63 := ⟨by kernel_rfl, by kernel_rfl, by kernel_rfl, rfl⟩
theorem tiok64 : TyOk PR 64 ti64 := ⟨by kernel_rfl, by kernel_rfl, by kernel_rfl, rfl⟩
theorem tiok65 : TyOk PR 65 ti65 := ⟨by kernel_rfl, by kernel_rfl, by kernel_rfl, rfl⟩
theorem tiok66 : TyOk PR 66 ti66 := ⟨by kernel_rfl, by kernel_rfl, by kernel_rfl, rfl⟩
theorem tiok68 : TyOk PR 68 ti68 := ⟨by kernel_rfl, by kernel_rfl, by kernel_rfl, rfl⟩
theorem tiok69 : TyOk PR 69 ti69 := ⟨by kernel_rfl, by kernel_rfl, by kernel_rfl, rfl⟩
theorem tiok70 : TyOk PR 70 ti70 := ⟨by kernel_rfl, by kernel_rfl, by kernel_rfl, rfl⟩
theorem tiok71 : TyOk PR 71 ti71 := ⟨by kernel_rfl, by kernel_rfl, by kernel_rfl, rfl⟩
theorem tiok72 : TyOk PR 72 ti72 := ⟨by kernel_rfl, by kernel_rfl, by kernel_rfl, rfl⟩
theorem tiok73 : TyOk PR 73 ti73 := ⟨by kernel_rfl, by kernel_rfl, by kernel_rfl, rfl⟩
theorem tiok74 : TyOk PR 74 ti74 := ⟨by kernel_rfl, by kernel_rfl, by kernel_rfl, rfl⟩
theorem tiok75 : TyOk PR 75 ti75 := ⟨by kernel_rfl, by kernel_rfl, by kernel_rfl, rfl⟩
theorem tiok76 : TyOk PR 76 ti76 := ⟨by kernel_rfl, by kernel_rfl, by kernel_rfl, rfl⟩
theorem tiok77 : TyOk PR 77 ti77 := ⟨by kernel_rfl, by kernel_rfl, by kernel_rfl, rfl⟩
theorem tiok79 : TyOk PR 79 ti79 := ⟨by kernel_rfl, by kernel_rfl, by kernel_rfl, rfl⟩
theorem tiok81 : TyOk PR 81 ti81 := ⟨by kernel_rfl, by kernel_rfl, by kernel_rfl, rfl⟩
theorem tiok83 : TyOk PR 83 ti83 := ⟨by kernel_rfl, by kernel_rfl, by kernel_rfl, rfl⟩
theorem tiok85 : TyOk PR 85 ti85 := ⟨by kernel_rfl, by kernel_rfl, by kernel_rfl, rfl⟩
theorem tiok86 : TyOk PR 86 ti86 := ⟨by kernel_rfl, by kernel_rfl, by kernel_rfl, rfl⟩
theorem tiok88 : TyOk PR 88 ti88 := ⟨by kernel_rfl, by kernel_rfl, by kernel_rfl, rfl⟩
theorem tiok90 : TyOk PR 90 ti90 := ⟨by kernel_rfl, by kernel_rfl, by kernel_rfl, rfl⟩
theorem tiok91 : TyOk PR 91 ti91 := ⟨by kernel_rfl, by kernel_rfl, by kernel_rfl, rfl⟩
theorem tiok92 : TyOk PR 92 ti92 := ⟨by kernel_rfl, by kernel_rfl, by kernel_rfl, rfl⟩
theorem tiok93 : TyOk PR 93 ti93 := ⟨by kernel_rfl, by kernel_rfl, by kernel_rfl, rfl⟩
theorem tiok94 : TyOk PR 94 ti94 := ⟨by kernel_rfl, by kernel_rfl, by kernel_rfl, rfl⟩
theorem tiok95 : TyOk PR 95 ti95 := ⟨by kernel_rfl, by kernel_rfl, by kernel_rfl, rfl⟩
theorem tiok96 : TyOk PR 96 ti96 := ⟨by kernel_rfl, by kernel_rfl, by kernel_rfl, rfl⟩
theorem tiok97 : TyOk PR 97 ti97 := ⟨by kernel_rfl, by kernel_rfl, by kernel_rfl, rfl⟩
theorem tiok98 : TyOk PR 98 ti98 := ⟨by kernel_rfl, by kernel_rfl, by kernel_rfl, rfl⟩
theorem tiok100 : TyOk PR 100 ti100 := ⟨by kernel_rfl, by kernel_rfl, by kernel_rfl, rfl⟩
theorem tiok101 : TyOk PR 101 ti101 := ⟨by kernel_rfl, by kernel_rfl, by kernel_rfl, rfl⟩
theorem tiok102 : TyOk PR 102 ti102 := ⟨by kernel_rfl, by kernel_rfl, by kernel_rfl, rfl⟩
theorem tiok103 : TyOk PR 103 ti103 := ⟨by kernel_rfl, by kernel_rfl, by kernel_rfl, rfl⟩
theorem tiok104 : TyOk PR 104 ti104 := ⟨by kernel_rfl, by kernel_rfl, by kernel_rfl, rfl⟩
theorem tiok105 : TyOk PR 105 ti105 := ⟨by kernel_rfl, by kernel_rfl, by kernel_rfl, rfl⟩
theorem tiok106 : TyOk PR 106 ti106 := ⟨by kernel_rfl, by kernel_rfl, by kernel_rfl, rfl⟩
theorem tiok107 : TyOk PR 107 ti107 := ⟨by kernel_rfl, by kernel_rfl, by kernel_rfl, rfl⟩
theorem tiok108 : TyOk PR 108 ti108 := ⟨by kernel_rfl, by kernel_rfl, by kernel_rfl, rfl⟩
theorem tiok109 : TyOk PR 109 ti109 := ⟨by kernel_rfl, by kernel_rfl, by kernel_rfl, rfl⟩
theorem tiok110 : TyOk PR 110 ti110 := ⟨by kernel_rfl, by kernel_rfl, by kernel_rfl, rfl⟩
theorem tiok111 : TyOk PR 111 ti111 := ⟨by kernel_rfl, by kernel_rfl, by kernel_rfl, rfl⟩
theorem tiok112 : TyOk PR 112 ti112 := ⟨by kernel_rfl, by kernel_rfl, by kernel_rfl, rfl⟩
theorem tiok113 : TyOk PR 113 ti113 := ⟨by kernel_rfl, by kernel_rfl, by kernel_rfl, rfl⟩
theorem tiok114 : TyOk PR 114 ti114 := ⟨by kernel_rfl, by kernel_rfl, by kernel_rfl, rfl⟩
theorem tiok115 : TyOk PR 115 ti115 := ⟨by kernel_rfl, by kernel_rfl, by kernel_rfl, rfl⟩
theorem tiok116 : TyOk PR 116 ti116 := ⟨by kernel_rfl, by kernel_rfl, by kernel_rfl, rfl⟩
theorem tiok117 : TyOk PR 117 ti117 := ⟨by kernel_rfl, by kernel_rfl, by kernel_rfl, rfl⟩
theorem tiok118 : TyOk PR 118 ti118 := ⟨by kernel_rfl, by kernel_rfl, by kernel_rfl, rfl⟩
theorem tiok119 : TyOk PR 119 ti119 := ⟨by kernel_rfl, by kernel_rfl, by kernel_rfl, rfl⟩
theorem tiok120 : TyOk PR 120 ti120 := ⟨by kernel_rfl, by kernel_rfl, by kernel_rfl, rfl⟩
theorem tiok121 : TyOk PR 121 ti121 := ⟨by kernel_rfl, by kernel_rfl, by kernel_rfl, rfl⟩
theorem tiok122 : TyOk PR 122 ti122 := ⟨by kernel_rfl, by kernel_rfl, by kernel_rfl, rfl⟩
theorem tiok123 : TyOk PR 123 ti123 := ⟨by kernel_rfl, by kernel_rfl, by kernel_rfl, rfl⟩
theorem tiok124 : TyOk PR 124 ti124 := ⟨by kernel_rfl, by kernel_rfl, by kernel_rfl, rfl⟩
theorem tiok125 : TyOk PR 125 ti125 := ⟨by kernel_rfl, by kernel_rfl, by kernel_rfl, rfl⟩
theorem tiok126 : TyOk PR 126 ti126 := ⟨by kernel_rfl, by kernel_rfl, by kernel_rfl, rfl⟩
theorem tiok127 : TyOk PR 127 ti127 := ⟨by kernel_rfl, by kernel_rfl, by kernel_rfl, rfl⟩
theorem tiok128 : TyOk PR 128 ti128 := ⟨by kernel_rfl, by kernel_rfl, by kernel_rfl, rfl⟩
theorem tiok129 : TyOk PR 129 ti129 := ⟨by kernel_rfl, by kernel_rfl, by kernel_rfl, rfl⟩
theorem tiok130 : TyOk PR 130 ti130 := ⟨by kernel_rfl, by kernel_rfl, by kernel_rfl, rfl⟩
theorem tiok131 : TyOk PR 131 ti131 := ⟨by kernel_rfl, by kernel_rfl, by kernel_rfl, rfl⟩
theorem tiok132 : TyOk PR 132 ti132 := ⟨by kernel_rfl, by kernel_rfl, by kernel_rfl, rfl⟩
theorem tiok133 : TyOk PR 133 ti133 := ⟨by kernel_rfl, by kernel_rfl, by kernel_rfl, rfl⟩
theorem tiok134 : TyOk PR 134 ti134 := ⟨by kernel_rfl, by kernel_rfl, by kernel_rfl, rfl⟩
theorem tiok135 : TyOk PR 135 ti135 := ⟨by kernel_rfl, by kernel_rfl, by kernel_rfl, rfl⟩
theorem tiok136 : TyOk PR 136 ti136 := ⟨by kernel_rfl, by kernel_rfl, by kernel_rfl, rfl⟩
theorem tiok137 : TyOk PR 137 ti137 := ⟨by kernel_rfl, by kernel_rfl, by kernel_rfl, rfl⟩
theorem tiok138 : TyOk PR 138 ti138 := ⟨by kernel_rfl, by kernel_rfl, by kernel_rfl, rfl⟩
theorem tiok139 : TyOk PR 139 ti139 := ⟨by kernel_rfl, by kernel_rfl, by kernel_rfl, rfl⟩
theorem tiok140 : TyOk PR 140 ti140 := ⟨by kernel_rfl, by kernel_rfl, by kernel_rfl, rfl⟩
theorem tiok141 : TyOk PR 141 ti141 := ⟨by kernel_rfl, by kernel_rfl, by kernel_rfl, rfl⟩
theorem tiok142 : TyOk PR 142 ti142 := ⟨by kernel_rfl, by kernel_rfl, by kernel_rfl, rfl⟩
theorem tiok143 : TyOk PR 143 ti143 := ⟨by kernel_rfl, by kernel_rfl, by kernel_rfl, rfl⟩
theorem tiok144 : TyOk PR 144 ti144 := ⟨by kernel_rfl, by kernel_rfl, by kernel_rfl, rfl⟩
theorem tiok146 : TyOk PR 146 ti146 := ⟨by kernel_rfl, by kernel_rfl, by kernel_rfl, rfl⟩
theorem tiok147 : TyOk PR 147 ti147 := ⟨by kernel_rfl, by kernel_rfl, by kernel_rfl, rfl⟩
theorem tiok148 : TyOk PR 148 ti148 := ⟨by kernel_rfl, by kernel_rfl, by kernel_rfl, rfl⟩
theorem tiok149 : TyOk PR 149 ti149 := ⟨by kernel_rfl, by kernel_rfl, by kernel_rfl, rfl⟩
theorem tiok150 : TyOk PR 150 ti150 := ⟨by kernel_rfl, by kernel_rfl, by kernel_rfl, rfl⟩
theorem tiok151 : TyOk PR 151 ti151 := ⟨by kernel_rfl, by kernel_rfl, by kernel_rfl, rfl⟩
theorem tiok152 : TyOk PR 152 ti152 := ⟨by kernel_rfl, by kernel_rfl, by kernel_rfl, rfl⟩
theorem tiok153 : TyOk PR 153 ti153 := ⟨by kernel_rfl, by kernel_rfl, by kernel_rfl, rfl⟩
theorem tiok154 : TyOk PR 154 ti154 := ⟨by kernel_rfl, by kernel_rfl, by kernel_rfl, rfl⟩
theorem tiok155 : TyOk PR 155 ti155 := ⟨by kernel_rfl, by kernel_rfl, by kernel_rfl, rfl⟩
theorem tiok156 : TyOk PR 156 ti156 := ⟨by kernel_rfl, by kernel_rfl, by kernel_rfl, rfl⟩
theorem tiok157 : TyOk PR 157 ti157 := ⟨by kernel_rfl, by kernel_rfl, by kernel_rfl, rfl⟩
theorem tiok158 : TyOk PR 158 ti158 := ⟨by kernel_rfl, by kernel_rfl, by kernel_rfl, rfl⟩
theorem tiok159 : TyOk PR 159 ti159 := ⟨by kernel_rfl, by kernel_rfl, by kernel_rfl, rfl⟩
theorem tiok162 : TyOk PR 162 ti162 := ⟨by kernel_rfl, by kernel_rfl, by kernel_rfl, rfl⟩
theorem tiok163 : TyOk PR 163 ti163 := ⟨by kernel_rfl, by kernel_rfl, by kernel_rfl, rfl⟩
theorem tiok164 : TyOk PR 164 ti164 := ⟨by kernel_rfl, by kernel_rfl, by kernel_rfl, rfl⟩
theorem tiok165 : TyOk PR 165 ti165 := ⟨by kernel_rfl, by kernel_rfl, by kernel_rfl, rfl⟩
theorem tiok166 : TyOk PR 166 ti166 := ⟨by kernel_rfl, by kernel_rfl, by kernel_rfl, rfl⟩
theorem tiok168 : TyOk PR 168 ti168 := ⟨by kernel_rfl, by kernel_rfl, by kernel_rfl, rfl⟩
theorem tiok169 : TyOk PR 169 ti169 := ⟨by kernel_rfl, by kernel_rfl, by kernel_rfl, rfl⟩
theorem tiok170 : TyOk PR 170 ti170 := ⟨by kernel_rfl, by kernel_rfl, by kernel_rfl, rfl⟩
theorem tiok171 : TyOk PR 171 ti171 := ⟨by kernel_rfl, by kernel_rfl, by kernel_rfl, rfl⟩
theorem tiok172 : TyOk PR 172 ti172 := ⟨by kernel_rfl, by kernel_rfl, by kernel_rfl, rfl⟩

def tyTree : TTree := (.node (.node (.node (.node (.node (.node (.node (.node .nil 1 ti1 .nil) 2 ti2 .nil) 3 ti3 (.node .nil 4 ti4 .nil)) 5 ti5 (.node (.node (.node .nil 6 ti6 .nil) 7 ti7 .nil) 8 ti8 (.node .nil 9 ti9 .nil))) 10 ti10 (.node (.node (.node (.node .nil 11 ti11 .nil) 12 ti12 .nil) 13 ti13 (.node .nil 14 ti14 .nil)) 15 ti15 (.node (.node (.node .nil 16 ti16 .nil) 17 ti17 .nil) 18 ti18 (.node .nil 19 ti19 .nil)))) 21 ti21 (.node (.node (.node (.node (.node .nil 22 ti22 .nil) 23 ti23 .nil) 24 ti24 (.node .nil 25 ti25 .nil)) 26 ti26 (.node (.node (.node .nil 27 ti27 .nil) 29 ti29 .nil) 31 ti31 (.node .nil 32 ti32 .nil))) 33 ti33 (.node (.node (.node (.node .nil 34 ti34 .nil) 35 ti35 .nil) 37 ti37 (.node .nil 38 ti38 .nil)) 39 ti39 (.node (.node .nil 40 ti40 .nil) 41 ti41 (.node .nil 42 ti42 .nil))))) 43 ti43 (.node (.node (.node (.node (.node (.node .nil 44 ti44 .nil) 46 ti46 .nil) 47 ti47 (.node .nil 49 ti49 .nil)) 50 ti50 (.node (.node (.node .nil 51 ti51 .nil) 52 ti52 .nil) 53 ti53 (.node .nil 54 ti54 .nil))) 55 ti55 (.node (.node (.node (.node .nil 56 ti56 .nil) 58 ti58 .nil) 59 ti59 (.node .nil 61 ti61 .nil)) 62 ti62 (.node (.node .nil 63 ti63 .nil) 64 ti64 (.node .nil 65 ti65 .nil)))) 66 ti66 (.node (.node (.node (.node (.node .nil 68 ti68 .nil) 69 ti69 .nil) 70 ti70 (.node .nil 71 ti71 .nil)) 72 ti72 (.node (.node (.node .nil 73 ti73 .nil) 74 ti74 .nil) 75 ti75 (.node .nil 76 ti76 .nil))) 77 ti77 (.node (.node (.node (.node .nil 79 ti79 .nil) 81 ti81 .nil) 83 ti83 (.node .nil 85 ti85 .nil)) 86 ti86 (.node (.node .nil 88 ti88 .nil) 90 ti90 (.node .nil 91 ti91 .nil)))))) 92 ti92 (.node (.node (.node (.node (.node (.node (.node .nil 93 ti93 .nil) 94 ti94 .nil) 95 ti95 (.node .nil 96 ti96 .nil)) 97 ti97 (.node (.node (.node .nil 98 ti98 .nil) 100 ti100 .nil) 101 ti101 (.node .nil 102 ti102 .nil))) 103 ti103 (.node (.node (.node (.node .nil 104 ti104 .nil) 105 ti105 .nil) 106 ti106 (.node .nil 107 ti107 .nil)) 108 ti108 (.node (.node .nil 109 ti109 .nil) 110 ti110 (.node .nil 111 ti111 .nil)))) 112 ti112 (.node (.node (.node (.node (.node .nil 113 ti113 .nil) 114 ti114 .nil) 115 ti115 (.node .nil 116 ti116 .nil)) 117 ti117 (.node (.node (.node .nil 118 ti118 .nil) 119 ti119 .nil) 120 ti120 (.node .nil 121 ti121 .nil))) 122 ti122 (.node (.node (.node (.node .nil 123 ti123 .nil) 124 ti124 .nil) 125 ti125 (.node .nil 126 ti126 .nil)) 127 ti127 (.node (.node .nil 128 ti128 .nil) 129 ti129 (.node .nil 130 ti130 .nil))))) 131 ti131 (.node (.node (.node (.node (.node (.node .nil 132 ti132 .nil) 133 ti133 .nil) 134 ti134 (.node .nil 135 ti135 .nil)) 136 ti136 (.node (.node (.node .nil 137 ti137 .nil) 138 ti138 .nil) 139 ti139 (.node .nil 140 ti140 .nil))) 141 ti141 (.node (.node (.node (.node .nil 142 ti142 .nil) 143 ti143 .nil) 144 ti144 (.node .nil 146 ti146 .nil)) 147 ti147 (.node (.node .nil 148 ti148 .nil) 149 ti149 (.node .nil 150 ti150 .nil)))) 151 ti151 (.node (.node (.node (.node (.node .nil 152 ti152 .nil) 153 ti153 .nil) 154 ti154 (.node .nil 155 ti155 .nil)) 156 ti156 (.node (.node (.node .nil 157 ti157 .nil) 158 ti158 .nil) 159 ti159 (.node .nil 162 ti162 .nil))) 163 ti163 (.node (.node (.node (.node .nil 164 ti164 .nil) 165 ti165 .nil) 166 ti166 (.node .nil 168 ti168 .nil)) 169 ti169 (.node (.node .nil 170 ti170 .nil) 171 ti171 (.node .nil 172 ti172 .nil)))))))

theorem tyTree_ok : tyTree.All (TyOk PR) := ⟨⟨⟨⟨⟨⟨⟨⟨trivial, tiok1, trivial⟩, tiok2, trivial⟩, tiok3, ⟨trivial, tiok4, trivial⟩⟩, tiok5, ⟨⟨⟨trivial, tiok6, trivial⟩, tiok7, trivial⟩, tiok8, ⟨trivial, tiok9, trivial⟩⟩⟩, tiok10, ⟨⟨⟨⟨trivial, tiok11, trivial⟩, tiok12, trivial⟩, tiok13, ⟨trivial, tiok14, trivial⟩⟩, tiok15, ⟨⟨⟨trivial, tiok16, trivial⟩, tiok17, trivial⟩, tiok18, ⟨trivial, tiok19, trivial⟩⟩⟩⟩, tiok21, ⟨⟨⟨⟨⟨trivial, tiok22, trivial⟩, tiok23, trivial⟩, tiok24, ⟨trivial, tiok25, trivial⟩⟩, tiok26, ⟨⟨⟨trivial, tiok27, trivial⟩, tiok29, trivial⟩, tiok31, ⟨trivial, tiok32, trivial⟩⟩⟩, tiok33, ⟨⟨⟨⟨trivial, tiok34, trivial⟩, tiok35, trivial⟩, tiok37, ⟨trivial, tiok38, trivial⟩⟩, tiok39, ⟨⟨trivial, tiok40, trivial⟩, tiok41, ⟨trivial, tiok42, trivial⟩⟩⟩⟩⟩, tiok43, ⟨⟨⟨⟨⟨⟨trivial, tiok44, trivial⟩, tiok46, trivial⟩, tiok47, ⟨trivial, tiok49, trivial⟩⟩, tiok50, ⟨⟨⟨trivial, tiok51, trivial⟩, tiok52, trivial⟩, tiok53, ⟨trivial, tiok54, trivial⟩⟩⟩, tiok55, ⟨⟨⟨⟨trivial, tiok56, trivial⟩, tiok58, trivial⟩, tiok59, ⟨trivial, tiok61, trivial⟩⟩, tiok62, ⟨⟨trivial, tiok63, trivial⟩, tiok64, ⟨trivial, tiok65, trivial⟩⟩⟩⟩, tiok66, ⟨⟨⟨⟨⟨trivial, tiok68, trivial⟩, tiok69, trivial⟩, tiok70, ⟨trivial, tiok71, trivial⟩⟩, tiok72, ⟨⟨⟨trivial, tiok73, trivial⟩, tiok74, trivial⟩, tiok75, ⟨trivial, tiok76, trivial⟩⟩⟩, tiok77, ⟨⟨⟨⟨trivial, tiok79, trivial⟩, tiok81, trivial⟩, tiok83, ⟨trivial, tiok85, trivial⟩⟩, tiok86, ⟨⟨trivial, tiok88, trivial⟩, tiok90, ⟨trivial, tiok91, trivial⟩⟩⟩⟩⟩⟩, tiok92, ⟨⟨⟨⟨⟨⟨⟨trivial, tiok93, trivial⟩, tiok94, trivial⟩, tiok95, ⟨trivial, tiok96, trivial⟩⟩, tiok97, ⟨⟨⟨trivial, tiok98, trivial⟩, tiok100, trivial⟩, tiok101, ⟨trivial, tiok102, trivial⟩⟩⟩, tiok103, ⟨⟨⟨⟨trivial, tiok104, trivial⟩, tiok105, trivial⟩, tiok106, ⟨trivial, tiok107, trivial⟩⟩, tiok108, ⟨⟨trivial, tiok109, trivial⟩, tiok110, ⟨trivial, tiok111, trivial⟩⟩⟩⟩, tiok112, ⟨⟨⟨⟨⟨trivial, tiok113, trivial⟩, tiok114, trivial⟩, tiok115, ⟨trivial, tiok116, trivial⟩⟩, tiok117, ⟨⟨⟨trivial, tiok118, trivial⟩, tiok119, trivial⟩, tiok120, ⟨trivial, tiok121, trivial⟩⟩⟩, tiok122, ⟨⟨⟨⟨trivial, tiok123, trivial⟩, tiok124, trivial⟩, tiok125, ⟨trivial, tiok126, trivial⟩⟩, tiok127, ⟨⟨trivial, tiok128, trivial⟩, tiok129, ⟨trivial, tiok130, trivial⟩⟩⟩⟩⟩, tiok131, ⟨⟨⟨⟨⟨⟨trivial, tiok132, trivial⟩, tiok133, trivial⟩, tiok134, ⟨trivial, tiok135, trivial⟩⟩, tiok136, ⟨⟨⟨trivial, tiok137, trivial⟩, tiok138, trivial⟩, tiok139, ⟨trivial, tiok140, trivial⟩⟩⟩, tiok141, ⟨⟨⟨⟨trivial, tiok142, trivial⟩, tiok143, trivial⟩, tiok144, ⟨trivial, tiok146, trivial⟩⟩, tiok147, ⟨⟨trivial, tiok148, trivial⟩, tiok149, ⟨trivial, tiok150, trivial⟩⟩⟩⟩, tiok151, ⟨⟨⟨⟨⟨trivial, tiok152, trivial⟩, tiok153, trivial⟩, tiok154, ⟨trivial, tiok155, trivial⟩⟩, tiok156, ⟨⟨⟨trivial, tiok157, trivial⟩, tiok158, trivial⟩, tiok159, ⟨trivial, tiok162, trivial⟩⟩⟩, tiok163, ⟨⟨⟨⟨trivial, tiok164, trivial⟩, tiok165, trivial⟩, tiok166, ⟨trivial, tiok168, trivial⟩⟩, tiok169, ⟨⟨trivial, tiok170, trivial⟩, tiok171, ⟨trivial, tiok172, trivial⟩⟩⟩⟩⟩⟩⟩

def eqkF (t : Nat) : Option (List IntKind) :=
  if t = 43 then some [.i64, .i64] else if t = 64 then some [.i64, .u8, .i64, .i64, .i64, .i64, .i64, .i64] else if t = 140 then some [.u64, .u64] else none

theorem eqk43 (xs ys : List Int) (hx : xs.length = 2) (hy : ys.length = 2) (w : World) :
    (Op.equal 43 (.agg (mkInts [.i64, .i64] xs).toArray) (.agg (mkInts [.i64, .i64] ys).toArray)).run PR w = .ok (decide (xs = ys)) w := by
  match xs, ys, hx, hy with
  | [x0, x1], [y0, y1], _, _ =>
    rw [PR_eq]
    unfold Op.equal Op.maxDepth
    simp only [mkInts]
    rw [run_equalIn_struct w 9999 43 _ _ (by kernel_rfl) (by kernel_rfl)]
    simp [go_sem]
    repeat' split
    all_goals simp_all
theorem eqk64 (xs ys : List Int) (hx : xs.length = 8) (hy : ys.length = 8) (w : World) :
    (Op.equal 64 (.agg (mkInts [.i64, .u8, .i64, .i64, .i64, .i64, .i64, .i64] xs).toArray) (.agg (mkInts [.i64, .u8, .i64, .i64, .i64, .i64, .i64, .i64] ys).toArray)).run PR w = .ok (decide (xs = ys)) w := by
  match xs, ys, hx, hy with
  | [x0, x1, x2, x3, x4, x5, x6, x7], [y0, y1, y2, y3, y4, y5, y6, y7], _, _ =>
    rw [PR_eq]
    unfold Op.equal Op.maxDepth
    simp only [mkInts]
    rw [run_equalIn_struct w 9999 64 _ _ (by kernel_rfl) (by kernel_rfl)]
    simp [go_sem]
    repeat' split
    all_goals simp_all
theorem eqk140 (xs ys : List Int) (hx : xs.length = 2) (hy : ys.length = 2) (w : World) :
    (Op.equal 140 (.agg (mkInts [.u64, .u64] xs).toArray) (.agg (mkInts [.u64, .u64] ys).toArray)).run PR w = .ok (decide (xs = ys)) w := by
  match xs, ys, hx, hy with
  | [x0, x1], [y0, y1], _, _ =>
    rw [PR_eq]
    unfold Op.equal Op.maxDepth
    simp only [mkInts]
    rw [run_equalIn_struct w 9999 140 _ _ (by kernel_rfl) (by kernel_rfl)]
    simp [go_sem]
    repeat' split
    all_goals simp_all

def TB : Tbl := ⟨tyTree.find, eqkF⟩

theorem tb_ok : TblOk PR TB where
  ty t i h := TTree.find_all tyTree tyTree_ok h
  eqk t ks h := by
    simp only [TB, eqkF] at h
    repeat' split at h
    · rename_i e; subst e; cases h; exact ⟨by kernel_rfl, fun xs ys hx hy w => eqk43 xs ys hx hy w⟩
    · rename_i e; subst e; cases h; exact ⟨by kernel_rfl, fun xs ys hx hy w => eqk64 xs ys hx hy w⟩
    · rename_i e; subst e; cases h; exact ⟨by kernel_rfl, fun xs ys hx hy w => eqk140 xs ys hx hy w⟩
    · cases h

theorem ib_ok : (info TB).Ok PR := info_ok tb_ok

theorem follows_ok : PR.follows .mixedOrders = true := by kernel_rfl

end Go.SX
