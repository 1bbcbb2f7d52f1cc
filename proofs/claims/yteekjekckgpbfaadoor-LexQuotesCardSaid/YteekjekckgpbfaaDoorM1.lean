/- A part of the proof: the abstract machine, the printed functions, what they compute. -/
import Derived.Test.YteekjekckgpbfaaDoorProg
import Derived.Test.YteekjekckgpbfaaDoorM0
import Derived.Lib.Replace
import Derived.Lib.Repeat
import Derived.Lib.Bytealg
import Derived.WalkKit
import Derived.LaidEql
import Derived.Stop.Asserts
import Derived.RowKitTokens
import Derived.Lib.IfaceEq
import Derived.Shelf.LaysM
import Derived.Shelf.Strings.Replace
import Derived.Shelf.Strings.SplitShaped
import Derived.Shelf.Strings.Repeat
set_option linter.unusedVariables false
set_option linter.unusedSimpArgs false
set_option linter.defProp false
set_option linter.unnecessarySimpa false
section
set_option maxRecDepth 100000
namespace Go.Proofs.YteekjekckgpbfaaDoor.Abs
noncomputable def ti1 : TI := ⟨.func #[] #[] false, 1, 8, [.nilFunc]⟩
noncomputable def ti2 : TI := ⟨.int .i64, 1, 8, [.int .i64 0]⟩
noncomputable def ti3 : TI := ⟨.int .i64, 1, 8, [.int .i64 0]⟩
noncomputable def ti4 : TI := ⟨.bool, 1, 1, [.bool false]⟩
noncomputable def ti5 : TI := ⟨.int .u8, 1, 1, [.int .u8 0]⟩
noncomputable def ti6 : TI := ⟨.int .u8, 1, 1, [.int .u8 0]⟩
noncomputable def ti7 : TI := ⟨.struct #[⟨ "x", 2, 0, false, "", "runtime", 0⟩, ⟨ "y", 3, 1, false, "", "runtime", 8⟩, ⟨ "signed", 4, 2, false, "", "runtime", 16⟩, ⟨ "code", 6, 3, false, "", "runtime", 17⟩], 4, 24, [.int .i64 0, .int .i64 0, .bool false, .int .u8 0]⟩
noncomputable def ti8 : TI := ⟨.struct #[⟨ "x", 2, 0, false, "", "runtime", 0⟩, ⟨ "y", 3, 1, false, "", "runtime", 8⟩, ⟨ "signed", 4, 2, false, "", "runtime", 16⟩, ⟨ "code", 6, 3, false, "", "runtime", 17⟩], 4, 24, [.int .i64 0, .int .i64 0, .bool false, .int .u8 0]⟩
noncomputable def ti9 : TI := ⟨.string, 1, 16, [.string ⟨⟨[]⟩⟩]⟩
noncomputable def ti10 : TI := ⟨.string, 1, 16, [.string ⟨⟨[]⟩⟩]⟩
noncomputable def ti11 : TI := ⟨.string, 1, 16, [.string ⟨⟨[]⟩⟩]⟩
noncomputable def ti12 : TI := ⟨.int .u64, 1, 8, [.int .u64 0]⟩
noncomputable def ti13 : TI := ⟨.struct #[⟨ "msg", 9, 0, false, "", "runtime", 0⟩, ⟨ "addr", 12, 1, false, "", "runtime", 16⟩], 2, 24, [.string ⟨⟨[]⟩⟩, .int .u64 0]⟩
noncomputable def ti14 : TI := ⟨.struct #[⟨ "msg", 9, 0, false, "", "runtime", 0⟩, ⟨ "addr", 12, 1, false, "", "runtime", 16⟩], 2, 24, [.string ⟨⟨[]⟩⟩, .int .u64 0]⟩
noncomputable def ti15 : TI := ⟨.pointer 162, 1, 8, [.pointer none]⟩
noncomputable def ti16 : TI := ⟨.pointer 165, 1, 8, [.pointer none]⟩
noncomputable def ti17 : TI := ⟨.pointer 172, 1, 8, [.pointer none]⟩
noncomputable def ti18 : TI := ⟨.struct #[⟨ "typ", 17, 0, false, "", "internal/runtime/maps", 0⟩], 1, 8, [.pointer none]⟩
noncomputable def ti19 : TI := ⟨.struct #[⟨ "typ", 17, 0, false, "", "internal/runtime/maps", 0⟩], 1, 8, [.pointer none]⟩
noncomputable def ti20 : TI := ⟨.interface #[], 1, 16, [.nilIface]⟩
noncomputable def ti21 : TI := ⟨.int .i32, 1, 4, [.int .i32 0]⟩
noncomputable def ti22 : TI := ⟨.slice 39, 1, 24, [.slice none 0 0]⟩
noncomputable def ti23 : TI := ⟨.interface #[("Error", 86)], 1, 16, [.nilIface]⟩
noncomputable def ti24 : TI := ⟨.interface #[("Error", 86)], 1, 16, [.nilIface]⟩
noncomputable def ti26 : TI := ⟨.func #[9] #[22, 24] false, 1, 8, [.nilFunc]⟩
noncomputable def ti27 : TI := ⟨.int .i64, 1, 8, [.int .i64 0]⟩
noncomputable def ti28 : TI := ⟨.struct #[⟨ "Code", 27, 0, false, "", "", 0⟩, ⟨ "At", 3, 1, false, "", "", 8⟩], 2, 16, [.int .i64 0, .int .i64 0]⟩
noncomputable def ti29 : TI := ⟨.struct #[⟨ "Code", 27, 0, false, "", "", 0⟩, ⟨ "At", 3, 1, false, "", "", 8⟩], 2, 16, [.int .i64 0, .int .i64 0]⟩
noncomputable def ti31 : TI := ⟨.func #[9] #[22, 29] false, 1, 8, [.nilFunc]⟩
noncomputable def ti32 : TI := ⟨.func #[24, 29] #[4] false, 1, 8, [.nilFunc]⟩
noncomputable def ti33 : TI := ⟨.func #[22, 22] #[4] false, 1, 8, [.nilFunc]⟩
noncomputable def ti34 : TI := ⟨.func #[] #[4] false, 1, 8, [.nilFunc]⟩
noncomputable def ti35 : TI := ⟨.func #[9] #[4] false, 1, 8, [.nilFunc]⟩
noncomputable def ti36 : TI := ⟨.func #[9, 9] #[4] false, 1, 8, [.nilFunc]⟩
noncomputable def ti37 : TI := ⟨.slice 49, 1, 24, [.slice none 0 0]⟩
noncomputable def ti38 : TI := ⟨.struct #[⟨ "Kind", 3, 0, false, "", "", 0⟩, ⟨ "Text", 9, 1, false, "", "", 8⟩, ⟨ "Parts", 37, 2, false, "", "", 24⟩, ⟨ "Quoted", 4, 3, false, "", "", 48⟩, ⟨ "At", 3, 4, false, "", "", 56⟩], 5, 64, [.int .i64 0, .string ⟨⟨[]⟩⟩, .slice none 0 0, .bool false, .int .i64 0]⟩
noncomputable def ti39 : TI := ⟨.struct #[⟨ "Kind", 3, 0, false, "", "", 0⟩, ⟨ "Text", 9, 1, false, "", "", 8⟩, ⟨ "Parts", 37, 2, false, "", "", 24⟩, ⟨ "Quoted", 4, 3, false, "", "", 48⟩, ⟨ "At", 3, 4, false, "", "", 56⟩], 5, 64, [.int .i64 0, .string ⟨⟨[]⟩⟩, .slice none 0 0, .bool false, .int .i64 0]⟩
noncomputable def ti40 : TI := ⟨.slice 9, 1, 24, [.slice none 0 0]⟩
noncomputable def ti41 : TI := ⟨.slice 40, 1, 24, [.slice none 0 0]⟩
noncomputable def ti42 : TI := ⟨.func #[9] #[9] false, 1, 8, [.nilFunc]⟩
noncomputable def ti43 : TI := ⟨.array 19 3, 19, 152, [.int .i64 0, .int .i64 0, .int .i64 0, .int .i64 0, .int .i64 0, .int .i64 0, .int .i64 0, .int .i64 0, .int .i64 0, .int .i64 0, .int .i64 0, .int .i64 0, .int .i64 0, .int .i64 0, .int .i64 0, .int .i64 0, .int .i64 0, .int .i64 0, .int .i64 0]⟩
noncomputable def ti44 : TI := ⟨.func #[9, 27, 3] #[4] false, 1, 8, [.nilFunc]⟩
noncomputable def ti45 : TI := ⟨.func #[9, 3] #[9] false, 1, 8, [.nilFunc]⟩
noncomputable def ti46 : TI := ⟨.func #[9, 9, 9] #[9] false, 1, 8, [.nilFunc]⟩
noncomputable def ti47 : TI := ⟨.pointer 179, 1, 8, [.pointer none]⟩
noncomputable def ti48 : TI := ⟨.struct #[⟨ "Kind", 3, 0, false, "", "", 0⟩, ⟨ "Text", 9, 1, false, "", "", 8⟩, ⟨ "Op", 9, 2, false, "", "", 24⟩, ⟨ "Quoted", 4, 3, false, "", "", 40⟩, ⟨ "Word", 37, 4, false, "", "", 48⟩, ⟨ "Body", 47, 5, false, "", "", 72⟩], 6, 80, [.int .i64 0, .string ⟨⟨[]⟩⟩, .string ⟨⟨[]⟩⟩, .bool false, .slice none 0 0, .pointer none]⟩
noncomputable def ti49 : TI := ⟨.struct #[⟨ "Kind", 3, 0, false, "", "", 0⟩, ⟨ "Text", 9, 1, false, "", "", 8⟩, ⟨ "Op", 9, 2, false, "", "", 24⟩, ⟨ "Quoted", 4, 3, false, "", "", 40⟩, ⟨ "Word", 37, 4, false, "", "", 48⟩, ⟨ "Body", 47, 5, false, "", "", 72⟩], 6, 80, [.int .i64 0, .string ⟨⟨[]⟩⟩, .string ⟨⟨[]⟩⟩, .bool false, .slice none 0 0, .pointer none]⟩
noncomputable def ti50 : TI := ⟨.func #[40] #[4] false, 1, 8, [.nilFunc]⟩
noncomputable def ti51 : TI := ⟨.pointer 52, 1, 8, [.pointer none]⟩
noncomputable def ti52 : TI := ⟨.struct #[⟨ "Code", 27, 0, false, "", "", 0⟩, ⟨ "At", 3, 1, false, "", "", 8⟩], 2, 16, [.int .i64 0, .int .i64 0]⟩
noncomputable def ti54 : TI := ⟨.pointer 57, 1, 8, [.pointer none]⟩
noncomputable def ti55 : TI := ⟨.slice 89, 1, 24, [.slice none 0 0]⟩
noncomputable def ti56 : TI := ⟨.struct #[⟨ "s", 9, 0, false, "", "whisk/lex", 0⟩, ⟨ "at", 3, 1, false, "", "whisk/lex", 16⟩, ⟨ "tokens", 22, 2, false, "", "whisk/lex", 24⟩, ⟨ "waits", 55, 3, false, "", "whisk/lex", 48⟩], 4, 72, [.string ⟨⟨[]⟩⟩, .int .i64 0, .slice none 0 0, .slice none 0 0]⟩
noncomputable def ti57 : TI := ⟨.struct #[⟨ "s", 9, 0, false, "", "whisk/lex", 0⟩, ⟨ "at", 3, 1, false, "", "whisk/lex", 16⟩, ⟨ "tokens", 22, 2, false, "", "whisk/lex", 24⟩, ⟨ "waits", 55, 3, false, "", "whisk/lex", 48⟩], 4, 72, [.string ⟨⟨[]⟩⟩, .int .i64 0, .slice none 0 0, .slice none 0 0]⟩
noncomputable def ti58 : TI := ⟨.slice 34, 1, 24, [.slice none 0 0]⟩
noncomputable def ti59 : TI := ⟨.func #[27, 3] #[] false, 1, 8, [.nilFunc]⟩
noncomputable def ti60 : TI := ⟨.slice 3, 1, 24, [.slice none 0 0]⟩
noncomputable def ti61 : TI := ⟨.func #[9, 3, 9] #[4] false, 1, 8, [.nilFunc]⟩
noncomputable def ti63 : TI := ⟨.func #[9, 3, 9] #[9, 3] false, 1, 8, [.nilFunc]⟩
noncomputable def ti64 : TI := ⟨.func #[3] #[29] false, 1, 8, [.nilFunc]⟩
noncomputable def ti65 : TI := ⟨.pointer 39, 1, 8, [.pointer none]⟩
noncomputable def ti67 : TI := ⟨.func #[9, 3, 3, 3] #[37, 3, 29] false, 1, 8, [.nilFunc]⟩
noncomputable def ti69 : TI := ⟨.func #[37] #[9, 4, 4] false, 1, 8, [.nilFunc]⟩
noncomputable def ti70 : TI := ⟨.func #[24, 20] #[4] false, 1, 8, [.nilFunc]⟩
noncomputable def ti71 : TI := ⟨.pointer 51, 1, 8, [.pointer none]⟩
noncomputable def ti72 : TI := ⟨.func #[24, 24] #[4] false, 1, 8, [.nilFunc]⟩
noncomputable def ti73 : TI := ⟨.func #[37, 37] #[4] false, 1, 8, [.nilFunc]⟩
noncomputable def ti74 : TI := ⟨.func #[37] #[9] false, 1, 8, [.nilFunc]⟩
noncomputable def ti75 : TI := ⟨.int .u64, 1, 8, [.int .u64 0]⟩
noncomputable def ti77 : TI := ⟨.func #[75, 75] #[75, 75] false, 1, 8, [.nilFunc]⟩
noncomputable def ti78 : TI := ⟨.pointer 81, 1, 8, [.pointer none]⟩
noncomputable def ti79 : TI := ⟨.slice 5, 1, 24, [.slice none 0 0]⟩
noncomputable def ti80 : TI := ⟨.struct #[⟨ "addr", 78, 0, false, "", "strings", 0⟩, ⟨ "buf", 79, 1, false, "", "strings", 8⟩], 2, 32, [.pointer none, .slice none 0 0]⟩
noncomputable def ti81 : TI := ⟨.struct #[⟨ "addr", 78, 0, false, "", "strings", 0⟩, ⟨ "buf", 79, 1, false, "", "strings", 8⟩], 2, 32, [.pointer none, .slice none 0 0]⟩
noncomputable def ti82 : TI := ⟨.func #[3] #[] false, 1, 8, [.nilFunc]⟩
noncomputable def ti84 : TI := ⟨.func #[9] #[3, 24] false, 1, 8, [.nilFunc]⟩
noncomputable def ti85 : TI := ⟨.func #[] #[3] false, 1, 8, [.nilFunc]⟩
noncomputable def ti86 : TI := ⟨.func #[] #[9] false, 1, 8, [.nilFunc]⟩
noncomputable def ti87 : TI := ⟨.func #[9, 9, 9, 3] #[9] false, 1, 8, [.nilFunc]⟩
noncomputable def ti88 : TI := ⟨.struct #[⟨ "token", 3, 0, false, "", "whisk/lex", 0⟩, ⟨ "end", 9, 1, false, "", "whisk/lex", 8⟩], 2, 24, [.int .i64 0, .string ⟨⟨[]⟩⟩]⟩
noncomputable def ti89 : TI := ⟨.struct #[⟨ "token", 3, 0, false, "", "whisk/lex", 0⟩, ⟨ "end", 9, 1, false, "", "whisk/lex", 8⟩], 2, 24, [.int .i64 0, .string ⟨⟨[]⟩⟩]⟩
noncomputable def ti90 : TI := ⟨.func #[89] #[] false, 1, 8, [.nilFunc]⟩
noncomputable def ti92 : TI := ⟨.func #[9, 9] #[9, 9, 4] false, 1, 8, [.nilFunc]⟩
noncomputable def ti93 : TI := ⟨.func #[40, 35] #[4] false, 1, 8, [.nilFunc]⟩
noncomputable def ti94 : TI := ⟨.func #[] #[40] false, 1, 8, [.nilFunc]⟩
noncomputable def ti95 : TI := ⟨.func #[96, 3] #[37] false, 1, 8, [.nilFunc]⟩
noncomputable def ti96 : TI := ⟨.int .i64, 1, 8, [.int .i64 0]⟩
noncomputable def ti97 : TI := ⟨.func #[5, 3] #[4] false, 1, 8, [.nilFunc]⟩
noncomputable def ti99 : TI := ⟨.func #[9, 3, 3, 3] #[49, 3, 29] false, 1, 8, [.nilFunc]⟩
noncomputable def ti100 : TI := ⟨.unsafePointer, 1, 8, [.pointer none]⟩
noncomputable def ti101 : TI := ⟨.int .u64, 1, 8, [.int .u64 0]⟩
noncomputable def ti102 : TI := ⟨.struct #[⟨ "typ_", 17, 0, false, "", "internal/reflectlite", 0⟩, ⟨ "ptr", 100, 1, false, "", "internal/reflectlite", 8⟩, ⟨ "flag", 101, 2, true, "", "internal/reflectlite", 16⟩], 3, 24, [.pointer none, .pointer none, .int .u64 0]⟩
noncomputable def ti103 : TI := ⟨.struct #[⟨ "typ_", 17, 0, false, "", "internal/reflectlite", 0⟩, ⟨ "ptr", 100, 1, false, "", "internal/reflectlite", 8⟩, ⟨ "flag", 101, 2, true, "", "internal/reflectlite", 16⟩], 3, 24, [.pointer none, .pointer none, .int .u64 0]⟩
noncomputable def ti104 : TI := ⟨.func #[20] #[103] false, 1, 8, [.nilFunc]⟩
noncomputable def ti105 : TI := ⟨.interface #[("AssignableTo", 110), ("Comparable", 34), ("Elem", 107), ("Implements", 110), ("Kind", 109), ("Name", 86), ("PkgPath", 86), ("Size", 180), ("String", 86), ("internal/reflectlite.common", 166), ("internal/reflectlite.uncommon", 181)], 1, 16, [.nilIface]⟩
noncomputable def ti106 : TI := ⟨.interface #[("AssignableTo", 110), ("Comparable", 34), ("Elem", 107), ("Implements", 110), ("Kind", 109), ("Name", 86), ("PkgPath", 86), ("Size", 180), ("String", 86), ("internal/reflectlite.common", 166), ("internal/reflectlite.uncommon", 181)], 1, 16, [.nilIface]⟩
noncomputable def ti107 : TI := ⟨.func #[] #[106] false, 1, 8, [.nilFunc]⟩
noncomputable def ti108 : TI := ⟨.int .u8, 1, 1, [.int .u8 0]⟩
noncomputable def ti109 : TI := ⟨.func #[] #[108] false, 1, 8, [.nilFunc]⟩
noncomputable def ti110 : TI := ⟨.func #[106] #[4] false, 1, 8, [.nilFunc]⟩
noncomputable def ti111 : TI := ⟨.func #[24, 20, 103, 106] #[4] false, 1, 8, [.nilFunc]⟩
noncomputable def ti112 : TI := ⟨.func #[20] #[106] false, 1, 8, [.nilFunc]⟩
noncomputable def ti113 : TI := ⟨.func #[24, 24, 4] #[4] false, 1, 8, [.nilFunc]⟩
noncomputable def ti114 : TI := ⟨.array 4 9, 4, 64, [.string ⟨⟨[]⟩⟩, .string ⟨⟨[]⟩⟩, .string ⟨⟨[]⟩⟩, .string ⟨⟨[]⟩⟩]⟩
noncomputable def ti115 : TI := ⟨.int .u32, 1, 4, [.int .u32 0]⟩
noncomputable def ti117 : TI := ⟨.func #[115, 115] #[115, 115] false, 1, 8, [.nilFunc]⟩
noncomputable def ti118 : TI := ⟨.int .u64, 1, 8, [.int .u64 0]⟩
noncomputable def ti120 : TI := ⟨.func #[118, 118] #[118, 118] false, 1, 8, [.nilFunc]⟩
noncomputable def ti121 : TI := ⟨.pointer 5, 1, 8, [.pointer none]⟩
noncomputable def ti122 : TI := ⟨.func #[9, 9] #[3] false, 1, 8, [.nilFunc]⟩
noncomputable def ti124 : TI := ⟨.func #[9] #[21, 3] false, 1, 8, [.nilFunc]⟩
noncomputable def ti125 : TI := ⟨.func #[40, 35] #[3] false, 1, 8, [.nilFunc]⟩
noncomputable def ti126 : TI := ⟨.func #[37] #[] true, 1, 8, [.nilFunc]⟩
noncomputable def ti127 : TI := ⟨.func #[5] #[4] false, 1, 8, [.nilFunc]⟩
noncomputable def ti128 : TI := ⟨.func #[] #[5] false, 1, 8, [.nilFunc]⟩
noncomputable def ti129 : TI := ⟨.func #[9, 5] #[3] false, 1, 8, [.nilFunc]⟩
noncomputable def ti131 : TI := ⟨.func #[96, 3] #[49, 4] false, 1, 8, [.nilFunc]⟩
noncomputable def ti132 : TI := ⟨.func #[9, 5] #[4] false, 1, 8, [.nilFunc]⟩
noncomputable def ti133 : TI := ⟨.func #[9, 3] #[3] false, 1, 8, [.nilFunc]⟩
noncomputable def ti134 : TI := ⟨.func #[9, 3, 9] #[3] false, 1, 8, [.nilFunc]⟩
noncomputable def ti135 : TI := ⟨.struct #[⟨ "Type", 17, 0, true, "", "", 0⟩], 1, 8, [.pointer none]⟩
noncomputable def ti136 : TI := ⟨.struct #[⟨ "Type", 17, 0, true, "", "", 0⟩], 1, 8, [.pointer none]⟩
noncomputable def ti137 : TI := ⟨.pointer 183, 1, 8, [.pointer none]⟩
noncomputable def ti138 : TI := ⟨.func #[] #[103] false, 1, 8, [.nilFunc]⟩
noncomputable def ti139 : TI := ⟨.func #[103] #[] false, 1, 8, [.nilFunc]⟩
noncomputable def ti140 : TI := ⟨.interface #[("As", 142)], 1, 16, [.nilIface]⟩
noncomputable def ti142 : TI := ⟨.func #[20] #[4] false, 1, 8, [.nilFunc]⟩
noncomputable def ti143 : TI := ⟨.interface #[("Unwrap", 144)], 1, 16, [.nilIface]⟩
noncomputable def ti144 : TI := ⟨.func #[] #[24] false, 1, 8, [.nilFunc]⟩
noncomputable def ti145 : TI := ⟨.interface #[("Unwrap", 147)], 1, 16, [.nilIface]⟩
noncomputable def ti146 : TI := ⟨.slice 24, 1, 24, [.slice none 0 0]⟩
noncomputable def ti147 : TI := ⟨.func #[] #[146] false, 1, 8, [.nilFunc]⟩
noncomputable def ti148 : TI := ⟨.interface #[("Is", 150)], 1, 16, [.nilIface]⟩
noncomputable def ti150 : TI := ⟨.func #[24] #[4] false, 1, 8, [.nilFunc]⟩
noncomputable def ti151 : TI := ⟨.func #[100] #[100] false, 1, 8, [.nilFunc]⟩
noncomputable def ti152 : TI := ⟨.func #[3] #[79] false, 1, 8, [.nilFunc]⟩
noncomputable def ti153 : TI := ⟨.func #[9] #[3] false, 1, 8, [.nilFunc]⟩
noncomputable def ti154 : TI := ⟨.func #[3, 96, 3] #[49] false, 1, 8, [.nilFunc]⟩
noncomputable def ti155 : TI := ⟨.func #[3] #[3] false, 1, 8, [.nilFunc]⟩
noncomputable def ti156 : TI := ⟨.array 256 5, 256, 256, [.int .u8 0, .int .u8 0, .int .u8 0, .int .u8 0, .int .u8 0, .int .u8 0, .int .u8 0, .int .u8 0, .int .u8 0, .int .u8 0, .int .u8 0, .int .u8 0, .int .u8 0, .int .u8 0, .int .u8 0, .int .u8 0, .int .u8 0, .int .u8 0, .int .u8 0, .int .u8 0, .int .u8 0, .int .u8 0, .int .u8 0, .int .u8 0, .int .u8 0, .int .u8 0, .int .u8 0, .int .u8 0, .int .u8 0, .int .u8 0, .int .u8 0, .int .u8 0, .int .u8 0, .int .u8 0, .int .u8 0, .int .u8 0, .int .u8 0, .int .u8 0, .int .u8 0, .int .u8 0, .int .u8 0, .int .u8 0, .int .u8 0, .int .u8 0, .int .u8 0, .int .u8 0, .int .u8 0, .int .u8 0, .int .u8 0, .int .u8 0, .int .u8 0, .int .u8 0, .int .u8 0, .int .u8 0, .int .u8 0, .int .u8 0, .int .u8 0, .int .u8 0, .int .u8 0, .int .u8 0, .int .u8 0, .int .u8 0, .int .u8 0, .int .u8 0, .int .u8 0, .int .u8 0, .int .u8 0, .int .u8 0, .int .u8 0, .int .u8 0, .int .u8 0, .int .u8 0, .int .u8 0, .int .u8 0, .int .u8 0, .int .u8 0, .int .u8 0, .int .u8 0, .int .u8 0, .int .u8 0, .int .u8 0, .int .u8 0, .int .u8 0, .int .u8 0, .int .u8 0, .int .u8 0, .int .u8 0, .int .u8 0, .int .u8 0, .int .u8 0, .int .u8 0, .int .u8 0, .int .u8 0, .int .u8 0, .int .u8 0, .int .u8 0, .int .u8 0, .int .u8 0, .int .u8 0, .int .u8 0, .int .u8 0, .int .u8 0, .int .u8 0, .int .u8 0, .int .u8 0, .int .u8 0, .int .u8 0, .int .u8 0, .int .u8 0, .int .u8 0, .int .u8 0, .int .u8 0, .int .u8 0, .int .u8 0, .int .u8 0, .int .u8 0, .int .u8 0, .int .u8 0, .int .u8 0, .int .u8 0, .int .u8 0, .int .u8 0, .int .u8 0, .int .u8 0, .int .u8 0, .int .u8 0, .int .u8 0, .int .u8 0, .int .u8 0, .int .u8 0, .int .u8 0, .int .u8 0, .int .u8 0, .int .u8 0, .int .u8 0, .int .u8 0, .int .u8 0, .int .u8 0, .int .u8 0, .int .u8 0, .int .u8 0, .int .u8 0, .int .u8 0, .int .u8 0, .int .u8 0, .int .u8 0, .int .u8 0, .int .u8 0, .int .u8 0, .int .u8 0, .int .u8 0, .int .u8 0, .int .u8 0, .int .u8 0, .int .u8 0, .int .u8 0, .int .u8 0, .int .u8 0, .int .u8 0, .int .u8 0, .int .u8 0, .int .u8 0, .int .u8 0, .int .u8 0, .int .u8 0, .int .u8 0, .int .u8 0, .int .u8 0, .int .u8 0, .int .u8 0, .int .u8 0, .int .u8 0, .int .u8 0, .int .u8 0, .int .u8 0, .int .u8 0, .int .u8 0, .int .u8 0, .int .u8 0, .int .u8 0, .int .u8 0, .int .u8 0, .int .u8 0, .int .u8 0, .int .u8 0, .int .u8 0, .int .u8 0, .int .u8 0, .int .u8 0, .int .u8 0, .int .u8 0, .int .u8 0, .int .u8 0, .int .u8 0, .int .u8 0, .int .u8 0, .int .u8 0, .int .u8 0, .int .u8 0, .int .u8 0, .int .u8 0, .int .u8 0, .int .u8 0, .int .u8 0, .int .u8 0, .int .u8 0, .int .u8 0, .int .u8 0, .int .u8 0, .int .u8 0, .int .u8 0, .int .u8 0, .int .u8 0, .int .u8 0, .int .u8 0, .int .u8 0, .int .u8 0, .int .u8 0, .int .u8 0, .int .u8 0, .int .u8 0, .int .u8 0, .int .u8 0, .int .u8 0, .int .u8 0, .int .u8 0, .int .u8 0, .int .u8 0, .int .u8 0, .int .u8 0, .int .u8 0, .int .u8 0, .int .u8 0, .int .u8 0, .int .u8 0, .int .u8 0, .int .u8 0, .int .u8 0, .int .u8 0, .int .u8 0, .int .u8 0, .int .u8 0, .int .u8 0, .int .u8 0, .int .u8 0, .int .u8 0, .int .u8 0, .int .u8 0, .int .u8 0, .int .u8 0, .int .u8 0, .int .u8 0, .int .u8 0, .int .u8 0, .int .u8 0, .int .u8 0]⟩
noncomputable def ti157 : TI := ⟨.struct #[⟨ "lo", 5, 0, false, "", "unicode/utf8", 0⟩, ⟨ "hi", 5, 1, false, "", "unicode/utf8", 1⟩], 2, 2, [.int .u8 0, .int .u8 0]⟩
noncomputable def ti158 : TI := ⟨.struct #[⟨ "lo", 5, 0, false, "", "unicode/utf8", 0⟩, ⟨ "hi", 5, 1, false, "", "unicode/utf8", 1⟩], 2, 2, [.int .u8 0, .int .u8 0]⟩
noncomputable def ti159 : TI := ⟨.array 16 158, 32, 32, [.int .u8 0, .int .u8 0, .int .u8 0, .int .u8 0, .int .u8 0, .int .u8 0, .int .u8 0, .int .u8 0, .int .u8 0, .int .u8 0, .int .u8 0, .int .u8 0, .int .u8 0, .int .u8 0, .int .u8 0, .int .u8 0, .int .u8 0, .int .u8 0, .int .u8 0, .int .u8 0, .int .u8 0, .int .u8 0, .int .u8 0, .int .u8 0, .int .u8 0, .int .u8 0, .int .u8 0, .int .u8 0, .int .u8 0, .int .u8 0, .int .u8 0, .int .u8 0]⟩
noncomputable def ti160 : TI := ⟨.func #[9] #[115, 115] false, 1, 8, [.nilFunc]⟩
noncomputable def ti161 : TI := ⟨.struct #[⟨ "_interface", 17, 0, false, "", "runtime", 0⟩, ⟨ "concrete", 17, 1, false, "", "runtime", 8⟩, ⟨ "asserted", 17, 2, false, "", "runtime", 16⟩, ⟨ "missingMethod", 9, 3, false, "", "runtime", 24⟩], 4, 40, [.pointer none, .pointer none, .pointer none, .string ⟨⟨[]⟩⟩]⟩
noncomputable def ti162 : TI := ⟨.struct #[⟨ "_interface", 17, 0, false, "", "runtime", 0⟩, ⟨ "concrete", 17, 1, false, "", "runtime", 8⟩, ⟨ "asserted", 17, 2, false, "", "runtime", 16⟩, ⟨ "missingMethod", 9, 3, false, "", "runtime", 24⟩], 4, 40, [.pointer none, .pointer none, .pointer none, .string ⟨⟨[]⟩⟩]⟩
noncomputable def ti163 : TI := ⟨.array 0 16, 0, 0, []⟩
noncomputable def ti164 : TI := ⟨.struct #[⟨ "_", 163, 0, false, "", "runtime", 0⟩], 0, 0, []⟩
noncomputable def ti165 : TI := ⟨.struct #[⟨ "_", 163, 0, false, "", "runtime", 0⟩], 0, 0, []⟩
noncomputable def ti166 : TI := ⟨.func #[] #[17] false, 1, 8, [.nilFunc]⟩
noncomputable def ti167 : TI := ⟨.int .u8, 1, 1, [.int .u8 0]⟩
noncomputable def ti168 : TI := ⟨.func #[100, 100] #[4] false, 1, 8, [.nilFunc]⟩
noncomputable def ti169 : TI := ⟨.int .i32, 1, 4, [.int .i32 0]⟩
noncomputable def ti170 : TI := ⟨.int .i32, 1, 4, [.int .i32 0]⟩
noncomputable def ti171 : TI := ⟨.struct #[⟨ "Size_", 12, 0, false, "", "", 0⟩, ⟨ "PtrBytes", 12, 1, false, "", "", 8⟩, ⟨ "Hash", 115, 2, false, "", "", 16⟩, ⟨ "TFlag", 167, 3, false, "", "", 20⟩, ⟨ "Align_", 5, 4, false, "", "", 21⟩, ⟨ "FieldAlign_", 5, 5, false, "", "", 22⟩, ⟨ "Kind_", 108, 6, false, "", "", 23⟩, ⟨ "Equal", 168, 7, false, "", "", 24⟩, ⟨ "GCData", 121, 8, false, "", "", 32⟩, ⟨ "Str", 169, 9, false, "", "", 40⟩, ⟨ "PtrToThis", 170, 10, false, "", "", 44⟩], 11, 48, [.int .u64 0, .int .u64 0, .int .u32 0, .int .u8 0, .int .u8 0, .int .u8 0, .int .u8 0, .nilFunc, .pointer none, .int .i32 0, .int .i32 0]⟩
noncomputable def ti172 : TI := ⟨.struct #[⟨ "Size_", 12, 0, false, "", "", 0⟩, ⟨ "PtrBytes", 12, 1, false, "", "", 8⟩, ⟨ "Hash", 115, 2, false, "", "", 16⟩, ⟨ "TFlag", 167, 3, false, "", "", 20⟩, ⟨ "Align_", 5, 4, false, "", "", 21⟩, ⟨ "FieldAlign_", 5, 5, false, "", "", 22⟩, ⟨ "Kind_", 108, 6, false, "", "", 23⟩, ⟨ "Equal", 168, 7, false, "", "", 24⟩, ⟨ "GCData", 121, 8, false, "", "", 32⟩, ⟨ "Str", 169, 9, false, "", "", 40⟩, ⟨ "PtrToThis", 170, 10, false, "", "", 44⟩], 11, 48, [.int .u64 0, .int .u64 0, .int .u32 0, .int .u8 0, .int .u8 0, .int .u8 0, .int .u8 0, .nilFunc, .pointer none, .int .i32 0, .int .i32 0]⟩
noncomputable def ti173 : TI := ⟨.slice 184, 1, 24, [.slice none 0 0]⟩
noncomputable def ti174 : TI := ⟨.slice 186, 1, 24, [.slice none 0 0]⟩
noncomputable def ti175 : TI := ⟨.slice 188, 1, 24, [.slice none 0 0]⟩
noncomputable def ti176 : TI := ⟨.slice 47, 1, 24, [.slice none 0 0]⟩
noncomputable def ti177 : TI := ⟨.slice 190, 1, 24, [.slice none 0 0]⟩
noncomputable def ti178 : TI := ⟨.struct #[⟨ "Kind", 3, 0, false, "", "", 0⟩, ⟨ "Name", 9, 1, false, "", "", 8⟩, ⟨ "Not", 4, 2, false, "", "", 24⟩, ⟨ "Words", 173, 3, false, "", "", 32⟩, ⟨ "Assigns", 174, 4, false, "", "", 56⟩, ⟨ "Redirs", 175, 5, false, "", "", 80⟩, ⟨ "Kids", 176, 6, false, "", "", 104⟩, ⟨ "Cases", 177, 7, false, "", "", 128⟩, ⟨ "In", 4, 8, false, "", "", 152⟩], 9, 160, [.int .i64 0, .string ⟨⟨[]⟩⟩, .bool false, .slice none 0 0, .slice none 0 0, .slice none 0 0, .slice none 0 0, .slice none 0 0, .bool false]⟩
noncomputable def ti179 : TI := ⟨.struct #[⟨ "Kind", 3, 0, false, "", "", 0⟩, ⟨ "Name", 9, 1, false, "", "", 8⟩, ⟨ "Not", 4, 2, false, "", "", 24⟩, ⟨ "Words", 173, 3, false, "", "", 32⟩, ⟨ "Assigns", 174, 4, false, "", "", 56⟩, ⟨ "Redirs", 175, 5, false, "", "", 80⟩, ⟨ "Kids", 176, 6, false, "", "", 104⟩, ⟨ "Cases", 177, 7, false, "", "", 128⟩, ⟨ "In", 4, 8, false, "", "", 152⟩], 9, 160, [.int .i64 0, .string ⟨⟨[]⟩⟩, .bool false, .slice none 0 0, .slice none 0 0, .slice none 0 0, .slice none 0 0, .slice none 0 0, .bool false]⟩
noncomputable def ti180 : TI := ⟨.func #[] #[12] false, 1, 8, [.nilFunc]⟩
noncomputable def ti181 : TI := ⟨.func #[] #[191] false, 1, 8, [.nilFunc]⟩
noncomputable def ti182 : TI := ⟨.struct #[⟨ "Method", 9, 0, false, "", "", 0⟩, ⟨ "Kind", 108, 1, false, "", "", 16⟩], 2, 24, [.string ⟨⟨[]⟩⟩, .int .u8 0]⟩
noncomputable def ti183 : TI := ⟨.struct #[⟨ "Method", 9, 0, false, "", "", 0⟩, ⟨ "Kind", 108, 1, false, "", "", 16⟩], 2, 24, [.string ⟨⟨[]⟩⟩, .int .u8 0]⟩
noncomputable def ti184 : TI := ⟨.slice 49, 1, 24, [.slice none 0 0]⟩
noncomputable def ti185 : TI := ⟨.struct #[⟨ "Name", 9, 0, false, "", "", 0⟩, ⟨ "Word", 184, 1, false, "", "", 16⟩], 2, 40, [.string ⟨⟨[]⟩⟩, .slice none 0 0]⟩
noncomputable def ti186 : TI := ⟨.struct #[⟨ "Name", 9, 0, false, "", "", 0⟩, ⟨ "Word", 184, 1, false, "", "", 16⟩], 2, 40, [.string ⟨⟨[]⟩⟩, .slice none 0 0]⟩
noncomputable def ti187 : TI := ⟨.struct #[⟨ "Fd", 3, 0, false, "", "", 0⟩, ⟨ "Op", 9, 1, false, "", "", 8⟩, ⟨ "Word", 184, 2, false, "", "", 24⟩], 3, 48, [.int .i64 0, .string ⟨⟨[]⟩⟩, .slice none 0 0]⟩
noncomputable def ti188 : TI := ⟨.struct #[⟨ "Fd", 3, 0, false, "", "", 0⟩, ⟨ "Op", 9, 1, false, "", "", 8⟩, ⟨ "Word", 184, 2, false, "", "", 24⟩], 3, 48, [.int .i64 0, .string ⟨⟨[]⟩⟩, .slice none 0 0]⟩
noncomputable def ti189 : TI := ⟨.struct #[⟨ "Words", 173, 0, false, "", "", 0⟩, ⟨ "Body", 47, 1, false, "", "", 24⟩], 2, 32, [.slice none 0 0, .pointer none]⟩
noncomputable def ti190 : TI := ⟨.struct #[⟨ "Words", 173, 0, false, "", "", 0⟩, ⟨ "Body", 47, 1, false, "", "", 24⟩], 2, 32, [.slice none 0 0, .pointer none]⟩
noncomputable def ti191 : TI := ⟨.pointer 195, 1, 8, [.pointer none]⟩
noncomputable def ti192 : TI := ⟨.func #[] #[196] false, 1, 8, [.nilFunc]⟩
noncomputable def ti193 : TI := ⟨.int .u16, 1, 2, [.int .u16 0]⟩
noncomputable def ti194 : TI := ⟨.struct #[⟨ "PkgPath", 169, 0, false, "", "", 0⟩, ⟨ "Mcount", 193, 1, false, "", "", 4⟩, ⟨ "Xcount", 193, 2, false, "", "", 6⟩, ⟨ "Moff", 115, 3, false, "", "", 8⟩, ⟨ "_", 115, 4, false, "", "internal/abi", 12⟩], 5, 16, [.int .i32 0, .int .u16 0, .int .u16 0, .int .u32 0, .int .u32 0]⟩
noncomputable def ti195 : TI := ⟨.struct #[⟨ "PkgPath", 169, 0, false, "", "", 0⟩, ⟨ "Mcount", 193, 1, false, "", "", 4⟩, ⟨ "Xcount", 193, 2, false, "", "", 6⟩, ⟨ "Moff", 115, 3, false, "", "", 8⟩, ⟨ "_", 115, 4, false, "", "internal/abi", 12⟩], 5, 16, [.int .i32 0, .int .u16 0, .int .u16 0, .int .u32 0, .int .u32 0]⟩
noncomputable def ti196 : TI := ⟨.slice 199, 1, 24, [.slice none 0 0]⟩
noncomputable def ti197 : TI := ⟨.int .i32, 1, 4, [.int .i32 0]⟩
noncomputable def ti198 : TI := ⟨.struct #[⟨ "Name", 169, 0, false, "", "", 0⟩, ⟨ "Mtyp", 170, 1, false, "", "", 4⟩, ⟨ "Ifn", 197, 2, false, "", "", 8⟩, ⟨ "Tfn", 197, 3, false, "", "", 12⟩], 4, 16, [.int .i32 0, .int .i32 0, .int .i32 0, .int .i32 0]⟩
noncomputable def ti199 : TI := ⟨.struct #[⟨ "Name", 169, 0, false, "", "", 0⟩, ⟨ "Mtyp", 170, 1, false, "", "", 4⟩, ⟨ "Ifn", 197, 2, false, "", "", 8⟩, ⟨ "Tfn", 197, 3, false, "", "", 12⟩], 4, 16, [.int .i32 0, .int .i32 0, .int .i32 0, .int .i32 0]⟩
noncomputable def ti200 : TI := ⟨.pointer 24, 1, 8, [.pointer none]⟩
noncomputable def tyT : Tr TI := (.node (.node (.node (.node (.node (.node (.node (.node .nil (some ti127) .nil) (some ti63) (.node .nil (some ti191) .nil)) (some ti31) (.node (.node .nil (some ti159) .nil) (some ti95) .nil)) (some ti15) (.node (.node (.node .nil (some ti143) .nil) (some ti79) .nil) (some ti47) (.node (.node .nil (some ti175) .nil) (some ti111) .nil))) (some ti7) (.node (.node (.node (.node .nil (some ti135) .nil) (some ti71) (.node .nil (some ti199) .nil)) (some ti39) (.node (.node .nil (some ti167) .nil) (some ti103) .nil)) (some ti23) (.node (.node (.node .nil (some ti151) .nil) (some ti87) .nil) (some ti55) (.node (.node .nil (some ti183) .nil) none .nil)))) (some ti3) (.node (.node (.node (.node (.node .nil (some ti131) .nil) (some ti67) (.node .nil (some ti195) .nil)) (some ti35) (.node (.node .nil (some ti163) .nil) (some ti99) .nil)) (some ti19) (.node (.node (.node .nil (some ti147) .nil) none .nil) (some ti51) (.node (.node .nil (some ti179) .nil) (some ti115) .nil))) (some ti11) (.node (.node (.node (.node .nil (some ti139) .nil) (some ti75) .nil) (some ti43) (.node (.node .nil (some ti171) .nil) (some ti107) .nil)) (some ti27) (.node (.node (.node .nil (some ti155) .nil) none .nil) (some ti59) (.node (.node .nil (some ti187) .nil) none .nil))))) (some ti1) (.node (.node (.node (.node (.node (.node .nil (some ti129) .nil) (some ti65) (.node .nil (some ti193) .nil)) (some ti33) (.node (.node .nil (some ti161) .nil) (some ti97) .nil)) (some ti17) (.node (.node (.node .nil (some ti145) .nil) (some ti81) .nil) (some ti49) (.node (.node .nil (some ti177) .nil) (some ti113) .nil))) (some ti9) (.node (.node (.node (.node .nil (some ti137) .nil) (some ti73) .nil) (some ti41) (.node (.node .nil (some ti169) .nil) (some ti105) .nil)) none (.node (.node (.node .nil (some ti153) .nil) (some ti89) .nil) (some ti57) (.node (.node .nil (some ti185) .nil) (some ti121) .nil)))) (some ti5) (.node (.node (.node (.node (.node .nil (some ti133) .nil) (some ti69) (.node .nil (some ti197) .nil)) (some ti37) (.node (.node .nil (some ti165) .nil) (some ti101) .nil)) (some ti21) (.node (.node .nil (some ti85) .nil) none (.node (.node .nil (some ti181) .nil) (some ti117) .nil))) (some ti13) (.node (.node (.node .nil (some ti77) .nil) (some ti45) (.node (.node .nil (some ti173) .nil) (some ti109) .nil)) (some ti29) (.node (.node (.node .nil (some ti157) .nil) (some ti93) .nil) (some ti61) (.node (.node .nil (some ti189) .nil) (some ti125) .nil)))))) none (.node (.node (.node (.node (.node (.node (.node .nil (some ti128) .nil) (some ti64) (.node .nil (some ti192) .nil)) (some ti32) (.node (.node .nil (some ti160) .nil) (some ti96) .nil)) (some ti16) (.node (.node (.node .nil (some ti144) .nil) (some ti80) .nil) (some ti48) (.node (.node .nil (some ti176) .nil) (some ti112) .nil))) (some ti8) (.node (.node (.node (.node .nil (some ti136) .nil) (some ti72) (.node .nil (some ti200) .nil)) (some ti40) (.node (.node .nil (some ti168) .nil) (some ti104) .nil)) (some ti24) (.node (.node (.node .nil (some ti152) .nil) (some ti88) .nil) (some ti56) (.node (.node .nil (some ti184) .nil) (some ti120) .nil)))) (some ti4) (.node (.node (.node (.node (.node .nil (some ti132) .nil) none (.node .nil (some ti196) .nil)) (some ti36) (.node (.node .nil (some ti164) .nil) (some ti100) .nil)) (some ti20) (.node (.node (.node .nil (some ti148) .nil) (some ti84) .nil) (some ti52) (.node (.node .nil (some ti180) .nil) none .nil))) (some ti12) (.node (.node (.node (.node .nil (some ti140) .nil) none .nil) (some ti44) (.node (.node .nil (some ti172) .nil) (some ti108) .nil)) (some ti28) (.node (.node (.node .nil (some ti156) .nil) (some ti92) .nil) (some ti60) (.node (.node .nil (some ti188) .nil) (some ti124) .nil))))) (some ti2) (.node (.node (.node (.node (.node .nil none (.node .nil (some ti194) .nil)) (some ti34) (.node (.node .nil (some ti162) .nil) none .nil)) (some ti18) (.node (.node (.node .nil (some ti146) .nil) (some ti82) .nil) (some ti50) (.node (.node .nil (some ti178) .nil) (some ti114) .nil))) (some ti10) (.node (.node (.node (.node .nil (some ti138) .nil) (some ti74) .nil) (some ti42) (.node (.node .nil (some ti170) .nil) (some ti106) .nil)) (some ti26) (.node (.node (.node .nil (some ti154) .nil) (some ti90) .nil) (some ti58) (.node (.node .nil (some ti186) .nil) (some ti122) .nil)))) (some ti6) (.node (.node (.node (.node (.node .nil (some ti134) .nil) (some ti70) (.node .nil (some ti198) .nil)) (some ti38) (.node (.node .nil (some ti166) .nil) (some ti102) .nil)) (some ti22) (.node (.node (.node .nil (some ti150) .nil) (some ti86) .nil) (some ti54) (.node (.node .nil (some ti182) .nil) (some ti118) .nil))) (some ti14) (.node (.node (.node (.node .nil (some ti142) .nil) (some ti78) .nil) (some ti46) (.node (.node .nil (some ti174) .nil) (some ti110) .nil)) none (.node (.node (.node .nil (some ti158) .nil) (some ti94) .nil) none (.node (.node .nil (some ti190) .nil) (some ti126) .nil)))))))
noncomputable def fnT : Tr Func := (.node (.node (.node (.node (.node (.node .nil none (.node .nil (some Tryd.f95) .nil)) (some Tryd.f15) (.node .nil (some Tryd.f47) .nil)) (some Tryd.f7) (.node (.node (.node .nil (some Tryd.f71) .nil) none (.node .nil (some Tryd.f103) .nil)) (some Tryd.f23) (.node (.node .nil (some Tryd.f87) .nil) none .nil))) none (.node (.node (.node (.node .nil (some Tryd.f67) .nil) (some Tryd.f35) (.node .nil (some Tryd.f99) .nil)) (some Tryd.f19) .nil) (some Tryd.f11) .nil)) none (.node (.node (.node .nil none (.node .nil (some Tryd.f49) .nil)) none (.node (.node (.node .nil (some Tryd.f73) .nil) none .nil) (some Tryd.f25) (.node (.node .nil (some Tryd.f89) .nil) none .nil))) none (.node (.node (.node (.node .nil (some Tryd.f69) .nil) none (.node .nil (some Tryd.f101) .nil)) (some Tryd.f21) (.node (.node .nil (some Tryd.f85) .nil) none .nil)) (some Tryd.f13) (.node (.node .nil (some Tryd.f45) .nil) none .nil)))) none (.node (.node (.node (.node (.node .nil none (.node .nil (some Tryd.f96) .nil)) none (.node .nil (some Tryd.f48) .nil)) (some Tryd.f8) (.node (.node (.node .nil (some Tryd.f72) .nil) none .nil) (some Tryd.f24) (.node (.node .nil (some Tryd.f88) .nil) none .nil))) none (.node (.node (.node (.node .nil (some Tryd.f68) .nil) (some Tryd.f36) (.node .nil (some Tryd.f100) .nil)) (some Tryd.f20) .nil) (some Tryd.f12) (.node (.node .nil (some Tryd.f44) .nil) none (.node .nil (some Tryd.f60) .nil)))) none (.node (.node (.node (.node (.node .nil (some Tryd.f66) .nil) (some Tryd.f34) (.node .nil (some Tryd.f98) .nil)) (some Tryd.f18) .nil) (some Tryd.f10) (.node (.node (.node .nil (some Tryd.f74) .nil) none .nil) none (.node (.node .nil (some Tryd.f90) .nil) none .nil))) (some Tryd.f6) (.node (.node (.node (.node .nil (some Tryd.f70) .nil) (some Tryd.f38) .nil) (some Tryd.f22) .nil) (some Tryd.f14) (.node (.node .nil (some Tryd.f46) .nil) none .nil)))))
end Go.Proofs.YteekjekckgpbfaaDoor.Abs
end
section
namespace Go.Proofs.YteekjekckgpbfaaDoor.Abs
def findB (c : UInt8) : List UInt8 → Int → Int
 | [], _ => -1
 | b :: r, i => bif b == c then i else findB c r (i + 1)
def primL (f : Nat) (args : List Value) (h : Heap) : Option (Value × Heap) :=
 bif f == 97 then match args with
  | [.string s, .int .u8 n] => some (.int .i64 (findB (UInt8.ofNat n.toNat) (sl s) 0), h)
  | _ => none
 else none
noncomputable def E0 : Env := ⟨fun t => tyT.get t, fun _ => none, primL, fun _ _ _ => none⟩
noncomputable def asA (x p : Value) (h : Heap) : Ans := match x, p with
 | .nilIface, _ => some (.ret (.bool false), h)
 | .iface t (.pointer (some e)), .iface u p => bif t == 51 && u == 71 then (match storeA E0 51 p (.pointer (some e)) h with
   | none => none
   | some h' => some (.ret (.bool true), h')) else none
 | _, _ => none
noncomputable def isA (x y : Value) (h : Heap) : Ans := match x, y with
 | .iface t p, .iface u (.int .i64 n) => bif t == 51 && u == 27 then (match loadA E0 27 p h with
   | some (.int .i64 m) => some (.ret (.bool (m == n)), h)
   | _ => none) else none
 | _, _ => none
def repA (x y : Value) (h : Heap) : Ans := match x, y with
 | .string s, .int .i64 n => bif decide (0 ≤ n) && decide (n ≤ 100000) && decide (slen s ≤ 100000) then some (.ret (.string (mkS (Lib.repeatL (sl s) n.toNat))), h) else none
 | _, _ => none
def replA (x y z : Value) (h : Heap) : Ans := match x, y, z with
 | .string s, .string o, .string n => bif decide (slen s ≤ 100000) && decide (1 ≤ slen o) && decide (slen n ≤ 1000) then some (.ret (.string (mkS (Lib.replaceAll (sl s) (sl o) (sl n)))), h) else none
 | _, _, _ => none
noncomputable def extL (f : Nat) (args : List Value) (h : Heap) : Ans :=
 match args with
 | [x, y] => bif f == 32 then asA x y h else bif f == 33 then isA x y h else bif f == 16 then repA x y h else none
 | [x, y, z] => bif f == 17 then replA x y z h else none
 | _ => none
noncomputable def E : Env := ⟨fun t => tyT.get t, fun f => fnT.get f, primL, extL⟩
set_option linter.defProp false in
def execK_all := And.intro (And.intro @execK_seq @execK_cond) (And.intro @execK_block @execK_loop)
end Go.Proofs.YteekjekckgpbfaaDoor.Abs
end
section
namespace Go.Proofs.YteekjekckgpbfaaDoor.Abs
open Go.RowKit (Below)
theorem findB_eq (c : UInt8) : ∀ (l : List UInt8) (i : Int), findB c l i = if Lib.indexByte l c = -1 then -1 else Lib.indexByte l c + i := by
 intro l
 induction l with
 | nil => intro i; simp [findB, Lib.indexByte]
 | cons b l ih =>
  intro i
  have hge := Lib.indexByte_ge l c
  simp only [findB, Lib.indexByte]
  by_cases hb : b = c
  ·simp [hb]
  ·have hb' : (b == c) = false := by simpa using hb
   simp only [hb', cond_false, ih, Bool.false_eq_true, if_false, beq_iff_eq]
   by_cases h1 : Lib.indexByte l c = -1
   ·simp [h1]
   ·simp only [h1, if_false]
    rw [if_neg (by omega)]
    omega
theorem run97 (s : ByteArray) (n : Int) (w : World) : (callFunc 97 ⟨[.string s, .int .u8 n]⟩).run Tryd.prog w = .ok (.value (.int .i64 (Lib.indexByte s.data.toList n.toNat.toUInt8))) w := by
 rw [run_callFunc_extern Tryd.func97 (by kernel_rfl) (by kernel_rfl) (by kernel_rfl) (e := Extern.BytealgIndexByte.indexByte) (by kernel_rfl)]
 have := Lib.run_indexByteString (P := Tryd.prog) s n w
 simp only [show (⟨[.string s, .int .u8 n]⟩ : Array Value) = #[.string s, .int .u8 n] from rfl, this, Result.andThen_ok]
theorem prim_ok {B : Nat} {w0 : World} : ∀ g args h v h', primL g args h = some (v, h') → ∀ σ w args', VRL Tryd.prog σ args args' → HR Tryd.prog B w0 σ h w →
  ∃ σ' w' v', (callFunc g ⟨args'⟩).run Tryd.prog w = .ok (.value v') w' ∧ σ.le σ' ∧ HR Tryd.prog B w0 σ' h' w' ∧ VR Tryd.prog σ' v v' := by
 intro g args h v h' e σ w args' ha H
 unfold primL at e
 by_cases hg : g = 97
 ·subst hg
  simp only [beq_self_eq_true, cond_true] at e
  split at e
  ·rename_i s n
   simp only [Option.some.injEq, Prod.mk.injEq] at e
   obtain ⟨rfl, rfl⟩ := e
   cases ha with
   | cons _ a' _ l' h1 h2 =>
    cases h1
    cases h2 with
    | cons _ b' _ l'' h3 h4 =>
     cases h3
     cases h4
     refine ⟨σ, w, _, run97 s n w, Sg.le.refl σ, H, ?_⟩
     have e1 : findB (UInt8.ofNat n.toNat) (sl s) 0 = Lib.indexByte s.data.toList n.toNat.toUInt8 := by
      rw [findB_eq]
      show (if Lib.indexByte s.data.toList n.toNat.toUInt8 = -1 then -1 else Lib.indexByte s.data.toList n.toNat.toUInt8 + 0) = _
      split <;> omega
     rw [e1]
     exact .int _ _
  ·cases e
 ·have : (g == 97) = false := by simpa using hg
  simp [this] at e
end Go.Proofs.YteekjekckgpbfaaDoor.Abs
end
section
namespace Go.Proofs.YteekjekckgpbfaaDoor
open Go.RowKit Go.Extern.Stop Go.Stop Go.Extern
theorem as_nil (t : Value) (w : World) :
  Calls Tryd.prog 32 #[.nilIface, t] w fun e w' => e = .returned (.bool false) ∧ w' = w := by
 go_enter Tryd.func32, Tryd.ntmps32
 go_wp2
 go_ret
 exact ⟨rfl, rfl⟩
theorem As.valueOf27 (t : Addr) (w : World) : (ReflectliteValue.unpack (.iface 71 (.pointer (some t)))).run Tryd.prog w
  = .ok (.agg #[.pointer (some ⟨4, 71, none⟩), .pointer (some ⟨w.heap.size, 0, none⟩), .int .u64 150]) (w.alloc (.cells #[.pointer (some t)] 71)) := by kernel_rfl
theorem As.type27 (a : Addr) (w : World) : (ReflectliteValue.methodAny (ReflectliteValue.valueError "reflectlite.Value.Type" 0) (fun t _ _ _ => ReflectliteType.toType t) #[.agg #[.pointer (some ⟨4, 71, none⟩), .pointer (some a), .int .u64 150]]).run Tryd.prog w
  = .ok (.iface 136 (.agg #[.pointer (some ⟨4, 71, none⟩)])) w := by kernel_rfl
theorem As.methodKind (h : Value) (w : World) : (Go.method 301 136 (.agg #[h]) "Kind").run Tryd.prog w = .ok (118, h) w := by kernel_rfl
theorem As.kind27 (w : World) : ((ReflectliteType.abiMethod fun t => (fun a : Nat => Value.int IntKind.u8 (a : Int)) <$> Rtype.kind t) #[.pointer (some ⟨4, 71, none⟩)]).run Tryd.prog w = .ok (.int .u8 22) w := by kernel_rfl
theorem As.kind25 (w : World) : ((ReflectliteType.abiMethod fun t => (fun a : Nat => Value.int IntKind.u8 (a : Int)) <$> Rtype.kind t) #[.pointer (some ⟨4, 51, none⟩)]).run Tryd.prog w = .ok (.int .u8 22) w := by kernel_rfl
theorem rlm (z : Sem Value) (f : TypeId → Addr → Nat → Nat → Sem Value) (v : Value) :
  ReflectliteValue.method z f #[v] = (do match ← ReflectliteValue.parts v with | none => z | some (t, a, fl) => f t a fl (fl % 32)) := rfl
theorem As.parts27 (a : Addr) (w : World) : (ReflectliteValue.parts (.agg #[.pointer (some ⟨4, 71, none⟩), .pointer (some a), .int .u64 150])).run Tryd.prog w = .ok (some (71, a, 150)) w := by kernel_rfl
theorem As.isNil27 (a p : Addr) (W : World) (ha : W.cell? a = some (.pointer (some p))) :
  (ReflectliteValue.method (ReflectliteValue.valueError "reflectlite.Value.IsNil" 0) ReflectliteValue.isNil #[.agg #[.pointer (some ⟨4, 71, none⟩), .pointer (some a), .int .u64 150]]).run Tryd.prog W = .ok (.bool false) W := by
 rw [rlm]
 simp only [Sem.run_bind, As.parts27, Result.andThen]
 simp [ReflectliteValue.isNil, loadVar, isAgg, underlying, Tryd.underlying71, ha, Result.andThen]
theorem As.methodElem (h : Value) (w : World) : (Go.method 301 136 (.agg #[h]) "Elem").run Tryd.prog w = .ok (131, .agg #[h]) w := by kernel_rfl
theorem As.methodImplements (h : Value) (w : World) : (Go.method 301 136 (.agg #[h]) "Implements").run Tryd.prog w = .ok (132, .agg #[h]) w := by kernel_rfl
theorem As.methodAssignableTo (h : Value) (w : World) : (Go.method 301 136 (.agg #[h]) "AssignableTo").run Tryd.prog w = .ok (129, .agg #[h]) w := by kernel_rfl
theorem As.elem27 (w : World) : (ReflectliteType.method ReflectliteType.elem #[.agg #[.pointer (some ⟨4, 71, none⟩)]]).run Tryd.prog w = .ok (.iface 136 (.agg #[.pointer (some ⟨4, 51, none⟩)])) w := by kernel_rfl
theorem As.implements25 (w : World) : (ReflectliteType.relation "Implements" ReflectliteType.implements_ #[.agg #[.pointer (some ⟨4, 51, none⟩)], .iface 136 (.agg #[.pointer (some ⟨4, 24, none⟩)])]).run Tryd.prog w = .ok (.bool true) w := by kernel_rfl
theorem As.typeOf25 (v : Value) (w : World) : (ReflectliteType.typeOf #[.iface 51 v]).run Tryd.prog w = .ok (.iface 136 (.agg #[.pointer (some ⟨4, 51, none⟩)])) w := by kernel_rfl
theorem As.assignable25 (w : World) : (ReflectliteType.relation "AssignableTo" ReflectliteType.assignableTo #[.agg #[.pointer (some ⟨4, 51, none⟩)], .iface 136 (.agg #[.pointer (some ⟨4, 51, none⟩)])]).run Tryd.prog w = .ok (.bool true) w := by kernel_rfl
theorem As.valueOf25 (e : Addr) (w : World) : (ReflectliteValue.unpack (.iface 51 (.pointer (some e)))).run Tryd.prog w
  = .ok (.agg #[.pointer (some ⟨4, 51, none⟩), .pointer (some ⟨w.heap.size, 0, none⟩), .int .u64 150]) (w.alloc (.cells #[.pointer (some e)] 51)) := by kernel_rfl
theorem As.elemOf27 (w : World) : (Rtype.elem? 71).run Tryd.prog w = .ok (some 51) w := by kernel_rfl
theorem As.mk25 (p : Addr) (w : World) : (ReflectliteValue.mk 51 p ReflectliteValue.flagAddr).run Tryd.prog w = .ok (.agg #[.pointer (some ⟨4, 51, none⟩), .pointer (some p), .int .u64 406]) w := by kernel_rfl
theorem As.elemV27 (a p : Addr) (W : World) (ha : W.cell? a = some (.pointer (some p))) :
  (ReflectliteValue.method (ReflectliteValue.valueError "reflectlite.Value.Elem" 0) ReflectliteValue.elem #[.agg #[.pointer (some ⟨4, 71, none⟩), .pointer (some a), .int .u64 150]]).run Tryd.prog W
   = .ok (.agg #[.pointer (some ⟨4, 51, none⟩), .pointer (some p), .int .u64 406]) W := by
 rw [rlm]
 simp only [Sem.run_bind, As.parts27, Result.andThen]
 simp [ReflectliteValue.elem, loadVar, isAgg, underlying, Tryd.underlying71, ha, Result.andThen, As.elemOf27, As.mk25]
theorem rls (v x : Value) : ReflectliteValue.set #[v, x] = (do
  let (some (dst, a, fl), some (src, b, _)) := (← ReflectliteValue.parts v, ← ReflectliteValue.parts x)
   | unsupported (.noEntry "extern/(internal/reflectlite.Value).Set.zeroValue")
  if fl / ReflectliteValue.flagAddr % 2 == 0 then unsupported (.noEntry "extern/(internal/reflectlite.Value).Set.unaddressable")
  let val ← loadVar src b
  if ← Rtype.directlyAssignable dst src then storeVar dst a val
  else if ← Rtype.implements dst src then
   if (← Rtype.kind src) == 20 then
    match val with
    | .nilIface => unsupported (.noEntry "extern/reflectlite: a nil value of one interface type handed on as a value of another")
    | _ => storeVar dst a val
   else storeVar dst a (.iface src val)
  else panicString ("reflectlite.Set: value of type " ++ (← Rtype.spelt src) ++ " is not assignable to type " ++ (← Rtype.spelt dst))
  pure (.tuple #[])) := rfl
theorem As.parts25a (a : Addr) (w : World) : (ReflectliteValue.parts (.agg #[.pointer (some ⟨4, 51, none⟩), .pointer (some a), .int .u64 406])).run Tryd.prog w = .ok (some (51, a, 406)) w := by kernel_rfl
theorem As.parts25 (a : Addr) (w : World) : (ReflectliteValue.parts (.agg #[.pointer (some ⟨4, 51, none⟩), .pointer (some a), .int .u64 150])).run Tryd.prog w = .ok (some (51, a, 150)) w := by kernel_rfl
theorem As.direct25 (w : World) : (Rtype.directlyAssignable 51 51).run Tryd.prog w = .ok true w := by kernel_rfl
theorem As.size25 (w : World) : (sizeOf 51).run Tryd.prog w = .ok 1 w := by kernel_rfl
theorem As.set25 (ta b e : Addr) (old : Value) (W : World) (hb : W.cell? b = some (.pointer (some e))) (ht : W.cell? ta = some old) (hf : W.frozen? ta = false) :
  (ReflectliteValue.set #[.agg #[.pointer (some ⟨4, 51, none⟩), .pointer (some ta), .int .u64 406], .agg #[.pointer (some ⟨4, 51, none⟩), .pointer (some b), .int .u64 150]]).run Tryd.prog W
   = .ok (.tuple #[]) (W.setCell ta (.pointer (some e))) := by
 rw [rls]
 simp only [Sem.run_bind, As.parts25a, As.parts25, Result.andThen]
 simp [ReflectliteValue.flagAddr, loadVar, isAgg, underlying, Tryd.underlying51, hb, Result.andThen, As.direct25, storeVar, Value.cells, storeCells, Addr.add]
 rw [run_store Tryd.prog W ta _ _ (by rfl)]
 simp [ht, hf]
set_option maxHeartbeats 4000000 in
theorem as_hit (e t : Addr) (old : Value) (w : World) (hg : w.cell? ⟨0, 0, none⟩ = some (.iface 136 (.agg #[.pointer (some ⟨4, 24, none⟩)]))) (ht0 : w.cell? t = some old) (hf0 : w.frozen? t = false) :
  Calls Tryd.prog 32 #[.iface 51 (.pointer (some e)), .iface 71 (.pointer (some t))] w fun ev w' => ev = .returned (.bool true) ∧ w' = ((((w.alloc (.cells #[.pointer (some t)] 71)).alloc (.cells #[.pointer (some ⟨4, 71, none⟩), .pointer (some ⟨w.heap.size, 0, none⟩), .int .u64 150] 103)).alloc (.cells #[.pointer (some ⟨4, 71, none⟩), .pointer (some ⟨w.heap.size, 0, none⟩), .int .u64 150] 103)).alloc (.cells #[.pointer (some e)] 51)).setCell t (.pointer (some e)) := by
 have h6 := @run_callFunc_extern Tryd.prog 52 _ (fun args => ReflectliteValue.unpack (args.getD 0 (.tuple #[]))) Tryd.func52 (by kernel_rfl) (by kernel_rfl) (by kernel_rfl) (by kernel_rfl)
 have h7 := @run_callFunc_extern Tryd.prog 53 _ (ReflectliteValue.methodAny (ReflectliteValue.valueError "reflectlite.Value.Type" 0) (fun t _ _ _ => ReflectliteType.toType t)) Tryd.func53 (by kernel_rfl) (by kernel_rfl) (by kernel_rfl) (by kernel_rfl)
 have h8 := @run_callFunc_extern Tryd.prog 54 _ (ReflectliteValue.method (ReflectliteValue.valueError "reflectlite.Value.IsNil" 0) ReflectliteValue.isNil) Tryd.func54 (by kernel_rfl) (by kernel_rfl) (by kernel_rfl) (by kernel_rfl)
 have h27 := @run_callFunc_extern Tryd.prog 118 _ (ReflectliteType.abiMethod fun t => do pure (.int .u8 (← Rtype.kind t))) Tryd.func118 (by kernel_rfl) (by kernel_rfl) (by kernel_rfl) (by kernel_rfl)
 have h37 := @run_callFunc_extern Tryd.prog 131 _ (ReflectliteType.method ReflectliteType.elem) Tryd.func131 (by kernel_rfl) (by kernel_rfl) (by kernel_rfl) (by kernel_rfl)
 have h38 := @run_callFunc_extern Tryd.prog 132 _ (ReflectliteType.relation "Implements" ReflectliteType.implements_) Tryd.func132 (by kernel_rfl) (by kernel_rfl) (by kernel_rfl) (by kernel_rfl)
 have h10 := @run_callFunc_extern Tryd.prog 56 _ ReflectliteType.typeOf Tryd.func56 (by kernel_rfl) (by kernel_rfl) (by kernel_rfl) (by kernel_rfl)
 have h35 := @run_callFunc_extern Tryd.prog 129 _ (ReflectliteType.relation "AssignableTo" ReflectliteType.assignableTo) Tryd.func129 (by kernel_rfl) (by kernel_rfl) (by kernel_rfl) (by kernel_rfl)
 have h11 := @run_callFunc_extern Tryd.prog 79 _ (ReflectliteValue.method (ReflectliteValue.valueError "reflectlite.Value.Elem" 0) ReflectliteValue.elem) Tryd.func79 (by kernel_rfl) (by kernel_rfl) (by kernel_rfl) (by kernel_rfl)
 have h12 := @run_callFunc_extern Tryd.prog 80 _ ReflectliteValue.set Tryd.func80 (by kernel_rfl) (by kernel_rfl) (by kernel_rfl) (by kernel_rfl)
 have tO := As.typeOf25
 have mA := As.methodAssignableTo
 have a25 := As.assignable25
 have v25 := As.valueOf25
 have f6 := As.valueOf27
 have f7 := As.type27
 have mK := As.methodKind
 have mE := As.methodElem
 have mI := As.methodImplements
 have k27 := As.kind27
 have k25 := As.kind25
 have e27 := As.elem27
 have i25 := As.implements25
 have n8 := As.isNil27 ⟨w.heap.size, 0, none⟩ t ((w.alloc (.cells #[.pointer (some t)] 71)).alloc (.cells #[.pointer (some ⟨4, 71, none⟩), .pointer (some ⟨w.heap.size, 0, none⟩), .int .u64 150] 103)) (by simp)
 have hlt : 0 < w.heap.size := by
  rcases Nat.eq_zero_or_pos w.heap.size with h0 | h
  ·simp [World.cell?, h0] at hg
  ·exact h
 have hg2 : ((w.alloc (.cells #[.pointer (some t)] 71)).alloc (.cells #[.pointer (some ⟨4, 71, none⟩), .pointer (some ⟨w.heap.size, 0, none⟩), .int .u64 150] 103)).cell? ⟨0, 0, none⟩ = some (.iface 136 (.agg #[.pointer (some ⟨4, 24, none⟩)])) := by
  rw [World.cell?_alloc_lt _ _ ⟨0, 0, none⟩ (by simp), World.cell?_alloc_lt _ _ ⟨0, 0, none⟩ hlt]; exact hg
 have htl : t.block < w.heap.size := by
  rcases Nat.lt_or_ge t.block w.heap.size with h | h
  ·exact h
  ·simp [World.cell?, Array.getElem?_eq_none h] at ht0
 have el := As.elemV27 ⟨w.heap.size, 0, none⟩ t (((w.alloc (.cells #[.pointer (some t)] 71)).alloc (.cells #[.pointer (some ⟨4, 71, none⟩), .pointer (some ⟨w.heap.size, 0, none⟩), .int .u64 150] 103)).alloc (.cells #[.pointer (some ⟨4, 71, none⟩), .pointer (some ⟨w.heap.size, 0, none⟩), .int .u64 150] 103)) (by rw [World.cell?_alloc_lt _ _ ⟨w.heap.size, 0, none⟩ (by simp; omega)]; simp)
 have st := As.set25 t ⟨w.heap.size + 1 + 1 + 1, 0, none⟩ e old ((((w.alloc (.cells #[.pointer (some t)] 71)).alloc (.cells #[.pointer (some ⟨4, 71, none⟩), .pointer (some ⟨w.heap.size, 0, none⟩), .int .u64 150] 103)).alloc (.cells #[.pointer (some ⟨4, 71, none⟩), .pointer (some ⟨w.heap.size, 0, none⟩), .int .u64 150] 103)).alloc (.cells #[.pointer (some e)] 51))
  (by rw [World.cell?_alloc_at _ _ _ _ (by simp)]; rfl)
  (by rw [World.cell?_alloc_lt _ _ t (by simp; omega), World.cell?_alloc_lt _ _ t (by simp; omega), World.cell?_alloc_lt _ _ t (by simp; omega), World.cell?_alloc_lt _ _ t htl]; exact ht0)
  (by rw [World.frozen?_alloc_old _ _ t (by simp; omega), World.frozen?_alloc_old _ _ t (by simp; omega), World.frozen?_alloc_old _ _ t (by simp; omega), World.frozen?_alloc_old _ _ t (Nat.ne_of_lt htl)]; exact hf0)
 go_enter Tryd.func32, Tryd.ntmps32
 go_wp2
 refine wp_loop_rounds 1 ?_
 rw [rounds_succ]
 go_wp2
 go_ret
 exact ⟨rfl, rfl⟩
end Go.Proofs.YteekjekckgpbfaaDoor
end
section
namespace Go.Proofs.YteekjekckgpbfaaDoor
open Go.RowKit Go.Extern.Stop Go.Stop Go.Extern
theorem Is.typeOf (v : Value) (w : World) : (Extern.ReflectliteType.typeOf #[.iface 27 v]).run Tryd.prog w = .ok (.iface 136 (.agg #[.pointer (some ⟨4, 27, none⟩)])) w := by kernel_rfl
def compE : Array Value → Sem Value := Extern.ReflectliteType.method fun t => do Extern.Rtype.noPackHeld "Comparable" t; pure (.bool (← typeInfo t).comparable)
theorem Is.comparable (w : World) : (compE #[.agg #[.pointer (some ⟨4, 27, none⟩)]]).run Tryd.prog w = .ok (.bool true) w := by kernel_rfl
theorem Is.methodComparable (v : Value) (w : World) : (Go.method 301 136 v "Comparable").run Tryd.prog w = .ok (130, v) w := by kernel_rfl
theorem Is.noIsE (v : Value) (xT : TypeId) (w : World) : (Instr.typeAssert (.iface 27 v) xT 148 true).run Tryd.prog w = .ok (.tuple #[.nilIface, .bool false]) w := run_typeAssert_lacksB Tryd.underlying148 (by kernel_rfl) (by kernel_rfl) v xT w
theorem Is.noUnwrapE (v : Value) (xT : TypeId) (w : World) : (Instr.typeAssert (.iface 27 v) xT 143 true).run Tryd.prog w = .ok (.tuple #[.nilIface, .bool false]) w := run_typeAssert_lacksB Tryd.underlying143 (by kernel_rfl) (by kernel_rfl) v xT w
theorem Is.noUnwrapsE (v : Value) (xT : TypeId) (w : World) : (Instr.typeAssert (.iface 27 v) xT 145 true).run Tryd.prog w = .ok (.tuple #[.nilIface, .bool false]) w := run_typeAssert_lacksB Tryd.underlying145 (by kernel_rfl) (by kernel_rfl) v xT w
theorem Is.noIsW (v : Value) (xT : TypeId) (w : World) : (Instr.typeAssert (.iface 51 v) xT 148 true).run Tryd.prog w = .ok (.tuple #[.nilIface, .bool false]) w := run_typeAssert_lacksB Tryd.underlying148 (by kernel_rfl) (by kernel_rfl) v xT w
theorem Is.hasUnwrapW (v : Value) (xT : TypeId) (w : World) : (Instr.typeAssert (.iface 51 v) xT 143 true).run Tryd.prog w = .ok (.tuple #[.iface 51 v, .bool true]) w := run_typeAssert_hasB Tryd.underlying143 (by kernel_rfl) v xT w
theorem Is.methodUnwrap (v : Value) (w : World) : (Go.method 301 51 v "Unwrap").run Tryd.prog w = .ok (123, v) w := by kernel_rfl
theorem unwrap (e : Addr) (m : Int) (w : World) (hc : w.cell? e = some (.int .i64 m)) (h0 : e.spot = none) : Calls Tryd.prog 123 #[.pointer (some e)] w fun ev w' => ev = .returned (.iface 27 (.int .i64 m)) ∧ w' = w := by
 obtain ⟨b, o, s⟩ := e
 simp only at h0
 subst h0
 go_enter Tryd.func123, Tryd.ntmps123
 go_wp2
 go_ret
 exact ⟨rfl, rfl⟩
set_option maxRecDepth 100000 in
set_option maxHeartbeats 4000000 in
theorem is_fault (e : Addr) (m n : Int) (w : World) (hc : w.cell? e = some (.int .i64 m)) (h0 : e.spot = none) :
  Calls Tryd.prog 33 #[.iface 51 (.pointer (some e)), .iface 27 (.int .i64 n)] w fun ev w' => ev = .returned (.bool (m == n)) ∧ w' = w := by
 have h56 := @run_callFunc_extern Tryd.prog 56 _ Extern.ReflectliteType.typeOf Tryd.func56 (by kernel_rfl) (by kernel_rfl) (by kernel_rfl) (by kernel_rfl)
 have h130 := @run_callFunc_extern Tryd.prog 130 _ compE Tryd.func130 (by kernel_rfl) (by kernel_rfl) (by kernel_rfl) (by kernel_rfl)
 have tT := Is.typeOf
 have cT := Is.comparable
 have mR := Is.methodComparable
 have nE := Is.noIsE
 have uE := Is.noUnwrapE
 have vE := Is.noUnwrapsE
 have nW := Is.noIsW
 have uW := Is.hasUnwrapW
 have mU := Is.methodUnwrap
 obtain ⟨b, o, s⟩ := e
 simp only at h0
 subst h0
 have heq := Lib.run_eql_iface_int (P := Tryd.prog) w (t := 24) (tx := 27) (k := .i64) (q := .i64) m n Tryd.underlying24 (by kernel_rfl) Tryd.underlying27
 have hty := run_eql_iface_types (P := Tryd.prog) 51 27 (.pointer (some ⟨b, o, none⟩)) (.int .i64 n) Tryd.underlying24 (by decide) w
 by_cases hmn : m = n
 ·subst hmn
  have hmn' : (m == m) = true := by simp
  rw [hmn'] at heq ⊢
  clear hmn'
  go_enter Tryd.func33, Tryd.ntmps33
  go_wp2
  refine wp_loop_rounds 2 ?_
  rw [rounds_succ]
  go_wp2
  rw [rounds_succ]
  go_wp2
  refine ⟨rfl, _, results_tmp (fn := Tryd.f33) (t := 4) (by kernel_rfl) _ _ _, ?_, rfl⟩
  rfl
 ·have hmn' : (m == n) = false := by simpa using hmn
  rw [hmn'] at heq ⊢
  clear hmn' hmn
  go_enter Tryd.func33, Tryd.ntmps33
  go_wp2
  refine wp_loop_rounds 2 ?_
  rw [rounds_succ]
  go_wp2
  rw [rounds_succ]
  go_wp2
  refine ⟨rfl, _, results_tmp (fn := Tryd.f33) (t := 4) (by kernel_rfl) _ _ _, ?_, rfl⟩
  rfl
end Go.Proofs.YteekjekckgpbfaaDoor
end
section
set_option maxRecDepth 100000
namespace Go.Proofs.YteekjekckgpbfaaDoor.Abs
theorem tyok1 : TyOk Tryd.prog 1 ti1 := ⟨by kernel_rfl, by kernel_rfl, by kernel_rfl, by kernel_rfl, by kernel_rfl, by kernel_rfl⟩
theorem tyok2 : TyOk Tryd.prog 2 ti2 := ⟨by kernel_rfl, by kernel_rfl, by kernel_rfl, by kernel_rfl, by kernel_rfl, by kernel_rfl⟩
theorem tyok3 : TyOk Tryd.prog 3 ti3 := ⟨by kernel_rfl, by kernel_rfl, by kernel_rfl, by kernel_rfl, by kernel_rfl, by kernel_rfl⟩
theorem tyok4 : TyOk Tryd.prog 4 ti4 := ⟨by kernel_rfl, by kernel_rfl, by kernel_rfl, by kernel_rfl, by kernel_rfl, by kernel_rfl⟩
theorem tyok5 : TyOk Tryd.prog 5 ti5 := ⟨by kernel_rfl, by kernel_rfl, by kernel_rfl, by kernel_rfl, by kernel_rfl, by kernel_rfl⟩
theorem tyok6 : TyOk Tryd.prog 6 ti6 := ⟨by kernel_rfl, by kernel_rfl, by kernel_rfl, by kernel_rfl, by kernel_rfl, by kernel_rfl⟩
theorem tyok7 : TyOk Tryd.prog 7 ti7 := ⟨by kernel_rfl, by kernel_rfl, by kernel_rfl, by kernel_rfl, by kernel_rfl, by kernel_rfl⟩
theorem tyok8 : TyOk Tryd.prog 8 ti8 := ⟨by kernel_rfl, by kernel_rfl, by kernel_rfl, by kernel_rfl, by kernel_rfl, by kernel_rfl⟩
theorem tyok9 : TyOk Tryd.prog 9 ti9 := ⟨by kernel_rfl, by kernel_rfl, by kernel_rfl, by kernel_rfl, by kernel_rfl, by kernel_rfl⟩
theorem tyok10 : TyOk Tryd.prog 10 ti10 := ⟨by kernel_rfl, by kernel_rfl, by kernel_rfl, by kernel_rfl, by kernel_rfl, by kernel_rfl⟩
theorem tyok11 : TyOk Tryd.prog 11 ti11 := ⟨by kernel_rfl, by kernel_rfl, by kernel_rfl, by kernel_rfl, by kernel_rfl, by kernel_rfl⟩
theorem tyok12 : TyOk Tryd.prog 12 ti12 := ⟨by kernel_rfl, by kernel_rfl, by kernel_rfl, by kernel_rfl, by kernel_rfl, by kernel_rfl⟩
theorem tyok13 : TyOk Tryd.prog 13 ti13 := ⟨by kernel_rfl, by kernel_rfl, by kernel_rfl, by kernel_rfl, by kernel_rfl, by kernel_rfl⟩
theorem tyok14 : TyOk Tryd.prog 14 ti14 := ⟨by kernel_rfl, by kernel_rfl, by kernel_rfl, by kernel_rfl, by kernel_rfl, by kernel_rfl⟩
theorem tyok15 : TyOk Tryd.prog 15 ti15 := ⟨by kernel_rfl, by kernel_rfl, by kernel_rfl, by kernel_rfl, by kernel_rfl, by kernel_rfl⟩
theorem tyok16 : TyOk Tryd.prog 16 ti16 := ⟨by kernel_rfl, by kernel_rfl, by kernel_rfl, by kernel_rfl, by kernel_rfl, by kernel_rfl⟩
theorem tyok17 : TyOk Tryd.prog 17 ti17 := ⟨by kernel_rfl, by kernel_rfl, by kernel_rfl, by kernel_rfl, by kernel_rfl, by kernel_rfl⟩
theorem tyok18 : TyOk Tryd.prog 18 ti18 := ⟨by kernel_rfl, by kernel_rfl, by kernel_rfl, by kernel_rfl, by kernel_rfl, by kernel_rfl⟩
theorem tyok19 : TyOk Tryd.prog 19 ti19 := ⟨by kernel_rfl, by kernel_rfl, by kernel_rfl, by kernel_rfl, by kernel_rfl, by kernel_rfl⟩
theorem tyok20 : TyOk Tryd.prog 20 ti20 := ⟨by kernel_rfl, by kernel_rfl, by kernel_rfl, by kernel_rfl, by kernel_rfl, by kernel_rfl⟩
theorem tyok21 : TyOk Tryd.prog 21 ti21 := ⟨by kernel_rfl, by kernel_rfl, by kernel_rfl, by kernel_rfl, by kernel_rfl, by kernel_rfl⟩
theorem tyok22 : TyOk Tryd.prog 22 ti22 := ⟨by kernel_rfl, by kernel_rfl, by kernel_rfl, by kernel_rfl, by kernel_rfl, by kernel_rfl⟩
theorem tyok23 : TyOk Tryd.prog 23 ti23 := ⟨by kernel_rfl, by kernel_rfl, by kernel_rfl, by kernel_rfl, by kernel_rfl, by kernel_rfl⟩
theorem tyok24 : TyOk Tryd.prog 24 ti24 := ⟨by kernel_rfl, by kernel_rfl, by kernel_rfl, by kernel_rfl, by kernel_rfl, by kernel_rfl⟩
theorem tyok26 : TyOk Tryd.prog 26 ti26 := ⟨by kernel_rfl, by kernel_rfl, by kernel_rfl, by kernel_rfl, by kernel_rfl, by kernel_rfl⟩
theorem tyok27 : TyOk Tryd.prog 27 ti27 := ⟨by kernel_rfl, by kernel_rfl, by kernel_rfl, by kernel_rfl, by kernel_rfl, by kernel_rfl⟩
theorem tyok28 : TyOk Tryd.prog 28 ti28 := ⟨by kernel_rfl, by kernel_rfl, by kernel_rfl, by kernel_rfl, by kernel_rfl, by kernel_rfl⟩
theorem tyok29 : TyOk Tryd.prog 29 ti29 := ⟨by kernel_rfl, by kernel_rfl, by kernel_rfl, by kernel_rfl, by kernel_rfl, by kernel_rfl⟩
theorem tyok31 : TyOk Tryd.prog 31 ti31 := ⟨by kernel_rfl, by kernel_rfl, by kernel_rfl, by kernel_rfl, by kernel_rfl, by kernel_rfl⟩
theorem tyok32 : TyOk Tryd.prog 32 ti32 := ⟨by kernel_rfl, by kernel_rfl, by kernel_rfl, by kernel_rfl, by kernel_rfl, by kernel_rfl⟩
theorem tyok33 : TyOk Tryd.prog 33 ti33 := ⟨by kernel_rfl, by kernel_rfl, by kernel_rfl, by kernel_rfl, by kernel_rfl, by kernel_rfl⟩
theorem tyok34 : TyOk Tryd.prog 34 ti34 := ⟨by kernel_rfl, by kernel_rfl, by kernel_rfl, by kernel_rfl, by kernel_rfl, by kernel_rfl⟩
theorem tyok35 : TyOk Tryd.prog 35 ti35 := ⟨by kernel_rfl, by kernel_rfl, by kernel_rfl, by kernel_rfl, by kernel_rfl, by kernel_rfl⟩
theorem tyok36 : TyOk Tryd.prog 36 ti36 := ⟨by kernel_rfl, by kernel_rfl, by kernel_rfl, by kernel_rfl, by kernel_rfl, by kernel_rfl⟩
theorem tyok37 : TyOk Tryd.prog 37 ti37 := ⟨by kernel_rfl, by kernel_rfl, by kernel_rfl, by kernel_rfl, by kernel_rfl, by kernel_rfl⟩
theorem tyok38 : TyOk Tryd.prog 38 ti38 := ⟨by kernel_rfl, by kernel_rfl, by kernel_rfl, by kernel_rfl, by kernel_rfl, by kernel_rfl⟩
theorem tyok39 : TyOk Tryd.prog 39 ti39 := ⟨by kernel_rfl, by kernel_rfl, by kernel_rfl, by kernel_rfl, by kernel_rfl, by kernel_rfl⟩
theorem tyok40 : TyOk Tryd.prog 40 ti40 := ⟨by kernel_rfl, by kernel_rfl, by kernel_rfl, by kernel_rfl, by kernel_rfl, by kernel_rfl⟩
theorem tyok41 : TyOk Tryd.prog 41 ti41 := ⟨by kernel_rfl, by kernel_rfl, by kernel_rfl, by kernel_rfl, by kernel_rfl, by kernel_rfl⟩
theorem tyok42 : TyOk Tryd.prog 42 ti42 := ⟨by kernel_rfl, by kernel_rfl, by kernel_rfl, by kernel_rfl, by kernel_rfl, by kernel_rfl⟩
theorem tyok43 : TyOk Tryd.prog 43 ti43 := ⟨by kernel_rfl, by kernel_rfl, by kernel_rfl, by kernel_rfl, by kernel_rfl, by kernel_rfl⟩
theorem tyok44 : TyOk Tryd.prog 44 ti44 := ⟨by kernel_rfl, by kernel_rfl, by kernel_rfl, by kernel_rfl, by kernel_rfl, by kernel_rfl⟩
theorem tyok45 : TyOk Tryd.prog 45 ti45 := ⟨by kernel_rfl, by kernel_rfl, by kernel_rfl, by kernel_rfl, by kernel_rfl, by kernel_rfl⟩
theorem tyok46 : TyOk Tryd.prog 46 ti46 := ⟨by kernel_rfl, by kernel_rfl, by kernel_rfl, by kernel_rfl, by kernel_rfl, by kernel_rfl⟩
theorem tyok47 : TyOk Tryd.prog 47 ti47 := ⟨by kernel_rfl, by kernel_rfl, by kernel_rfl, by kernel_rfl, by kernel_rfl, by kernel_rfl⟩
theorem tyok48 : TyOk Tryd.prog 48 ti48 := ⟨by kernel_rfl, by kernel_rfl, by kernel_rfl, by kernel_rfl, by kernel_rfl, by kernel_rfl⟩
theorem tyok49 : TyOk Tryd.prog 49 ti49 := ⟨by kernel_rfl, by kernel_rfl, by kernel_rfl, by kernel_rfl, by kernel_rfl, by kernel_rfl⟩
theorem tyok50 : TyOk Tryd.prog 50 ti50 := ⟨by kernel_rfl, by kernel_rfl, by kernel_rfl, by kernel_rfl, by kernel_rfl, by kernel_rfl⟩
theorem tyok51 : TyOk Tryd.prog 51 ti51 := ⟨by kernel_rfl, by kernel_rfl, by kernel_rfl, by kernel_rfl, by kernel_rfl, by kernel_rfl⟩
theorem tyok52 : TyOk Tryd.prog 52 ti52 := ⟨by kernel_rfl, by kernel_rfl, by kernel_rfl, by kernel_rfl, by kernel_rfl, by kernel_rfl⟩
theorem tyok54 : TyOk Tryd.prog 54 ti54 := ⟨by kernel_rfl, by kernel_rfl, by kernel_rfl, by kernel_rfl, by kernel_rfl, by kernel_rfl⟩
theorem tyok55 : TyOk Tryd.prog 55 ti55 := ⟨by kernel_rfl, by kernel_rfl, by kernel_rfl, by kernel_rfl, by kernel_rfl, by kernel_rfl⟩
theorem tyok56 : TyOk Tryd.prog 56 ti56 := ⟨by kernel_rfl, by kernel_rfl, by kernel_rfl, by kernel_rfl, by kernel_rfl, by kernel_rfl⟩
theorem tyok57 : TyOk Tryd.prog 57 ti57 := ⟨by kernel_rfl, by kernel_rfl, by kernel_rfl, by kernel_rfl, by kernel_rfl, by kernel_rfl⟩
theorem tyok58 : TyOk Tryd.prog 58 ti58 := ⟨by kernel_rfl, by kernel_rfl, by kernel_rfl, by kernel_rfl, by kernel_rfl, by kernel_rfl⟩
theorem tyok59 : TyOk Tryd.prog 59 ti59 := ⟨by kernel_rfl, by kernel_rfl, by kernel_rfl, by kernel_rfl, by kernel_rfl, by kernel_rfl⟩
theorem tyok60 : TyOk Tryd.prog 60 ti60 := ⟨by kernel_rfl, by kernel_rfl, by kernel_rfl, by kernel_rfl, by kernel_rfl, by kernel_rfl⟩
theorem tyok61 : TyOk Tryd.prog 61 ti61 := ⟨by kernel_rfl, by kernel_rfl, by kernel_rfl, by kernel_rfl, by kernel_rfl, by kernel_rfl⟩
theorem tyok63 : TyOk Tryd.prog 63 ti63 := ⟨by kernel_rfl, by kernel_rfl, by kernel_rfl, by kernel_rfl, by kernel_rfl, by kernel_rfl⟩
theorem tyok64 : TyOk Tryd.prog 64 ti64 := ⟨by kernel_rfl, by kernel_rfl, by kernel_rfl, by kernel_rfl, by kernel_rfl, by kernel_rfl⟩
theorem tyok65 : TyOk Tryd.prog 65 ti65 := ⟨by kernel_rfl, by kernel_rfl, by kernel_rfl, by kernel_rfl, by kernel_rfl, by kernel_rfl⟩
theorem tyok67 : TyOk Tryd.prog 67 ti67 := ⟨by kernel_rfl, by kernel_rfl, by kernel_rfl, by kernel_rfl, by kernel_rfl, by kernel_rfl⟩
theorem tyok69 : TyOk Tryd.prog 69 ti69 := ⟨by kernel_rfl, by kernel_rfl, by kernel_rfl, by kernel_rfl, by kernel_rfl, by kernel_rfl⟩
theorem tyok70 : TyOk Tryd.prog 70 ti70 := ⟨by kernel_rfl, by kernel_rfl, by kernel_rfl, by kernel_rfl, by kernel_rfl, by kernel_rfl⟩
theorem tyok71 : TyOk Tryd.prog 71 ti71 := ⟨by kernel_rfl, by kernel_rfl, by kernel_rfl, by kernel_rfl, by kernel_rfl, by kernel_rfl⟩
theorem tyok72 : TyOk Tryd.prog 72 ti72 := ⟨by kernel_rfl, by kernel_rfl, by kernel_rfl, by kernel_rfl, by kernel_rfl, by kernel_rfl⟩
theorem tyok73 : TyOk Tryd.prog 73 ti73 := ⟨by kernel_rfl, by kernel_rfl, by kernel_rfl, by kernel_rfl, by kernel_rfl, by kernel_rfl⟩
theorem tyok74 : TyOk Tryd.prog 74 ti74 := ⟨by kernel_rfl, by kernel_rfl, by kernel_rfl, by kernel_rfl, by kernel_rfl, by kernel_rfl⟩
theorem tyok75 : TyOk Tryd.prog 75 ti75 := ⟨by kernel_rfl, by kernel_rfl, by kernel_rfl, by kernel_rfl, by kernel_rfl, by kernel_rfl⟩
theorem tyok77 : TyOk Tryd.prog 77 ti77 := ⟨by kernel_rfl, by kernel_rfl, by kernel_rfl, by kernel_rfl, by kernel_rfl, by kernel_rfl⟩
theorem tyok78 : TyOk Tryd.prog 78 ti78 := ⟨by kernel_rfl, by kernel_rfl, by kernel_rfl, by kernel_rfl, by kernel_rfl, by kernel_rfl⟩
theorem tyok79 : TyOk Tryd.prog 79 ti79 := ⟨by kernel_rfl, by kernel_rfl, by kernel_rfl, by kernel_rfl, by kernel_rfl, by kernel_rfl⟩
theorem tyok80 : TyOk Tryd.prog 80 ti80 := ⟨by kernel_rfl, by kernel_rfl, by kernel_rfl, by kernel_rfl, by kernel_rfl, by kernel_rfl⟩
theorem tyok81 : TyOk Tryd.prog 81 ti81 := ⟨by kernel_rfl, by kernel_rfl, by kernel_rfl, by kernel_rfl, by kernel_rfl, by kernel_rfl⟩
theorem tyok82 : TyOk Tryd.prog 82 ti82 := ⟨by kernel_rfl, by kernel_rfl, by kernel_rfl, by kernel_rfl, by kernel_rfl, by kernel_rfl⟩
theorem tyok84 : TyOk Tryd.prog 84 ti84 := ⟨by kernel_rfl, by kernel_rfl, by kernel_rfl, by kernel_rfl, by kernel_rfl, by kernel_rfl⟩
theorem tyok85 : TyOk Tryd.prog 85 ti85 := ⟨by kernel_rfl, by kernel_rfl, by kernel_rfl, by kernel_rfl, by kernel_rfl, by kernel_rfl⟩
theorem tyok86 : TyOk Tryd.prog 86 ti86 := ⟨by kernel_rfl, by kernel_rfl, by kernel_rfl, by kernel_rfl, by kernel_rfl, by kernel_rfl⟩
theorem tyok87 : TyOk Tryd.prog 87 ti87 := ⟨by kernel_rfl, by kernel_rfl, by kernel_rfl, by kernel_rfl, by kernel_rfl, by kernel_rfl⟩
theorem tyok88 : TyOk Tryd.prog 88 ti88 := ⟨by kernel_rfl, by kernel_rfl, by kernel_rfl, by kernel_rfl, by kernel_rfl, by kernel_rfl⟩
theorem tyok89 : TyOk Tryd.prog 89 ti89 := ⟨by kernel_rfl, by kernel_rfl, by kernel_rfl, by kernel_rfl, by kernel_rfl, by kernel_rfl⟩
theorem tyok90 : TyOk Tryd.prog 90 ti90 := ⟨by kernel_rfl, by kernel_rfl, by kernel_rfl, by kernel_rfl, by kernel_rfl, by kernel_rfl⟩
theorem tyok92 : TyOk Tryd.prog 92 ti92 := ⟨by kernel_rfl, by kernel_rfl, by kernel_rfl, by kernel_rfl, by kernel_rfl, by kernel_rfl⟩
theorem tyok93 : TyOk Tryd.prog 93 ti93 := ⟨by kernel_rfl, by kernel_rfl, by kernel_rfl, by kernel_rfl, by kernel_rfl, by kernel_rfl⟩
theorem tyok94 : TyOk Tryd.prog 94 ti94 := ⟨by kernel_rfl, by kernel_rfl, by kernel_rfl, by kernel_rfl, by kernel_rfl, by kernel_rfl⟩
theorem tyok95 : TyOk Tryd.prog 95 ti95 := ⟨by kernel_rfl, by kernel_rfl, by kernel_rfl, by kernel_rfl, by kernel_rfl, by kernel_rfl⟩
theorem tyok96 : TyOk Tryd.prog 96 ti96 := ⟨by kernel_rfl, by kernel_rfl, by kernel_rfl, by kernel_rfl, by kernel_rfl, by kernel_rfl⟩
theorem tyok97 : TyOk Tryd.prog 97 ti97 := ⟨by kernel_rfl, by kernel_rfl, by kernel_rfl, by kernel_rfl, by kernel_rfl, by kernel_rfl⟩
theorem tyok99 : TyOk Tryd.prog 99 ti99 := ⟨by kernel_rfl, by kernel_rfl, by kernel_rfl, by kernel_rfl, by kernel_rfl, by kernel_rfl⟩
theorem tyok100 : TyOk Tryd.prog 100 ti100 := ⟨by kernel_rfl, by kernel_rfl, by kernel_rfl, by kernel_rfl, by kernel_rfl, by kernel_rfl⟩
theorem tyok101 : TyOk Tryd.prog 101 ti101 := ⟨by kernel_rfl, by kernel_rfl, by kernel_rfl, by kernel_rfl, by kernel_rfl, by kernel_rfl⟩
theorem tyok102 : TyOk Tryd.prog 102 ti102 := ⟨by kernel_rfl, by kernel_rfl, by kernel_rfl, by kernel_rfl, by kernel_rfl, by kernel_rfl⟩
theorem tyok103 : TyOk Tryd.prog 103 ti103 := ⟨by kernel_rfl, by kernel_rfl, by kernel_rfl, by kernel_rfl, by kernel_rfl, by kernel_rfl⟩
theorem tyok104 : TyOk Tryd.prog 104 ti104 := ⟨by kernel_rfl, by kernel_rfl, by kernel_rfl, by kernel_rfl, by kernel_rfl, by kernel_rfl⟩
theorem tyok105 : TyOk Tryd.prog 105 ti105 := ⟨by kernel_rfl, by kernel_rfl, by kernel_rfl, by kernel_rfl, by kernel_rfl, by kernel_rfl⟩
theorem tyok106 : TyOk Tryd.prog 106 ti106 := ⟨by kernel_rfl, by kernel_rfl, by kernel_rfl, by kernel_rfl, by kernel_rfl, by kernel_rfl⟩
theorem tyok107 : TyOk Tryd.prog 107 ti107 := ⟨by kernel_rfl, by kernel_rfl, by kernel_rfl, by kernel_rfl, by kernel_rfl, by kernel_rfl⟩
theorem tyok108 : TyOk Tryd.prog 108 ti108 := ⟨by kernel_rfl, by kernel_rfl, by kernel_rfl, by kernel_rfl, by kernel_rfl, by kernel_rfl⟩
theorem tyok109 : TyOk Tryd.prog 109 ti109 := ⟨by kernel_rfl, by kernel_rfl, by kernel_rfl, by kernel_rfl, by kernel_rfl, by kernel_rfl⟩
theorem tyok110 : TyOk Tryd.prog 110 ti110 := ⟨by kernel_rfl, by kernel_rfl, by kernel_rfl, by kernel_rfl, by kernel_rfl, by kernel_rfl⟩
theorem tyok111 : TyOk Tryd.prog 111 ti111 := ⟨by kernel_rfl, by kernel_rfl, by kernel_rfl, by kernel_rfl, by kernel_rfl, by kernel_rfl⟩
theorem tyok112 : TyOk Tryd.prog 112 ti112 := ⟨by kernel_rfl, by kernel_rfl, by kernel_rfl, by kernel_rfl, by kernel_rfl, by kernel_rfl⟩
theorem tyok113 : TyOk Tryd.prog 113 ti113 := ⟨by kernel_rfl, by kernel_rfl, by kernel_rfl, by kernel_rfl, by kernel_rfl, by kernel_rfl⟩
theorem tyok114 : TyOk Tryd.prog 114 ti114 := ⟨by kernel_rfl, by kernel_rfl, by kernel_rfl, by kernel_rfl, by kernel_rfl, by kernel_rfl⟩
theorem tyok115 : TyOk Tryd.prog 115 ti115 := ⟨by kernel_rfl, by kernel_rfl, by kernel_rfl, by kernel_rfl, by kernel_rfl, by kernel_rfl⟩
theorem tyok117 : TyOk Tryd.prog 117 ti117 := ⟨by kernel_rfl, by kernel_rfl, by kernel_rfl, by kernel_rfl, by kernel_rfl, by kernel_rfl⟩
theorem tyok118 : TyOk Tryd.prog 118 ti118 := ⟨by kernel_rfl, by kernel_rfl, by kernel_rfl, by kernel_rfl, by kernel_rfl, by kernel_rfl⟩
theorem tyok120 : TyOk Tryd.prog 120 ti120 := ⟨by kernel_rfl, by kernel_rfl, by kernel_rfl, by kernel_rfl, by kernel_rfl, by kernel_rfl⟩
theorem tyok121 : TyOk Tryd.prog 121 ti121 := ⟨by kernel_rfl, by kernel_rfl, by kernel_rfl, by kernel_rfl, by kernel_rfl, by kernel_rfl⟩
theorem tyok122 : TyOk Tryd.prog 122 ti122 := ⟨by kernel_rfl, by kernel_rfl, by kernel_rfl, by kernel_rfl, by kernel_rfl, by kernel_rfl⟩
theorem tyok124 : TyOk Tryd.prog 124 ti124 := ⟨by kernel_rfl, by kernel_rfl, by kernel_rfl, by kernel_rfl, by kernel_rfl, by kernel_rfl⟩
theorem tyok125 : TyOk Tryd.prog 125 ti125 := ⟨by kernel_rfl, by kernel_rfl, by kernel_rfl, by kernel_rfl, by kernel_rfl, by kernel_rfl⟩
theorem tyok126 : TyOk Tryd.prog 126 ti126 := ⟨by kernel_rfl, by kernel_rfl, by kernel_rfl, by kernel_rfl, by kernel_rfl, by kernel_rfl⟩
theorem tyok127 : TyOk Tryd.prog 127 ti127 := ⟨by kernel_rfl, by kernel_rfl, by kernel_rfl, by kernel_rfl, by kernel_rfl, by kernel_rfl⟩
theorem tyok128 : TyOk Tryd.prog 128 ti128 := ⟨by kernel_rfl, by kernel_rfl, by kernel_rfl, by kernel_rfl, by kernel_rfl, by kernel_rfl⟩
theorem tyok129 : TyOk Tryd.prog 129 ti129 := ⟨by kernel_rfl, by kernel_rfl, by kernel_rfl, by kernel_rfl, by kernel_rfl, by kernel_rfl⟩
theorem tyok131 : TyOk Tryd.prog 131 ti131 := ⟨by kernel_rfl, by kernel_rfl, by kernel_rfl, by kernel_rfl, by kernel_rfl, by kernel_rfl⟩
theorem tyok132 : TyOk Tryd.prog 132 ti132 := ⟨by kernel_rfl, by kernel_rfl, by kernel_rfl, by kernel_rfl, by kernel_rfl, by kernel_rfl⟩
theorem tyok133 : TyOk Tryd.prog 133 ti133 := ⟨by kernel_rfl, by kernel_rfl, by kernel_rfl, by kernel_rfl, by kernel_rfl, by kernel_rfl⟩
theorem tyok134 : TyOk Tryd.prog 134 ti134 := ⟨by kernel_rfl, by kernel_rfl, by kernel_rfl, by kernel_rfl, by kernel_rfl, by kernel_rfl⟩
theorem tyok135 : TyOk Tryd.prog 135 ti135 := ⟨by kernel_rfl, by kernel_rfl, by kernel_rfl, by kernel_rfl, by kernel_rfl, by kernel_rfl⟩
theorem tyok136 : TyOk Tryd.prog 136 ti136 := ⟨by kernel_rfl, by kernel_rfl, by kernel_rfl, by kernel_rfl, by kernel_rfl, by kernel_rfl⟩
theorem tyok137 : TyOk Tryd.prog 137 ti137 := ⟨by kernel_rfl, by kernel_rfl, by kernel_rfl, by kernel_rfl, by kernel_rfl, by kernel_rfl⟩
theorem tyok138 : TyOk Tryd.prog 138 ti138 := ⟨by kernel_rfl, by kernel_rfl, by kernel_rfl, by kernel_rfl, by kernel_rfl, by kernel_rfl⟩
theorem tyok139 : TyOk Tryd.prog 139 ti139 := ⟨by kernel_rfl, by kernel_rfl, by kernel_rfl, by kernel_rfl, by kernel_rfl, by kernel_rfl⟩
theorem tyok140 : TyOk Tryd.prog 140 ti140 := ⟨by kernel_rfl, by kernel_rfl, by kernel_rfl, by kernel_rfl, by kernel_rfl, by kernel_rfl⟩
theorem tyok142 : TyOk Tryd.prog 142 ti142 := ⟨by kernel_rfl, by kernel_rfl, by kernel_rfl, by kernel_rfl, by kernel_rfl, by kernel_rfl⟩
theorem tyok143 : TyOk Tryd.prog 143 ti143 := ⟨by kernel_rfl, by kernel_rfl, by kernel_rfl, by kernel_rfl, by kernel_rfl, by kernel_rfl⟩
theorem tyok144 : TyOk Tryd.prog 144 ti144 := ⟨by kernel_rfl, by kernel_rfl, by kernel_rfl, by kernel_rfl, by kernel_rfl, by kernel_rfl⟩
theorem tyok145 : TyOk Tryd.prog 145 ti145 := ⟨by kernel_rfl, by kernel_rfl, by kernel_rfl, by kernel_rfl, by kernel_rfl, by kernel_rfl⟩
theorem tyok146 : TyOk Tryd.prog 146 ti146 := ⟨by kernel_rfl, by kernel_rfl, by kernel_rfl, by kernel_rfl, by kernel_rfl, by kernel_rfl⟩
theorem tyok147 : TyOk Tryd.prog 147 ti147 := ⟨by kernel_rfl, by kernel_rfl, by kernel_rfl, by kernel_rfl, by kernel_rfl, by kernel_rfl⟩
theorem tyok148 : TyOk Tryd.prog 148 ti148 := ⟨by kernel_rfl, by kernel_rfl, by kernel_rfl, by kernel_rfl, by kernel_rfl, by kernel_rfl⟩
theorem tyok150 : TyOk Tryd.prog 150 ti150 := ⟨by kernel_rfl, by kernel_rfl, by kernel_rfl, by kernel_rfl, by kernel_rfl, by kernel_rfl⟩
theorem tyok151 : TyOk Tryd.prog 151 ti151 := ⟨by kernel_rfl, by kernel_rfl, by kernel_rfl, by kernel_rfl, by kernel_rfl, by kernel_rfl⟩
theorem tyok152 : TyOk Tryd.prog 152 ti152 := ⟨by kernel_rfl, by kernel_rfl, by kernel_rfl, by kernel_rfl, by kernel_rfl, by kernel_rfl⟩
theorem tyok153 : TyOk Tryd.prog 153 ti153 := ⟨by kernel_rfl, by kernel_rfl, by kernel_rfl, by kernel_rfl, by kernel_rfl, by kernel_rfl⟩
theorem tyok154 : TyOk Tryd.prog 154 ti154 := ⟨by kernel_rfl, by kernel_rfl, by kernel_rfl, by kernel_rfl, by kernel_rfl, by kernel_rfl⟩
theorem tyok155 : TyOk Tryd.prog 155 ti155 := ⟨by kernel_rfl, by kernel_rfl, by kernel_rfl, by kernel_rfl, by kernel_rfl, by kernel_rfl⟩
theorem tyok156 : TyOk Tryd.prog 156 ti156 := ⟨by kernel_rfl, by kernel_rfl, by kernel_rfl, by kernel_rfl, by kernel_rfl, by kernel_rfl⟩
theorem tyok157 : TyOk Tryd.prog 157 ti157 := ⟨by kernel_rfl, by kernel_rfl, by kernel_rfl, by kernel_rfl, by kernel_rfl, by kernel_rfl⟩
theorem tyok158 : TyOk Tryd.prog 158 ti158 := ⟨by kernel_rfl, by kernel_rfl, by kernel_rfl, by kernel_rfl, by kernel_rfl, by kernel_rfl⟩
theorem tyok159 : TyOk Tryd.prog 159 ti159 := ⟨by kernel_rfl, by kernel_rfl, by kernel_rfl, by kernel_rfl, by kernel_rfl, by kernel_rfl⟩
theorem tyok160 : TyOk Tryd.prog 160 ti160 := ⟨by kernel_rfl, by kernel_rfl, by kernel_rfl, by kernel_rfl, by kernel_rfl, by kernel_rfl⟩
theorem tyok161 : TyOk Tryd.prog 161 ti161 := ⟨by kernel_rfl, by kernel_rfl, by kernel_rfl, by kernel_rfl, by kernel_rfl, by kernel_rfl⟩
theorem tyok162 : TyOk Tryd.prog 162 ti162 := ⟨by kernel_rfl, by kernel_rfl, by kernel_rfl, by kernel_rfl, by kernel_rfl, by kernel_rfl⟩
theorem tyok163 : TyOk Tryd.prog 163 ti163 := ⟨by kernel_rfl, by kernel_rfl, by kernel_rfl, by kernel_rfl, by kernel_rfl, by kernel_rfl⟩
theorem tyok164 : TyOk Tryd.prog 164 ti164 := ⟨by kernel_rfl, by kernel_rfl, by kernel_rfl, by kernel_rfl, by kernel_rfl, by kernel_rfl⟩
theorem tyok165 : TyOk Tryd.prog 165 ti165 := ⟨by kernel_rfl, by kernel_rfl, by kernel_rfl, by kernel_rfl, by kernel_rfl, by kernel_rfl⟩
theorem tyok166 : TyOk Tryd.prog 166 ti166 := ⟨by kernel_rfl, by kernel_rfl, by kernel_rfl, by kernel_rfl, by kernel_rfl, by kernel_rfl⟩
theorem tyok167 : TyOk Tryd.prog 167 ti167 := ⟨by kernel_rfl, by kernel_rfl, by kernel_rfl, by kernel_rfl, by kernel_rfl, by kernel_rfl⟩
theorem tyok168 : TyOk Tryd.prog 168 ti168 := ⟨by kernel_rfl, by kernel_rfl, by kernel_rfl, by kernel_rfl, by kernel_rfl, by kernel_rfl⟩
theorem tyok169 : TyOk Tryd.prog 169 ti169 := ⟨by kernel_rfl, by kernel_rfl, by kernel_rfl, by kernel_rfl, by kernel_rfl, by kernel_rfl⟩
theorem tyok170 : TyOk Tryd.prog 170 ti170 := ⟨by kernel_rfl, by kernel_rfl, by kernel_rfl, by kernel_rfl, by kernel_rfl, by kernel_rfl⟩
theorem tyok171 : TyOk Tryd.prog 171 ti171 := ⟨by kernel_rfl, by kernel_rfl, by kernel_rfl, by kernel_rfl, by kernel_rfl, by kernel_rfl⟩
theorem tyok172 : TyOk Tryd.prog 172 ti172 := ⟨by kernel_rfl, by kernel_rfl, by kernel_rfl, by kernel_rfl, by kernel_rfl, by kernel_rfl⟩
theorem tyok173 : TyOk Tryd.prog 173 ti173 := ⟨by kernel_rfl, by kernel_rfl, by kernel_rfl, by kernel_rfl, by kernel_rfl, by kernel_rfl⟩
theorem tyok174 : TyOk Tryd.prog 174 ti174 := ⟨by kernel_rfl, by kernel_rfl, by kernel_rfl, by kernel_rfl, by kernel_rfl, by kernel_rfl⟩
theorem tyok175 : TyOk Tryd.prog 175 ti175 := ⟨by kernel_rfl, by kernel_rfl, by kernel_rfl, by kernel_rfl, by kernel_rfl, by kernel_rfl⟩
theorem tyok176 : TyOk Tryd.prog 176 ti176 := ⟨by kernel_rfl, by kernel_rfl, by kernel_rfl, by kernel_rfl, by kernel_rfl, by kernel_rfl⟩
theorem tyok177 : TyOk Tryd.prog 177 ti177 := ⟨by kernel_rfl, by kernel_rfl, by kernel_rfl, by kernel_rfl, by kernel_rfl, by kernel_rfl⟩
theorem tyok178 : TyOk Tryd.prog 178 ti178 := ⟨by kernel_rfl, by kernel_rfl, by kernel_rfl, by kernel_rfl, by kernel_rfl, by kernel_rfl⟩
theorem tyok179 : TyOk Tryd.prog 179 ti179 := ⟨by kernel_rfl, by kernel_rfl, by kernel_rfl, by kernel_rfl, by kernel_rfl, by kernel_rfl⟩
theorem tyok180 : TyOk Tryd.prog 180 ti180 := ⟨by kernel_rfl, by kernel_rfl, by kernel_rfl, by kernel_rfl, by kernel_rfl, by kernel_rfl⟩
theorem tyok181 : TyOk Tryd.prog 181 ti181 := ⟨by kernel_rfl, by kernel_rfl, by kernel_rfl, by kernel_rfl, by kernel_rfl, by kernel_rfl⟩
theorem tyok182 : TyOk Tryd.prog 182 ti182 := ⟨by kernel_rfl, by kernel_rfl, by kernel_rfl, by kernel_rfl, by kernel_rfl, by kernel_rfl⟩
theorem tyok183 : TyOk Tryd.prog 183 ti183 := ⟨by kernel_rfl, by kernel_rfl, by kernel_rfl, by kernel_rfl, by kernel_rfl, by kernel_rfl⟩
theorem tyok184 : TyOk Tryd.prog 184 ti184 := ⟨by kernel_rfl, by kernel_rfl, by kernel_rfl, by kernel_rfl, by kernel_rfl, by kernel_rfl⟩
theorem tyok185 : TyOk Tryd.prog 185 ti185 := ⟨by kernel_rfl, by kernel_rfl, by kernel_rfl, by kernel_rfl, by kernel_rfl, by kernel_rfl⟩
theorem tyok186 : TyOk Tryd.prog 186 ti186 := ⟨by kernel_rfl, by kernel_rfl, by kernel_rfl, by kernel_rfl, by kernel_rfl, by kernel_rfl⟩
theorem tyok187 : TyOk Tryd.prog 187 ti187 := ⟨by kernel_rfl, by kernel_rfl, by kernel_rfl, by kernel_rfl, by kernel_rfl, by kernel_rfl⟩
theorem tyok188 : TyOk Tryd.prog 188 ti188 := ⟨by kernel_rfl, by kernel_rfl, by kernel_rfl, by kernel_rfl, by kernel_rfl, by kernel_rfl⟩
theorem tyok189 : TyOk Tryd.prog 189 ti189 := ⟨by kernel_rfl, by kernel_rfl, by kernel_rfl, by kernel_rfl, by kernel_rfl, by kernel_rfl⟩
theorem tyok190 : TyOk Tryd.prog 190 ti190 := ⟨by kernel_rfl, by kernel_rfl, by kernel_rfl, by kernel_rfl, by kernel_rfl, by kernel_rfl⟩
theorem tyok191 : TyOk Tryd.prog 191 ti191 := ⟨by kernel_rfl, by kernel_rfl, by kernel_rfl, by kernel_rfl, by kernel_rfl, by kernel_rfl⟩
theorem tyok192 : TyOk Tryd.prog 192 ti192 := ⟨by kernel_rfl, by kernel_rfl, by kernel_rfl, by kernel_rfl, by kernel_rfl, by kernel_rfl⟩
theorem tyok193 : TyOk Tryd.prog 193 ti193 := ⟨by kernel_rfl, by kernel_rfl, by kernel_rfl, by kernel_rfl, by kernel_rfl, by kernel_rfl⟩
theorem tyok194 : TyOk Tryd.prog 194 ti194 := ⟨by kernel_rfl, by kernel_rfl, by kernel_rfl, by kernel_rfl, by kernel_rfl, by kernel_rfl⟩
theorem tyok195 : TyOk Tryd.prog 195 ti195 := ⟨by kernel_rfl, by kernel_rfl, by kernel_rfl, by kernel_rfl, by kernel_rfl, by kernel_rfl⟩
theorem tyok196 : TyOk Tryd.prog 196 ti196 := ⟨by kernel_rfl, by kernel_rfl, by kernel_rfl, by kernel_rfl, by kernel_rfl, by kernel_rfl⟩
theorem tyok197 : TyOk Tryd.prog 197 ti197 := ⟨by kernel_rfl, by kernel_rfl, by kernel_rfl, by kernel_rfl, by kernel_rfl, by kernel_rfl⟩
theorem tyok198 : TyOk Tryd.prog 198 ti198 := ⟨by kernel_rfl, by kernel_rfl, by kernel_rfl, by kernel_rfl, by kernel_rfl, by kernel_rfl⟩
theorem tyok199 : TyOk Tryd.prog 199 ti199 := ⟨by kernel_rfl, by kernel_rfl, by kernel_rfl, by kernel_rfl, by kernel_rfl, by kernel_rfl⟩
theorem tyok200 : TyOk Tryd.prog 200 ti200 := ⟨by kernel_rfl, by kernel_rfl, by kernel_rfl, by kernel_rfl, by kernel_rfl, by kernel_rfl⟩
theorem fnok6 : FnOk Tryd.prog 4 6 Tryd.f6 := ⟨Tryd.func6, by kernel_rfl, codeOf Tryd.f6, by kernel_rfl, by kernel_rfl, by kernel_rfl⟩
theorem fnok7 : FnOk Tryd.prog 4 7 Tryd.f7 := ⟨Tryd.func7, by kernel_rfl, codeOf Tryd.f7, by kernel_rfl, by kernel_rfl, by kernel_rfl⟩
theorem fnok8 : FnOk Tryd.prog 4 8 Tryd.f8 := ⟨Tryd.func8, by kernel_rfl, codeOf Tryd.f8, by kernel_rfl, by kernel_rfl, by kernel_rfl⟩
theorem fnok10 : FnOk Tryd.prog 4 10 Tryd.f10 := ⟨Tryd.func10, by kernel_rfl, codeOf Tryd.f10, by kernel_rfl, by kernel_rfl, by kernel_rfl⟩
theorem fnok11 : FnOk Tryd.prog 4 11 Tryd.f11 := ⟨Tryd.func11, by kernel_rfl, codeOf Tryd.f11, by kernel_rfl, by kernel_rfl, by kernel_rfl⟩
theorem fnok12 : FnOk Tryd.prog 4 12 Tryd.f12 := ⟨Tryd.func12, by kernel_rfl, codeOf Tryd.f12, by kernel_rfl, by kernel_rfl, by kernel_rfl⟩
theorem fnok13 : FnOk Tryd.prog 4 13 Tryd.f13 := ⟨Tryd.func13, by kernel_rfl, codeOf Tryd.f13, by kernel_rfl, by kernel_rfl, by kernel_rfl⟩
theorem fnok14 : FnOk Tryd.prog 4 14 Tryd.f14 := ⟨Tryd.func14, by kernel_rfl, codeOf Tryd.f14, by kernel_rfl, by kernel_rfl, by kernel_rfl⟩
theorem fnok15 : FnOk Tryd.prog 4 15 Tryd.f15 := ⟨Tryd.func15, by kernel_rfl, codeOf Tryd.f15, by kernel_rfl, by kernel_rfl, by kernel_rfl⟩
theorem fnok18 : FnOk Tryd.prog 4 18 Tryd.f18 := ⟨Tryd.func18, by kernel_rfl, codeOf Tryd.f18, by kernel_rfl, by kernel_rfl, by kernel_rfl⟩
theorem fnok19 : FnOk Tryd.prog 4 19 Tryd.f19 := ⟨Tryd.func19, by kernel_rfl, codeOf Tryd.f19, by kernel_rfl, by kernel_rfl, by kernel_rfl⟩
theorem fnok20 : FnOk Tryd.prog 4 20 Tryd.f20 := ⟨Tryd.func20, by kernel_rfl, codeOf Tryd.f20, by kernel_rfl, by kernel_rfl, by kernel_rfl⟩
theorem fnok21 : FnOk Tryd.prog 4 21 Tryd.f21 := ⟨Tryd.func21, by kernel_rfl, codeOf Tryd.f21, by kernel_rfl, by kernel_rfl, by kernel_rfl⟩
theorem fnok22 : FnOk Tryd.prog 4 22 Tryd.f22 := ⟨Tryd.func22, by kernel_rfl, codeOf Tryd.f22, by kernel_rfl, by kernel_rfl, by kernel_rfl⟩
theorem fnok23 : FnOk Tryd.prog 4 23 Tryd.f23 := ⟨Tryd.func23, by kernel_rfl, codeOf Tryd.f23, by kernel_rfl, by kernel_rfl, by kernel_rfl⟩
theorem fnok24 : FnOk Tryd.prog 4 24 Tryd.f24 := ⟨Tryd.func24, by kernel_rfl, codeOf Tryd.f24, by kernel_rfl, by kernel_rfl, by kernel_rfl⟩
theorem fnok25 : FnOk Tryd.prog 4 25 Tryd.f25 := ⟨Tryd.func25, by kernel_rfl, codeOf Tryd.f25, by kernel_rfl, by kernel_rfl, by kernel_rfl⟩
theorem fnok34 : FnOk Tryd.prog 4 34 Tryd.f34 := ⟨Tryd.func34, by kernel_rfl, codeOf Tryd.f34, by kernel_rfl, by kernel_rfl, by kernel_rfl⟩
theorem fnok35 : FnOk Tryd.prog 4 35 Tryd.f35 := ⟨Tryd.func35, by kernel_rfl, codeOf Tryd.f35, by kernel_rfl, by kernel_rfl, by kernel_rfl⟩
theorem fnok36 : FnOk Tryd.prog 4 36 Tryd.f36 := ⟨Tryd.func36, by kernel_rfl, codeOf Tryd.f36, by kernel_rfl, by kernel_rfl, by kernel_rfl⟩
theorem fnok38 : FnOk Tryd.prog 4 38 Tryd.f38 := ⟨Tryd.func38, by kernel_rfl, codeOf Tryd.f38, by kernel_rfl, by kernel_rfl, by kernel_rfl⟩
theorem fnok44 : FnOk Tryd.prog 4 44 Tryd.f44 := ⟨Tryd.func44, by kernel_rfl, codeOf Tryd.f44, by kernel_rfl, by kernel_rfl, by kernel_rfl⟩
theorem fnok45 : FnOk Tryd.prog 4 45 Tryd.f45 := ⟨Tryd.func45, by kernel_rfl, codeOf Tryd.f45, by kernel_rfl, by kernel_rfl, by kernel_rfl⟩
theorem fnok46 : FnOk Tryd.prog 4 46 Tryd.f46 := ⟨Tryd.func46, by kernel_rfl, codeOf Tryd.f46, by kernel_rfl, by kernel_rfl, by kernel_rfl⟩
theorem fnok47 : FnOk Tryd.prog 4 47 Tryd.f47 := ⟨Tryd.func47, by kernel_rfl, codeOf Tryd.f47, by kernel_rfl, by kernel_rfl, by kernel_rfl⟩
theorem fnok48 : FnOk Tryd.prog 4 48 Tryd.f48 := ⟨Tryd.func48, by kernel_rfl, codeOf Tryd.f48, by kernel_rfl, by kernel_rfl, by kernel_rfl⟩
theorem fnok49 : FnOk Tryd.prog 4 49 Tryd.f49 := ⟨Tryd.func49, by kernel_rfl, codeOf Tryd.f49, by kernel_rfl, by kernel_rfl, by kernel_rfl⟩
theorem fnok60 : FnOk Tryd.prog 4 60 Tryd.f60 := ⟨Tryd.func60, by kernel_rfl, codeOf Tryd.f60, by kernel_rfl, by kernel_rfl, by kernel_rfl⟩
theorem fnok66 : FnOk Tryd.prog 4 66 Tryd.f66 := ⟨Tryd.func66, by kernel_rfl, codeOf Tryd.f66, by kernel_rfl, by kernel_rfl, by kernel_rfl⟩
theorem fnok67 : FnOk Tryd.prog 4 67 Tryd.f67 := ⟨Tryd.func67, by kernel_rfl, codeOf Tryd.f67, by kernel_rfl, by kernel_rfl, by kernel_rfl⟩
theorem fnok68 : FnOk Tryd.prog 4 68 Tryd.f68 := ⟨Tryd.func68, by kernel_rfl, codeOf Tryd.f68, by kernel_rfl, by kernel_rfl, by kernel_rfl⟩
theorem fnok69 : FnOk Tryd.prog 4 69 Tryd.f69 := ⟨Tryd.func69, by kernel_rfl, codeOf Tryd.f69, by kernel_rfl, by kernel_rfl, by kernel_rfl⟩
theorem fnok70 : FnOk Tryd.prog 4 70 Tryd.f70 := ⟨Tryd.func70, by kernel_rfl, codeOf Tryd.f70, by kernel_rfl, by kernel_rfl, by kernel_rfl⟩
theorem fnok71 : FnOk Tryd.prog 4 71 Tryd.f71 := ⟨Tryd.func71, by kernel_rfl, codeOf Tryd.f71, by kernel_rfl, by kernel_rfl, by kernel_rfl⟩
theorem fnok72 : FnOk Tryd.prog 4 72 Tryd.f72 := ⟨Tryd.func72, by kernel_rfl, codeOf Tryd.f72, by kernel_rfl, by kernel_rfl, by kernel_rfl⟩
theorem fnok73 : FnOk Tryd.prog 4 73 Tryd.f73 := ⟨Tryd.func73, by kernel_rfl, codeOf Tryd.f73, by kernel_rfl, by kernel_rfl, by kernel_rfl⟩
theorem fnok74 : FnOk Tryd.prog 4 74 Tryd.f74 := ⟨Tryd.func74, by kernel_rfl, codeOf Tryd.f74, by kernel_rfl, by kernel_rfl, by kernel_rfl⟩
theorem fnok85 : FnOk Tryd.prog 4 85 Tryd.f85 := ⟨Tryd.func85, by kernel_rfl, codeOf Tryd.f85, by kernel_rfl, by kernel_rfl, by kernel_rfl⟩
theorem fnok87 : FnOk Tryd.prog 4 87 Tryd.f87 := ⟨Tryd.func87, by kernel_rfl, codeOf Tryd.f87, by kernel_rfl, by kernel_rfl, by kernel_rfl⟩
theorem fnok88 : FnOk Tryd.prog 4 88 Tryd.f88 := ⟨Tryd.func88, by kernel_rfl, codeOf Tryd.f88, by kernel_rfl, by kernel_rfl, by kernel_rfl⟩
theorem fnok89 : FnOk Tryd.prog 4 89 Tryd.f89 := ⟨Tryd.func89, by kernel_rfl, codeOf Tryd.f89, by kernel_rfl, by kernel_rfl, by kernel_rfl⟩
theorem fnok90 : FnOk Tryd.prog 4 90 Tryd.f90 := ⟨Tryd.func90, by kernel_rfl, codeOf Tryd.f90, by kernel_rfl, by kernel_rfl, by kernel_rfl⟩
theorem fnok95 : FnOk Tryd.prog 4 95 Tryd.f95 := ⟨Tryd.func95, by kernel_rfl, codeOf Tryd.f95, by kernel_rfl, by kernel_rfl, by kernel_rfl⟩
theorem fnok96 : FnOk Tryd.prog 4 96 Tryd.f96 := ⟨Tryd.func96, by kernel_rfl, codeOf Tryd.f96, by kernel_rfl, by kernel_rfl, by kernel_rfl⟩
theorem fnok98 : FnOk Tryd.prog 4 98 Tryd.f98 := ⟨Tryd.func98, by kernel_rfl, codeOf Tryd.f98, by kernel_rfl, by kernel_rfl, by kernel_rfl⟩
theorem fnok99 : FnOk Tryd.prog 4 99 Tryd.f99 := ⟨Tryd.func99, by kernel_rfl, codeOf Tryd.f99, by kernel_rfl, by kernel_rfl, by kernel_rfl⟩
theorem fnok100 : FnOk Tryd.prog 4 100 Tryd.f100 := ⟨Tryd.func100, by kernel_rfl, codeOf Tryd.f100, by kernel_rfl, by kernel_rfl, by kernel_rfl⟩
theorem fnok101 : FnOk Tryd.prog 4 101 Tryd.f101 := ⟨Tryd.func101, by kernel_rfl, codeOf Tryd.f101, by kernel_rfl, by kernel_rfl, by kernel_rfl⟩
theorem fnok103 : FnOk Tryd.prog 4 103 Tryd.f103 := ⟨Tryd.func103, by kernel_rfl, codeOf Tryd.f103, by kernel_rfl, by kernel_rfl, by kernel_rfl⟩
theorem tyT_ok : Tr.All (fun t i => TyOk Tryd.prog t i) tyT := by unfold tyT; exact (Tr.all_none (Tr.all_some tyok1 (Tr.all_some tyok3 (Tr.all_some tyok7 (Tr.all_some tyok15 (Tr.all_some tyok31 (Tr.all_some tyok63 (Tr.all_some tyok127 Tr.all_nil Tr.all_nil) (Tr.all_some tyok191 Tr.all_nil Tr.all_nil)) (Tr.all_some tyok95 (Tr.all_some tyok159 Tr.all_nil Tr.all_nil) Tr.all_nil)) (Tr.all_some tyok47 (Tr.all_some tyok79 (Tr.all_some tyok143 Tr.all_nil Tr.all_nil) Tr.all_nil) (Tr.all_some tyok111 (Tr.all_some tyok175 Tr.all_nil Tr.all_nil) Tr.all_nil))) (Tr.all_some tyok23 (Tr.all_some tyok39 (Tr.all_some tyok71 (Tr.all_some tyok135 Tr.all_nil Tr.all_nil) (Tr.all_some tyok199 Tr.all_nil Tr.all_nil)) (Tr.all_some tyok103 (Tr.all_some tyok167 Tr.all_nil Tr.all_nil) Tr.all_nil)) (Tr.all_some tyok55 (Tr.all_some tyok87 (Tr.all_some tyok151 Tr.all_nil Tr.all_nil) Tr.all_nil) (Tr.all_none (Tr.all_some tyok183 Tr.all_nil Tr.all_nil) Tr.all_nil)))) (Tr.all_some tyok11 (Tr.all_some tyok19 (Tr.all_some tyok35 (Tr.all_some tyok67 (Tr.all_some tyok131 Tr.all_nil Tr.all_nil) (Tr.all_some tyok195 Tr.all_nil Tr.all_nil)) (Tr.all_some tyok99 (Tr.all_some tyok163 Tr.all_nil Tr.all_nil) Tr.all_nil)) (Tr.all_some tyok51 (Tr.all_none (Tr.all_some tyok147 Tr.all_nil Tr.all_nil) Tr.all_nil) (Tr.all_some tyok115 (Tr.all_some tyok179 Tr.all_nil Tr.all_nil) Tr.all_nil))) (Tr.all_some tyok27 (Tr.all_some tyok43 (Tr.all_some tyok75 (Tr.all_some tyok139 Tr.all_nil Tr.all_nil) Tr.all_nil) (Tr.all_some tyok107 (Tr.all_some tyok171 Tr.all_nil Tr.all_nil) Tr.all_nil)) (Tr.all_some tyok59 (Tr.all_none (Tr.all_some tyok155 Tr.all_nil Tr.all_nil) Tr.all_nil) (Tr.all_none (Tr.all_some tyok187 Tr.all_nil Tr.all_nil) Tr.all_nil))))) (Tr.all_some tyok5 (Tr.all_some tyok9 (Tr.all_some tyok17 (Tr.all_some tyok33 (Tr.all_some tyok65 (Tr.all_some tyok129 Tr.all_nil Tr.all_nil) (Tr.all_some tyok193 Tr.all_nil Tr.all_nil)) (Tr.all_some tyok97 (Tr.all_some tyok161 Tr.all_nil Tr.all_nil) Tr.all_nil)) (Tr.all_some tyok49 (Tr.all_some tyok81 (Tr.all_some tyok145 Tr.all_nil Tr.all_nil) Tr.all_nil) (Tr.all_some tyok113 (Tr.all_some tyok177 Tr.all_nil Tr.all_nil) Tr.all_nil))) (Tr.all_none (Tr.all_some tyok41 (Tr.all_some tyok73 (Tr.all_some tyok137 Tr.all_nil Tr.all_nil) Tr.all_nil) (Tr.all_some tyok105 (Tr.all_some tyok169 Tr.all_nil Tr.all_nil) Tr.all_nil)) (Tr.all_some tyok57 (Tr.all_some tyok89 (Tr.all_some tyok153 Tr.all_nil Tr.all_nil) Tr.all_nil) (Tr.all_some tyok121 (Tr.all_some tyok185 Tr.all_nil Tr.all_nil) Tr.all_nil)))) (Tr.all_some tyok13 (Tr.all_some tyok21 (Tr.all_some tyok37 (Tr.all_some tyok69 (Tr.all_some tyok133 Tr.all_nil Tr.all_nil) (Tr.all_some tyok197 Tr.all_nil Tr.all_nil)) (Tr.all_some tyok101 (Tr.all_some tyok165 Tr.all_nil Tr.all_nil) Tr.all_nil)) (Tr.all_none (Tr.all_some tyok85 Tr.all_nil Tr.all_nil) (Tr.all_some tyok117 (Tr.all_some tyok181 Tr.all_nil Tr.all_nil) Tr.all_nil))) (Tr.all_some tyok29 (Tr.all_some tyok45 (Tr.all_some tyok77 Tr.all_nil Tr.all_nil) (Tr.all_some tyok109 (Tr.all_some tyok173 Tr.all_nil Tr.all_nil) Tr.all_nil)) (Tr.all_some tyok61 (Tr.all_some tyok93 (Tr.all_some tyok157 Tr.all_nil Tr.all_nil) Tr.all_nil) (Tr.all_some tyok125 (Tr.all_some tyok189 Tr.all_nil Tr.all_nil) Tr.all_nil)))))) (Tr.all_some tyok2 (Tr.all_some tyok4 (Tr.all_some tyok8 (Tr.all_some tyok16 (Tr.all_some tyok32 (Tr.all_some tyok64 (Tr.all_some tyok128 Tr.all_nil Tr.all_nil) (Tr.all_some tyok192 Tr.all_nil Tr.all_nil)) (Tr.all_some tyok96 (Tr.all_some tyok160 Tr.all_nil Tr.all_nil) Tr.all_nil)) (Tr.all_some tyok48 (Tr.all_some tyok80 (Tr.all_some tyok144 Tr.all_nil Tr.all_nil) Tr.all_nil) (Tr.all_some tyok112 (Tr.all_some tyok176 Tr.all_nil Tr.all_nil) Tr.all_nil))) (Tr.all_some tyok24 (Tr.all_some tyok40 (Tr.all_some tyok72 (Tr.all_some tyok136 Tr.all_nil Tr.all_nil) (Tr.all_some tyok200 Tr.all_nil Tr.all_nil)) (Tr.all_some tyok104 (Tr.all_some tyok168 Tr.all_nil Tr.all_nil) Tr.all_nil)) (Tr.all_some tyok56 (Tr.all_some tyok88 (Tr.all_some tyok152 Tr.all_nil Tr.all_nil) Tr.all_nil) (Tr.all_some tyok120 (Tr.all_some tyok184 Tr.all_nil Tr.all_nil) Tr.all_nil)))) (Tr.all_some tyok12 (Tr.all_some tyok20 (Tr.all_some tyok36 (Tr.all_none (Tr.all_some tyok132 Tr.all_nil Tr.all_nil) (Tr.all_some tyok196 Tr.all_nil Tr.all_nil)) (Tr.all_some tyok100 (Tr.all_some tyok164 Tr.all_nil Tr.all_nil) Tr.all_nil)) (Tr.all_some tyok52 (Tr.all_some tyok84 (Tr.all_some tyok148 Tr.all_nil Tr.all_nil) Tr.all_nil) (Tr.all_none (Tr.all_some tyok180 Tr.all_nil Tr.all_nil) Tr.all_nil))) (Tr.all_some tyok28 (Tr.all_some tyok44 (Tr.all_none (Tr.all_some tyok140 Tr.all_nil Tr.all_nil) Tr.all_nil) (Tr.all_some tyok108 (Tr.all_some tyok172 Tr.all_nil Tr.all_nil) Tr.all_nil)) (Tr.all_some tyok60 (Tr.all_some tyok92 (Tr.all_some tyok156 Tr.all_nil Tr.all_nil) Tr.all_nil) (Tr.all_some tyok124 (Tr.all_some tyok188 Tr.all_nil Tr.all_nil) Tr.all_nil))))) (Tr.all_some tyok6 (Tr.all_some tyok10 (Tr.all_some tyok18 (Tr.all_some tyok34 (Tr.all_none Tr.all_nil (Tr.all_some tyok194 Tr.all_nil Tr.all_nil)) (Tr.all_none (Tr.all_some tyok162 Tr.all_nil Tr.all_nil) Tr.all_nil)) (Tr.all_some tyok50 (Tr.all_some tyok82 (Tr.all_some tyok146 Tr.all_nil Tr.all_nil) Tr.all_nil) (Tr.all_some tyok114 (Tr.all_some tyok178 Tr.all_nil Tr.all_nil) Tr.all_nil))) (Tr.all_some tyok26 (Tr.all_some tyok42 (Tr.all_some tyok74 (Tr.all_some tyok138 Tr.all_nil Tr.all_nil) Tr.all_nil) (Tr.all_some tyok106 (Tr.all_some tyok170 Tr.all_nil Tr.all_nil) Tr.all_nil)) (Tr.all_some tyok58 (Tr.all_some tyok90 (Tr.all_some tyok154 Tr.all_nil Tr.all_nil) Tr.all_nil) (Tr.all_some tyok122 (Tr.all_some tyok186 Tr.all_nil Tr.all_nil) Tr.all_nil)))) (Tr.all_some tyok14 (Tr.all_some tyok22 (Tr.all_some tyok38 (Tr.all_some tyok70 (Tr.all_some tyok134 Tr.all_nil Tr.all_nil) (Tr.all_some tyok198 Tr.all_nil Tr.all_nil)) (Tr.all_some tyok102 (Tr.all_some tyok166 Tr.all_nil Tr.all_nil) Tr.all_nil)) (Tr.all_some tyok54 (Tr.all_some tyok86 (Tr.all_some tyok150 Tr.all_nil Tr.all_nil) Tr.all_nil) (Tr.all_some tyok118 (Tr.all_some tyok182 Tr.all_nil Tr.all_nil) Tr.all_nil))) (Tr.all_none (Tr.all_some tyok46 (Tr.all_some tyok78 (Tr.all_some tyok142 Tr.all_nil Tr.all_nil) Tr.all_nil) (Tr.all_some tyok110 (Tr.all_some tyok174 Tr.all_nil Tr.all_nil) Tr.all_nil)) (Tr.all_none (Tr.all_some tyok94 (Tr.all_some tyok158 Tr.all_nil Tr.all_nil) Tr.all_nil) (Tr.all_some tyok126 (Tr.all_some tyok190 Tr.all_nil Tr.all_nil) Tr.all_nil)))))))
theorem fnT_ok : Tr.All (fun f fn => FnOk Tryd.prog 4 f fn) fnT := by unfold fnT; exact (Tr.all_none (Tr.all_none (Tr.all_none (Tr.all_some fnok7 (Tr.all_some fnok15 (Tr.all_none Tr.all_nil (Tr.all_some fnok95 Tr.all_nil Tr.all_nil)) (Tr.all_some fnok47 Tr.all_nil Tr.all_nil)) (Tr.all_some fnok23 (Tr.all_none (Tr.all_some fnok71 Tr.all_nil Tr.all_nil) (Tr.all_some fnok103 Tr.all_nil Tr.all_nil)) (Tr.all_none (Tr.all_some fnok87 Tr.all_nil Tr.all_nil) Tr.all_nil))) (Tr.all_some fnok11 (Tr.all_some fnok19 (Tr.all_some fnok35 (Tr.all_some fnok67 Tr.all_nil Tr.all_nil) (Tr.all_some fnok99 Tr.all_nil Tr.all_nil)) Tr.all_nil) Tr.all_nil)) (Tr.all_none (Tr.all_none (Tr.all_none Tr.all_nil (Tr.all_some fnok49 Tr.all_nil Tr.all_nil)) (Tr.all_some fnok25 (Tr.all_none (Tr.all_some fnok73 Tr.all_nil Tr.all_nil) Tr.all_nil) (Tr.all_none (Tr.all_some fnok89 Tr.all_nil Tr.all_nil) Tr.all_nil))) (Tr.all_some fnok13 (Tr.all_some fnok21 (Tr.all_none (Tr.all_some fnok69 Tr.all_nil Tr.all_nil) (Tr.all_some fnok101 Tr.all_nil Tr.all_nil)) (Tr.all_none (Tr.all_some fnok85 Tr.all_nil Tr.all_nil) Tr.all_nil)) (Tr.all_none (Tr.all_some fnok45 Tr.all_nil Tr.all_nil) Tr.all_nil)))) (Tr.all_none (Tr.all_none (Tr.all_some fnok8 (Tr.all_none (Tr.all_none Tr.all_nil (Tr.all_some fnok96 Tr.all_nil Tr.all_nil)) (Tr.all_some fnok48 Tr.all_nil Tr.all_nil)) (Tr.all_some fnok24 (Tr.all_none (Tr.all_some fnok72 Tr.all_nil Tr.all_nil) Tr.all_nil) (Tr.all_none (Tr.all_some fnok88 Tr.all_nil Tr.all_nil) Tr.all_nil))) (Tr.all_some fnok12 (Tr.all_some fnok20 (Tr.all_some fnok36 (Tr.all_some fnok68 Tr.all_nil Tr.all_nil) (Tr.all_some fnok100 Tr.all_nil Tr.all_nil)) Tr.all_nil) (Tr.all_none (Tr.all_some fnok44 Tr.all_nil Tr.all_nil) (Tr.all_some fnok60 Tr.all_nil Tr.all_nil)))) (Tr.all_some fnok6 (Tr.all_some fnok10 (Tr.all_some fnok18 (Tr.all_some fnok34 (Tr.all_some fnok66 Tr.all_nil Tr.all_nil) (Tr.all_some fnok98 Tr.all_nil Tr.all_nil)) Tr.all_nil) (Tr.all_none (Tr.all_none (Tr.all_some fnok74 Tr.all_nil Tr.all_nil) Tr.all_nil) (Tr.all_none (Tr.all_some fnok90 Tr.all_nil Tr.all_nil) Tr.all_nil))) (Tr.all_some fnok14 (Tr.all_some fnok22 (Tr.all_some fnok38 (Tr.all_some fnok70 Tr.all_nil Tr.all_nil) Tr.all_nil) Tr.all_nil) (Tr.all_none (Tr.all_some fnok46 Tr.all_nil Tr.all_nil) Tr.all_nil)))))
end Go.Proofs.YteekjekckgpbfaaDoor.Abs
end
section
/-
 DERIVED: THE SHELF's CONTRACTS AT THIS DUMP, IN PLAIN WORDS (tools/lay-plain.mjs out of 'YteekjekckgpbfaaDoorShx.lean', which tools/lay-shelf.mjs wrote): THE SAME DECLARATIONS UNDER THE SAME NAMES: 'import', 'namespace', 'open', 'def', 'theorem' AND NOTHING ELSE: no command of the shelf's: FOR A HAND-IN. Each laying: the table of numbers ('.._ren') and one theorem, a field a fact of the dump's own or the kernel's comparison; each contract: ONE APPLICATION.
-/
namespace Go.Proofs
open Go.Shelf
def Tryd.laysM155_ren : Go.Shelf.Ren := ⟨fun | 155 => 17 | 154 => 43 | 138 => 63 | 165 => 39 | 143 => 64 | 166 => 40 | 197 => 65 | 169 => 42 | 195 => 83 | 218 => 84 | 240 => 61 | 241 => 62 | 219 => 85 | 260 => 86 | 276 => 81 | 277 => 82 | 217 => 87 | 225 => 94 | 224 => 95 | 267 => 96 | 266 => 97 | 314 => 103 | n => n, fun | 9 => 9 | 3 => 3 | 4 => 4 | 72 => 81 | 0 => 0 | 76 => 83 | 105 => 123 | 21 => 21 | 5 => 5 | 70 => 78 | 20 => 20 | 37 => 79 | 75 => 24 | 127 => 121 | 164 => 100 | 46 => 75 | 119 => 156 | 139 => 159 | 138 => 158 | 146 => 116 | 51 => 115 | 80 => 86 | n => n, fun | 1 => 1 | 3 => 2 | 4 => 3 | n => n⟩
theorem Tryd.laysM155 : Go.Proofs.LaysM.n155 Tryd.prog Tryd.laysM155_ren := {
 mixed := by kernel_rfl
 f138 := Tryd.func63.trans (congrArg some (by kernel_rfl))
 f143 := Tryd.func64.trans (congrArg some (by kernel_rfl))
 f154 := Tryd.func43.trans (congrArg some (by kernel_rfl))
 f155 := Tryd.func17.trans (congrArg some (by kernel_rfl))
 f165 := Tryd.func39.trans (congrArg some (by kernel_rfl))
 f166 := Tryd.func40.trans (congrArg some (by kernel_rfl))
 f169 := Tryd.func42.trans (congrArg some (by kernel_rfl))
 f195 := Tryd.func83.trans (congrArg some (by kernel_rfl))
 f197 := Tryd.func65.trans (congrArg some (by kernel_rfl))
 f217 := Tryd.func87.trans (congrArg some (by kernel_rfl))
 f218 := Tryd.func84.trans (congrArg some (by kernel_rfl))
 f219 := Tryd.func85.trans (congrArg some (by kernel_rfl))
 f224 := Tryd.func95.trans (congrArg some (by kernel_rfl))
 f225 := Tryd.func94.trans (congrArg some (by kernel_rfl))
 f240 := Tryd.func61.trans (congrArg some (by kernel_rfl))
 f241 := Tryd.func62.trans (congrArg some (by kernel_rfl))
 f260 := Tryd.func86.trans (congrArg some (by kernel_rfl))
 f266 := Tryd.func97.trans (congrArg some (by kernel_rfl))
 f267 := Tryd.func96.trans (congrArg some (by kernel_rfl))
 f276 := Tryd.func81.trans (congrArg some (by kernel_rfl))
 f277 := Tryd.func82.trans (congrArg some (by kernel_rfl))
 f314 := Tryd.func103.trans (congrArg some (by kernel_rfl))
 t0 := Tryd.underlying0
 a0 := Tryd.isAgg0
 z0 := Tryd.sizeOf0
 v0 := Tryd.zeroValue0
 t3 := Tryd.underlying3
 a3 := Tryd.isAgg3
 z3 := Tryd.sizeOf3
 v3 := Tryd.zeroValue3
 t4 := Tryd.underlying4
 a4 := Tryd.isAgg4
 z4 := Tryd.sizeOf4
 v4 := Tryd.zeroValue4
 t5 := Tryd.underlying5
 a5 := Tryd.isAgg5
 z5 := Tryd.sizeOf5
 v5 := Tryd.zeroValue5
 t9 := Tryd.underlying9
 a9 := Tryd.isAgg9
 z9 := Tryd.sizeOf9
 v9 := Tryd.zeroValue9
 t20 := Tryd.underlying20
 a20 := Tryd.isAgg20
 z20 := Tryd.sizeOf20
 v20 := Tryd.zeroValue20
 t21 := Tryd.underlying21
 a21 := Tryd.isAgg21
 z21 := Tryd.sizeOf21
 v21 := Tryd.zeroValue21
 t37 := Tryd.underlying79
 a37 := Tryd.isAgg79
 z37 := Tryd.sizeOf79
 v37 := Tryd.zeroValue79
 t46 := Tryd.underlying75
 a46 := Tryd.isAgg75
 z46 := Tryd.sizeOf75
 v46 := Tryd.zeroValue75
 t51 := Tryd.underlying115
 a51 := Tryd.isAgg115
 z51 := Tryd.sizeOf115
 v51 := Tryd.zeroValue115
 t70 := Tryd.underlying78
 a70 := Tryd.isAgg78
 z70 := Tryd.sizeOf78
 v70 := Tryd.zeroValue78
 t72 := Tryd.underlying81
 a72 := Tryd.isAgg81
 z72 := Tryd.sizeOf81
 v72 := Tryd.zeroValue81
 t75 := Tryd.underlying24
 a75 := Tryd.isAgg24
 z75 := Tryd.sizeOf24
 v75 := Tryd.zeroValue24
 t76 := Tryd.underlying83
 a76 := Tryd.isAgg83
 z76 := Tryd.sizeOf83
 v76 := Tryd.zeroValue83
 t105 := Tryd.underlying123
 a105 := Tryd.isAgg123
 z105 := Tryd.sizeOf123
 v105 := Tryd.zeroValue123
 t119 := Tryd.underlying156
 a119 := Tryd.isAgg156
 z119 := Tryd.sizeOf156
 t127 := Tryd.underlying121
 a127 := Tryd.isAgg121
 z127 := Tryd.sizeOf121
 v127 := Tryd.zeroValue121
 t138 := Tryd.underlying158
 a138 := Tryd.isAgg158
 z138 := Tryd.sizeOf158
 v138 := Tryd.zeroValue158
 t139 := Tryd.underlying159
 a139 := Tryd.isAgg159
 z139 := Tryd.sizeOf159
 v139 := Tryd.zeroValue159
 t146 := Tryd.underlying116
 a146 := Tryd.isAgg116
 z146 := Tryd.sizeOf116
 v146 := Tryd.zeroValue116
 t164 := Tryd.underlying100
 a164 := Tryd.isAgg100
 z164 := Tryd.sizeOf100
 v164 := Tryd.zeroValue100
 g1 := by kernel_rfl
 g3 := by kernel_rfl
 g4 := by kernel_rfl
 t80 := Tryd.underlying86
 a80 := Tryd.isAgg86
 z80 := Tryd.sizeOf86
 v80 := Tryd.zeroValue86
 i0 := by kernel_rfl
 i3 := by kernel_rfl
 i4 := by kernel_rfl
 i5 := by kernel_rfl
 i9 := by kernel_rfl
 i20 := by kernel_rfl
 i21 := by kernel_rfl
 i37 := by kernel_rfl
 i46 := by kernel_rfl
 i51 := by kernel_rfl
 i70 := by kernel_rfl
 i72 := by kernel_rfl
 i75 := by kernel_rfl
 i76 := by kernel_rfl
 i80 := by kernel_rfl
 i105 := by kernel_rfl
 i127 := by kernel_rfl
 i138 := by kernel_rfl
 i139 := by kernel_rfl
 i146 := by kernel_rfl
 i164 := by kernel_rfl
 m1 := by kernel_rfl
 s1_3 := fun w h => Go.Proofs.cell_of_shapedOpen_int (zero := #[.int .i64 0]) (t := 3) h (of_decide_eq_true (by kernel_rfl)) (by kernel_rfl) rfl (by kernel_rfl) (by kernel_rfl) Tryd.underlying3
 m3 := by kernel_rfl
 m4 := by kernel_rfl }
theorem Tryd.Builder_Extra_M155 : Builder.Extra Tryd.prog Tryd.laysM155_ren := {
 sizeBuilder := by kernel_rfl
 liesBuilder := by kernel_rfl
 t5 := Tryd.underlying5
 a5 := Tryd.isAgg5
 z5 := Tryd.sizeOf5
 v5 := Tryd.zeroValue5
 infoByte := by kernel_rfl
 cellsByte := by kernel_rfl
 sizeByte := by kernel_rfl
 neB5 := by decide }
open Go.RowKit Go.Lib in
theorem Tryd.strings_ReplaceAll_shaped (s old new : ByteArray) (w : World) (h : w.ShapedOpen Tryd.prog) (hs : s.size < 4294967281) (h1 : 1 ≤ old.size) (hlen : s.size + Lib.countB s old * new.size ≤ 140737488355328) :
  Calls Tryd.prog 17 #[.string s, .string old, .string new] w fun e w' =>
   e = .returned (.string ⟨(Lib.replaceAll s.data.toList old.data.toList new.data.toList).toArray⟩) ∧ Below w.heap.size w w' := Any.strings_ReplaceAll_shaped Tryd.laysM155 Tryd.Builder_Extra_M155 s old new w h hs h1 hlen
def Tryd.lays105_ren : Go.Shelf.Ren := ⟨fun | 105 => 16 | 212 => 37 | 99 => 38 | 165 => 39 | 166 => 40 | 170 => 41 | 169 => 42 | 263 => 58 | 264 => 59 | 206 => 60 | 240 => 61 | 241 => 62 | 276 => 81 | 277 => 82 | n => n, fun | 9 => 9 | 3 => 3 | 4 => 4 | 20 => 20 | 0 => 0 | 46 => 75 | 109 => 76 | 5 => 5 | 72 => 81 | 76 => 83 | 51 => 115 | 146 => 116 | 53 => 118 | 148 => 119 | 70 => 78 | 37 => 79 | 75 => 24 | 127 => 121 | 164 => 100 | 80 => 86 | n => n, fun | n => n⟩
theorem Tryd.lays105 : Go.Proofs.Lays.n105 Tryd.prog Tryd.lays105_ren := {
 mixed := by kernel_rfl
 f99 := Tryd.func38.trans (congrArg some (by kernel_rfl))
 f105 := Tryd.func16.trans (congrArg some (by kernel_rfl))
 f165 := Tryd.func39.trans (congrArg some (by kernel_rfl))
 f166 := Tryd.func40.trans (congrArg some (by kernel_rfl))
 f169 := Tryd.func42.trans (congrArg some (by kernel_rfl))
 f170 := Tryd.func41.trans (congrArg some (by kernel_rfl))
 f206 := Tryd.func60.trans (congrArg some (by kernel_rfl))
 f212 := Tryd.func37.trans (congrArg some (by kernel_rfl))
 f240 := Tryd.func61.trans (congrArg some (by kernel_rfl))
 f241 := Tryd.func62.trans (congrArg some (by kernel_rfl))
 f263 := Tryd.func58.trans (congrArg some (by kernel_rfl))
 f264 := Tryd.func59.trans (congrArg some (by kernel_rfl))
 f276 := Tryd.func81.trans (congrArg some (by kernel_rfl))
 f277 := Tryd.func82.trans (congrArg some (by kernel_rfl))
 t0 := Tryd.underlying0
 a0 := Tryd.isAgg0
 z0 := Tryd.sizeOf0
 v0 := Tryd.zeroValue0
 t3 := Tryd.underlying3
 a3 := Tryd.isAgg3
 z3 := Tryd.sizeOf3
 v3 := Tryd.zeroValue3
 t4 := Tryd.underlying4
 a4 := Tryd.isAgg4
 z4 := Tryd.sizeOf4
 v4 := Tryd.zeroValue4
 t5 := Tryd.underlying5
 a5 := Tryd.isAgg5
 z5 := Tryd.sizeOf5
 v5 := Tryd.zeroValue5
 t9 := Tryd.underlying9
 a9 := Tryd.isAgg9
 z9 := Tryd.sizeOf9
 v9 := Tryd.zeroValue9
 t20 := Tryd.underlying20
 a20 := Tryd.isAgg20
 z20 := Tryd.sizeOf20
 v20 := Tryd.zeroValue20
 t37 := Tryd.underlying79
 a37 := Tryd.isAgg79
 z37 := Tryd.sizeOf79
 v37 := Tryd.zeroValue79
 t46 := Tryd.underlying75
 a46 := Tryd.isAgg75
 z46 := Tryd.sizeOf75
 v46 := Tryd.zeroValue75
 t51 := Tryd.underlying115
 a51 := Tryd.isAgg115
 z51 := Tryd.sizeOf115
 v51 := Tryd.zeroValue115
 t53 := Tryd.underlying118
 a53 := Tryd.isAgg118
 z53 := Tryd.sizeOf118
 v53 := Tryd.zeroValue118
 t70 := Tryd.underlying78
 a70 := Tryd.isAgg78
 z70 := Tryd.sizeOf78
 v70 := Tryd.zeroValue78
 t72 := Tryd.underlying81
 a72 := Tryd.isAgg81
 z72 := Tryd.sizeOf81
 v72 := Tryd.zeroValue81
 t75 := Tryd.underlying24
 a75 := Tryd.isAgg24
 z75 := Tryd.sizeOf24
 v75 := Tryd.zeroValue24
 t76 := Tryd.underlying83
 a76 := Tryd.isAgg83
 z76 := Tryd.sizeOf83
 v76 := Tryd.zeroValue83
 t109 := Tryd.underlying76
 a109 := Tryd.isAgg76
 z109 := Tryd.sizeOf76
 v109 := Tryd.zeroValue76
 t127 := Tryd.underlying121
 a127 := Tryd.isAgg121
 z127 := Tryd.sizeOf121
 v127 := Tryd.zeroValue121
 t146 := Tryd.underlying116
 a146 := Tryd.isAgg116
 z146 := Tryd.sizeOf116
 v146 := Tryd.zeroValue116
 t148 := Tryd.underlying119
 a148 := Tryd.isAgg119
 z148 := Tryd.sizeOf119
 v148 := Tryd.zeroValue119
 t164 := Tryd.underlying100
 a164 := Tryd.isAgg100
 z164 := Tryd.sizeOf100
 v164 := Tryd.zeroValue100 }
theorem Tryd.Builder_Extra_105 : Builder.Extra Tryd.prog Tryd.lays105_ren := {
 sizeBuilder := by kernel_rfl
 liesBuilder := by kernel_rfl
 t5 := Tryd.underlying5
 a5 := Tryd.isAgg5
 z5 := Tryd.sizeOf5
 v5 := Tryd.zeroValue5
 infoByte := by kernel_rfl
 cellsByte := by kernel_rfl
 sizeByte := by kernel_rfl
 neB5 := by decide }
open Go.RowKit Go.Lib in
theorem Tryd.strings_Repeat_main (s : ByteArray) (c : Nat) (w : World) (hc2 : 2 ≤ c) (hc : c ≤ 9223372036854775807) (hlen : s.size * c ≤ 140737488355328) (h0 : 0 < s.size) :
  Calls Tryd.prog 16 #[.string s, .int .i64 c] w fun e w' => e = .returned (.string ⟨(Lib.repeatL s.data.toList c).toArray⟩) ∧ Below w.heap.size w w' := Any.strings_Repeat_main Tryd.lays105 Tryd.Builder_Extra_105 s c w hc2 hc hlen h0
open Go.RowKit Go.Lib in
theorem Tryd.strings_Repeat (s : ByteArray) (c : Nat) (w : World) (hc : c ≤ 9223372036854775807) (hlen : s.size * c ≤ 140737488355328) :
  Calls Tryd.prog 16 #[.string s, .int .i64 c] w fun e w' => e = .returned (.string ⟨(Lib.repeatL s.data.toList c).toArray⟩) ∧ Below w.heap.size w w' := Any.strings_Repeat Tryd.lays105 Tryd.Builder_Extra_105 s c w hc hlen
end Go.Proofs
end
section
namespace Go.Proofs.YteekjekckgpbfaaDoor.Abs
open Go.RowKit (Below)
open Go.Shelf Go.Lib
section
variable {B : Nat} {w0 : World}
theorem ty0 : ∀ t i, E0.ty t = some i → TyOk Tryd.prog t i := fun t i h => tyT_ok.get () () t i h
def TypeCell (w : World) : Prop := w.cell? ⟨0, 0, none⟩ = some (.iface 136 (.agg #[.pointer (some ⟨4, 24, none⟩)])) ∧ ∃ m, w.cell? ⟨1, 0, none⟩ = some (.int .i64 m)
theorem TypeCell.type {w : World} (h : TypeCell w) : w.cell? ⟨0, 0, none⟩ = some (.iface 136 (.agg #[.pointer (some ⟨4, 24, none⟩)])) := h.1
theorem TypeCell.keep {w : World} (h0 : TypeCell w0) (hb : Below B w0 w) (hB : 1 < B) : TypeCell w :=
 ⟨(hb.cell (p := ⟨0, 0, none⟩) (by show 0 < B; omega)).trans h0.1, let ⟨m, hm⟩ := h0.2; ⟨m, (hb.cell (p := ⟨1, 0, none⟩) hB).trans hm⟩⟩
theorem rep_ok {σ : Sg} {h h' : Heap} {w : World} {x y x' y' : Value} {r : Res} (e : repA x y h = some (r, h')) (hx : VR Tryd.prog σ x x') (hy : VR Tryd.prog σ y y') (H : HR Tryd.prog B w0 σ h w) :
  CallOk Tryd.prog B w0 σ 16 [x', y'] w h' r := by
 have hrun : (callFunc 16 ⟨[x', y']⟩).run Tryd.prog w = .ok (.enter 16 ⟨[x', y']⟩) w := run_callFunc_body Tryd.func16 (by kernel_rfl) (c := codeOf Tryd.f16) (by kernel_rfl) _ _
 refine ⟨hrun, ?_⟩
 unfold repA at e
 split at e
 ·rename_i s n
  cases hc : (decide (0 ≤ n) && decide (n ≤ 100000) && decide (slen s ≤ 100000)) with
  | false => rw [hc] at e; cases e
  | true =>
   rw [hc] at e
   simp only [cond_true, Option.some.injEq, Prod.mk.injEq] at e
   obtain ⟨rfl, rfl⟩ := e
   simp only [Bool.and_eq_true, decide_eq_true_eq] at hc
   obtain ⟨⟨h1, h2⟩, h3⟩ := hc
   cases hx
   cases hy
   obtain ⟨c, rfl⟩ : ∃ c : Nat, n = c := ⟨n.toNat, by omega⟩
   have hl : s.size * c ≤ 140737488355328 := by
    have : s.size = slen s := rfl
    rw [this]
    have : slen s * c ≤ 100000 * 100000 := Nat.mul_le_mul h3 (by omega)
    omega
   refine (Tryd.strings_Repeat s c w (by omega) hl).mono fun en w' hq => ?_
   obtain ⟨rfl, hb⟩ := hq
   exact ⟨_, σ, rfl, Sg.le.refl σ, HR_below H hb, .string _⟩
 ·cases e
theorem repl_ok {σ : Sg} {h h' : Heap} {w : World} {x y z x' y' z' : Value} {r : Res} (h0 : TypeCell w0) (hB : 1 < B) (e : replA x y z h = some (r, h')) (hx : VR Tryd.prog σ x x') (hy : VR Tryd.prog σ y y') (hz : VR Tryd.prog σ z z') (H : HR Tryd.prog B w0 σ h w) :
  CallOk Tryd.prog B w0 σ 17 [x', y', z'] w h' r := by
 have hrun : (callFunc 17 ⟨[x', y', z']⟩).run Tryd.prog w = .ok (.enter 17 ⟨[x', y', z']⟩) w := run_callFunc_body Tryd.func17 (by kernel_rfl) (c := codeOf Tryd.f17) (by kernel_rfl) _ _
 refine ⟨hrun, ?_⟩
 unfold replA at e
 split at e
 ·rename_i s o n
  cases hc : (decide (slen s ≤ 100000) && decide (1 ≤ slen o) && decide (slen n ≤ 1000)) with
  | false => rw [hc] at e; cases e
  | true =>
   rw [hc] at e
   simp only [cond_true, Option.some.injEq, Prod.mk.injEq] at e
   obtain ⟨rfl, rfl⟩ := e
   simp only [Bool.and_eq_true, decide_eq_true_eq] at hc
   obtain ⟨⟨h1, h2⟩, h3⟩ := hc
   cases hx
   cases hy
   cases hz
   obtain ⟨m, hm⟩ := (h0.keep H.below hB).2
   have e1 : s.size = slen s := rfl
   have e2 : o.size = slen o := rfl
   have e3 : n.size = slen n := rfl
   have hmul := Lib.countB_mul_le o (by rw [e2]; exact h2) s.size s (Nat.le_refl _)
   have hcl : Lib.countB s o ≤ 100000 := by
    have : Lib.countB s o * 1 ≤ Lib.countB s o * o.size := Nat.mul_le_mul_left _ (by rw [e2]; exact h2)
    omega
   have hl : s.size + Lib.countB s o * n.size ≤ 140737488355328 := by
    have : Lib.countB s o * n.size ≤ 100000 * 1000 := Nat.mul_le_mul hcl (by rw [e3]; exact h3)
    omega
   refine (Any.strings_ReplaceAll { Tryd.laysM155 with } Tryd.Builder_Extra_M155 s o n m w (by omega) hm (by rw [e2]; exact h2) hl).mono fun en w' hq => ?_
   obtain ⟨rfl, hb⟩ := hq
   exact ⟨_, σ, rfl, Sg.le.refl σ, HR_below H hb, .string _⟩
 ·cases e
theorem cell_of_blk {P : Program} {σ : Sg} {h : Heap} {w : World} (H : HR P B w0 σ h w) {b : Nat} {k : Blk} (hk : h.blk b = some k) (hown : k.own = true) {l : Loc} (hl : σ b = some l) {off : Nat} (ho : off < k.cells.length) :
  (∃ old, w.cell? ⟨l.b, l.s + off, none⟩ = some old) ∧ w.frozen? ⟨l.b, l.s + off, none⟩ = false := by
 obtain ⟨l', hl', he, cs, fr, hw, hn, hv, hf⟩ := H.obj _ _ (Heap.blk_some hk)
 rw [hl] at hl'
 injection hl' with hl'
 subst hl'
 obtain ⟨rfl, hB, hls⟩ := hf hown
 rw [hls, List.drop_zero] at hv
 rw [hls, Nat.zero_add]
 have hlen : k.cells.length ≤ cs.size := by have := hv.length; simp at this; omega
 refine ⟨⟨cs[off]'(by omega), ?_⟩, ?_⟩
 ·simp [World.cell?, hw]
 ·simp [World.frozen?, hw]
theorem as_ok {σ : Sg} {h h' : Heap} {w : World} {x p x' p' : Value} {r : Res} (h0 : TypeCell w0) (hB : 1 < B) (e : asA x p h = some (r, h')) (hx : VR Tryd.prog σ x x') (hp : VR Tryd.prog σ p p') (H : HR Tryd.prog B w0 σ h w) :
  CallOk Tryd.prog B w0 σ 32 [x', p'] w h' r := by
 have hrun : (callFunc 32 ⟨[x', p']⟩).run Tryd.prog w = .ok (.enter 32 ⟨[x', p']⟩) w := run_callFunc_body Tryd.func32 (by kernel_rfl) (c := codeOf Tryd.f32) (by kernel_rfl) _ _
 refine ⟨hrun, ?_⟩
 unfold asA at e
 split at e
 ·simp only [Option.some.injEq, Prod.mk.injEq] at e
  obtain ⟨rfl, rfl⟩ := e
  cases hx
  refine (as_nil p' w).mono fun en w' hq => ?_
  obtain ⟨rfl, rfl⟩ := hq
  exact ⟨_, σ, rfl, Sg.le.refl σ, H, .bool _⟩
 ·rename_i t ea u q
  cases hc : (t == 51 && u == 71) with
  | false => rw [hc] at e; cases e
  | true =>
   rw [hc] at e
   simp only [cond_true] at e
   simp only [Bool.and_eq_true, beq_iff_eq] at hc
   obtain ⟨rfl, rfl⟩ := hc
   split at e
   ·cases e
   ·rename_i h2 hst
    simp only [Option.some.injEq, Prod.mk.injEq] at e
    obtain ⟨rfl, rfl⟩ := e
    cases hx
    rename_i xe hxe
    cases hp
    rename_i q' hq
    have hst0 := hst
    unfold storeA at hst
    split at hst
    ·rename_i b off
     split at hst
     ·cases hst
     ·rename_i k hk
      cases hq
      rename_i l hl
      split at hst
      ·cases hst
      ·rename_i i hi
       cases hcc : (k.own && (vcells (.pointer (some ea))).length == i.size && (vcells (.pointer (some ea))).all oneC && decide (off + (vcells (.pointer (some ea))).length ≤ k.cells.length)) with
       | false => rw [hcc] at hst; cases hst
       | true =>
        simp only [Bool.and_eq_true, decide_eq_true_eq, vcells, List.length_cons, List.length_nil] at hcc
        obtain ⟨⟨old, hold⟩, hfz⟩ := cell_of_blk H hk hcc.1.1.1 hl (off := off) (by have h7 := hcc.2; simp at h7; omega)
        cases hxe
        rename_i bb oo ll hll
        have hcell := (h0.keep H.below hB).type
        refine (as_hit _ ⟨l.b, l.s + off, none⟩ old w hcell hold hfz).mono fun en w' hq => ?_
        obtain ⟨rfl, rfl⟩ := hq
        have hlt : l.b < w.heap.size := H.lt _ _ hl
        generalize hw1 : ((((w.alloc (.cells #[.pointer (some ⟨l.b, l.s + off, none⟩)] 71)).alloc (.cells #[.pointer (some ⟨4, 71, none⟩), .pointer (some ⟨w.heap.size, 0, none⟩), .int .u64 150] 103)).alloc (.cells #[.pointer (some ⟨4, 71, none⟩), .pointer (some ⟨w.heap.size, 0, none⟩), .int .u64 150] 103)).alloc (.cells #[.pointer (some ⟨ll.b, ll.s + oo, none⟩)] 51)) = w1
        have hb1 : Below w.heap.size w w1 := by
         rw [← hw1]
         exact ((((Below.refl _ w).alloc (Nat.le_refl _) _).alloc (by simp) _).alloc (by simp; omega) _).alloc (by simp; omega) _
        have H1 := HR_below H hb1
        obtain ⟨w', hr, H'⟩ := store_sound ty0 H1 (.ptr b off l hl) (.ptr bb oo ll hll) hst0
        have hc1 : w1.cell? ⟨l.b, l.s + off, none⟩ = some old := (hb1.cell hlt).trans hold
        have hf1 : w1.frozen? ⟨l.b, l.s + off, none⟩ = false := (hb1.frozen hlt).trans hfz
        have hr2 : (Instr.storeAt 51 (.pointer (some ⟨l.b, l.s + off, none⟩)) (.pointer (some ⟨ll.b, ll.s + oo, none⟩))).run Tryd.prog w1 = .ok () (w1.setCell ⟨l.b, l.s + off, none⟩ (.pointer (some ⟨ll.b, ll.s + oo, none⟩))) := by
         simp [Instr.storeAt, Instr.sureAddr, storeVar, As.size25, Value.cells, storeCells, Addr.add]
         rw [run_store Tryd.prog w1 ⟨l.b, l.s + off, none⟩ _ _ (by rfl)]
         simp [hc1, hf1]
        rw [hr2] at hr
        injection hr with _ hw'
        subst hw'
        exact ⟨_, σ, rfl, Sg.le.refl σ, H', .bool _⟩
    ·cases hst
 ·cases e
theorem is_ok {σ : Sg} {h h' : Heap} {w : World} {x p x' p' : Value} {r : Res} (e : isA x p h = some (r, h')) (hx : VR Tryd.prog σ x x') (hp : VR Tryd.prog σ p p') (H : HR Tryd.prog B w0 σ h w) :
  CallOk Tryd.prog B w0 σ 33 [x', p'] w h' r := by
 have hrun : (callFunc 33 ⟨[x', p']⟩).run Tryd.prog w = .ok (.enter 33 ⟨[x', p']⟩) w := run_callFunc_body Tryd.func33 (by kernel_rfl) (c := codeOf Tryd.f33) (by kernel_rfl) _ _
 refine ⟨hrun, ?_⟩
 unfold isA at e
 split at e
 ·rename_i t q u n
  cases hc : (t == 51 && u == 27) with
  | false => rw [hc] at e; cases e
  | true =>
   rw [hc] at e
   simp only [cond_true] at e
   simp only [Bool.and_eq_true, beq_iff_eq] at hc
   obtain ⟨rfl, rfl⟩ := hc
   split at e
   ·rename_i m hld
    simp only [Option.some.injEq, Prod.mk.injEq] at e
    obtain ⟨rfl, rfl⟩ := e
    cases hx
    rename_i q' hq
    cases hp
    rename_i n' hn
    cases hn
    have hld0 := hld
    obtain ⟨v', hr, hv⟩ := load_sound ty0 H hq hld
    cases hv
    unfold loadA at hld
    split at hld
    ·rename_i b off
     cases hq
     rename_i l hl
     split at hld
     ·cases hld
     ·rename_i k hk
      have hcell : w.cell? ⟨l.b, l.s + off, none⟩ = some (.int .i64 m) := by
       obtain ⟨l', hl', he, cs, fr, hw, hn, hv, _⟩ := H.obj _ _ (Heap.blk_some hk)
       have hll : l = l' := Option.some.inj (hl.symm.trans hl')
       clear hr
       subst hll
       have hi : E0.ty 27 = some ti27 := by kernel_rfl
       simp only [hi] at hld
       have hagg : isAggD ti27.desc = false := by kernel_rfl
       simp only [partA, hagg, cond_false] at hld
       obtain ⟨u, h1, h2⟩ := hv.get hld
       cases h2
       rw [List.getElem?_take, List.getElem?_drop] at h1
       split at h1
       ·simp only [World.cell?, hw]
        simpa using h1
       ·cases h1
      refine (is_fault ⟨l.b, l.s + off, none⟩ m n w hcell rfl).mono fun en w' hq => ?_
      obtain ⟨rfl, rfl⟩ := hq
      exact ⟨_, σ, rfl, Sg.le.refl σ, H, .bool _⟩
    ·cases hld
   ·cases e
 ·cases e
theorem ext_ok (h0 : TypeCell w0) (hB : 1 < B) : ∀ f args h r h', extL f args h = some (r, h') → ∀ σ w args', VRL Tryd.prog σ args args' → HR Tryd.prog B w0 σ h w → CallOk Tryd.prog B w0 σ f args' w h' r := by
 intro f args h r h' e σ w args' ha H
 unfold extL at e
 split at e
 ·rename_i x y
  cases ha with
  | cons _ x' _ l1 hx ha =>
   cases ha with
   | cons _ y' _ l2 hy ha =>
    cases ha
    by_cases h32 : f = 32
    ·subst h32
     simp only [beq_self_eq_true, cond_true] at e
     exact as_ok h0 hB e hx hy H
    ·have : (f == 32) = false := by simpa using h32
     simp only [this, cond_false] at e
     by_cases h33 : f = 33
     ·subst h33
      simp only [beq_self_eq_true, cond_true] at e
      exact is_ok e hx hy H
     ·have : (f == 33) = false := by simpa using h33
      simp only [this, cond_false] at e
      by_cases h16 : f = 16
      ·subst h16
       simp only [beq_self_eq_true, cond_true] at e
       exact rep_ok e hx hy H
      ·have : (f == 16) = false := by simpa using h16
       simp [this] at e
 ·rename_i x y z
  cases ha with
  | cons _ x' _ l1 hx ha =>
   cases ha with
   | cons _ y' _ l2 hy ha =>
    cases ha with
    | cons _ z' _ l3 hz ha =>
     cases ha
     by_cases h17 : f = 17
     ·subst h17
      simp only [beq_self_eq_true, cond_true] at e
      exact repl_ok h0 hB e hx hy hz H
     ·have : (f == 17) = false := by simpa using h17
      simp [this] at e
 ·cases e
end
end Go.Proofs.YteekjekckgpbfaaDoor.Abs
end
