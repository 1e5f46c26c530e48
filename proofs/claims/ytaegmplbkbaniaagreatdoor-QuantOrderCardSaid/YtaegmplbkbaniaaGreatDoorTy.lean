/-
  THE ABSTRACT MACHINE at this program: what its types are; by the kernel. No condition.
-/
import Derived.Test.YtaegmplbkbaniaaGreatDoorEnv
set_option linter.all false
namespace Go.Proofs.YtaegmplbkbaniaaGreatDoor
open Go
set_option maxRecDepth 100000
theorem ty2 : tyOf Tryz.prog 2 = some ⟨(.int .i64), 1, 8, (some [.int .i64 0]), true⟩ := by kernel_rfl
theorem ty3 : tyOf Tryz.prog 3 = some ⟨(.int .i64), 1, 8, (some [.int .i64 0]), true⟩ := by kernel_rfl
theorem ty4 : tyOf Tryz.prog 4 = some ⟨.bool, 1, 1, (some [.bool false]), true⟩ := by kernel_rfl
theorem ty5 : tyOf Tryz.prog 5 = some ⟨(.int .u8), 1, 1, (some [.int .u8 0]), true⟩ := by kernel_rfl
theorem ty6 : tyOf Tryz.prog 6 = some ⟨(.int .u8), 1, 1, (some [.int .u8 0]), true⟩ := by kernel_rfl
theorem ty7 : tyOf Tryz.prog 7 = some ⟨(.strc [(0, 2), (1, 3), (2, 4), (3, 6)]), 4, 24, (some [.int .i64 0, .int .i64 0, .bool false, .int .u8 0]), true⟩ := by kernel_rfl
theorem ty8 : tyOf Tryz.prog 8 = some ⟨(.strc [(0, 2), (1, 3), (2, 4), (3, 6)]), 4, 24, (some [.int .i64 0, .int .i64 0, .bool false, .int .u8 0]), true⟩ := by kernel_rfl
theorem ty9 : tyOf Tryz.prog 9 = some ⟨.str, 1, 16, (some [.string ⟨#[]⟩]), true⟩ := by kernel_rfl
theorem ty10 : tyOf Tryz.prog 10 = some ⟨.str, 1, 16, (some [.string ⟨#[]⟩]), true⟩ := by kernel_rfl
theorem ty11 : tyOf Tryz.prog 11 = some ⟨.str, 1, 16, (some [.string ⟨#[]⟩]), true⟩ := by kernel_rfl
theorem ty12 : tyOf Tryz.prog 12 = some ⟨(.int .u64), 1, 8, (some [.int .u64 0]), true⟩ := by kernel_rfl
theorem ty13 : tyOf Tryz.prog 13 = some ⟨(.strc [(0, 9), (1, 12)]), 2, 24, (some [.string ⟨#[]⟩, .int .u64 0]), true⟩ := by kernel_rfl
theorem ty14 : tyOf Tryz.prog 14 = some ⟨(.strc [(0, 9), (1, 12)]), 2, 24, (some [.string ⟨#[]⟩, .int .u64 0]), true⟩ := by kernel_rfl
theorem ty15 : tyOf Tryz.prog 15 = some ⟨(.ptr 268), 1, 8, (some [.pointer none]), true⟩ := by kernel_rfl
theorem ty16 : tyOf Tryz.prog 16 = some ⟨(.ptr 271), 1, 8, (some [.pointer none]), true⟩ := by kernel_rfl
theorem ty17 : tyOf Tryz.prog 17 = some ⟨(.ptr 279), 1, 8, (some [.pointer none]), true⟩ := by kernel_rfl
theorem ty18 : tyOf Tryz.prog 18 = some ⟨(.strc [(0, 17)]), 1, 8, (some [.pointer none]), true⟩ := by kernel_rfl
theorem ty19 : tyOf Tryz.prog 19 = some ⟨(.strc [(0, 17)]), 1, 8, (some [.pointer none]), true⟩ := by kernel_rfl
theorem ty20 : tyOf Tryz.prog 20 = some ⟨.iface, 1, 16, (some [.nilIface]), true⟩ := by kernel_rfl
theorem ty21 : tyOf Tryz.prog 21 = some ⟨(.int .i32), 1, 4, (some [.int .i32 0]), true⟩ := by kernel_rfl
theorem ty22 : tyOf Tryz.prog 22 = some ⟨(.slc 29), 1, 24, (some [.slice none 0 0]), false⟩ := by kernel_rfl
theorem ty24 : tyOf Tryz.prog 24 = some ⟨(.ptr 94), 1, 8, (some [.pointer none]), true⟩ := by kernel_rfl
theorem ty26 : tyOf Tryz.prog 26 = some ⟨(.ptr 96), 1, 8, (some [.pointer none]), true⟩ := by kernel_rfl
theorem ty28 : tyOf Tryz.prog 28 = some ⟨(.strc [(0, 3), (1, 3)]), 2, 16, (some [.int .i64 0, .int .i64 0]), true⟩ := by kernel_rfl
theorem ty29 : tyOf Tryz.prog 29 = some ⟨(.strc [(0, 3), (1, 3)]), 2, 16, (some [.int .i64 0, .int .i64 0]), true⟩ := by kernel_rfl
theorem ty30 : tyOf Tryz.prog 30 = some ⟨(.int .i64), 1, 8, (some [.int .i64 0]), true⟩ := by kernel_rfl
theorem ty33 : tyOf Tryz.prog 33 = some ⟨(.slc 3), 1, 24, (some [.slice none 0 0]), false⟩ := by kernel_rfl
theorem ty36 : tyOf Tryz.prog 36 = some ⟨(.slc 38), 1, 24, (some [.slice none 0 0]), false⟩ := by kernel_rfl
theorem ty37 : tyOf Tryz.prog 37 = some ⟨(.slc 21), 1, 24, (some [.slice none 0 0]), false⟩ := by kernel_rfl
theorem ty38 : tyOf Tryz.prog 38 = some ⟨(.slc 21), 1, 24, (some [.slice none 0 0]), false⟩ := by kernel_rfl
theorem ty53 : tyOf Tryz.prog 53 = some ⟨(.slc 5), 1, 24, (some [.slice none 0 0]), false⟩ := by kernel_rfl
theorem ty54 : tyOf Tryz.prog 54 = some ⟨(.strc [(0, 53)]), 1, 24, (some [.slice none 0 0]), false⟩ := by kernel_rfl
theorem ty55 : tyOf Tryz.prog 55 = some ⟨(.strc [(0, 53)]), 1, 24, (some [.slice none 0 0]), false⟩ := by kernel_rfl
theorem ty57 : tyOf Tryz.prog 57 = some ⟨(.ptr 55), 1, 8, (some [.pointer none]), true⟩ := by kernel_rfl
theorem ty59 : tyOf Tryz.prog 59 = some ⟨(.ptr 117), 1, 8, (some [.pointer none]), true⟩ := by kernel_rfl
theorem ty68 : tyOf Tryz.prog 68 = some ⟨(.strc [(0, 37), (1, 37)]), 2, 48, (some [.slice none 0 0, .slice none 0 0]), false⟩ := by kernel_rfl
theorem ty69 : tyOf Tryz.prog 69 = some ⟨(.strc [(0, 37), (1, 37)]), 2, 48, (some [.slice none 0 0, .slice none 0 0]), false⟩ := by kernel_rfl
theorem ty74 : tyOf Tryz.prog 74 = some ⟨(.strc [(0, 37), (1, 37)]), 2, 48, (some [.slice none 0 0, .slice none 0 0]), false⟩ := by kernel_rfl
theorem ty75 : tyOf Tryz.prog 75 = some ⟨(.map 3 4), 1, 8, (some [.map none]), false⟩ := by kernel_rfl
theorem ty81 : tyOf Tryz.prog 81 = some ⟨(.strc [(0, 3), (1, 2)]), 2, 16, (some [.int .i64 0, .int .i64 0]), true⟩ := by kernel_rfl
theorem ty82 : tyOf Tryz.prog 82 = some ⟨(.strc [(0, 3), (1, 2)]), 2, 16, (some [.int .i64 0, .int .i64 0]), true⟩ := by kernel_rfl
theorem ty87 : tyOf Tryz.prog 87 = some ⟨(.ptr 125), 1, 8, (some [.pointer none]), true⟩ := by kernel_rfl
theorem ty90 : tyOf Tryz.prog 90 = some ⟨(.slc 82), 1, 24, (some [.slice none 0 0]), false⟩ := by kernel_rfl
theorem ty92 : tyOf Tryz.prog 92 = some ⟨(.map 3 33), 1, 8, (some [.map none]), false⟩ := by kernel_rfl
theorem ty93 : tyOf Tryz.prog 93 = some ⟨(.strc [(0, 33), (1, 92)]), 2, 32, (some [.slice none 0 0, .map none]), false⟩ := by kernel_rfl
theorem ty94 : tyOf Tryz.prog 94 = some ⟨(.strc [(0, 33), (1, 92)]), 2, 32, (some [.slice none 0 0, .map none]), false⟩ := by kernel_rfl
theorem ty95 : tyOf Tryz.prog 95 = some ⟨(.strc [(0, 33)]), 1, 24, (some [.slice none 0 0]), false⟩ := by kernel_rfl
theorem ty96 : tyOf Tryz.prog 96 = some ⟨(.strc [(0, 33)]), 1, 24, (some [.slice none 0 0]), false⟩ := by kernel_rfl
theorem ty105 : tyOf Tryz.prog 105 = some ⟨(.slc 36), 1, 24, (some [.slice none 0 0]), false⟩ := by kernel_rfl
theorem ty107 : tyOf Tryz.prog 107 = some ⟨(.slc 2), 1, 24, (some [.slice none 0 0]), false⟩ := by kernel_rfl
theorem ty116 : tyOf Tryz.prog 116 = some ⟨(.strc [(0, 53), (1, 4)]), 2, 32, (some [.slice none 0 0, .bool false]), false⟩ := by kernel_rfl
theorem ty117 : tyOf Tryz.prog 117 = some ⟨(.strc [(0, 53), (1, 4)]), 2, 32, (some [.slice none 0 0, .bool false]), false⟩ := by kernel_rfl
theorem ty124 : tyOf Tryz.prog 124 = some ⟨(.strc [(0, 90), (1, 3)]), 2, 32, (some [.slice none 0 0, .int .i64 0]), false⟩ := by kernel_rfl
theorem ty125 : tyOf Tryz.prog 125 = some ⟨(.strc [(0, 90), (1, 3)]), 2, 32, (some [.slice none 0 0, .int .i64 0]), false⟩ := by kernel_rfl
theorem ty129 : tyOf Tryz.prog 129 = some ⟨(.slc 33), 1, 24, (some [.slice none 0 0]), false⟩ := by kernel_rfl
theorem ty136 : tyOf Tryz.prog 136 = some ⟨(.int .u64), 1, 8, (some [.int .u64 0]), true⟩ := by kernel_rfl
theorem ty142 : tyOf Tryz.prog 142 = some ⟨(.ptr 179), 1, 8, (some [.pointer none]), true⟩ := by kernel_rfl
theorem ty144 : tyOf Tryz.prog 144 = some ⟨(.ptr 181), 1, 8, (some [.pointer none]), true⟩ := by kernel_rfl
theorem ty151 : tyOf Tryz.prog 151 = some ⟨(.ptr 189), 1, 8, (some [.pointer none]), true⟩ := by kernel_rfl
theorem ty155 : tyOf Tryz.prog 155 = some ⟨(.slc 53), 1, 24, (some [.slice none 0 0]), false⟩ := by kernel_rfl
theorem ty164 : tyOf Tryz.prog 164 = some ⟨(.int .i64), 1, 8, (some [.int .i64 0]), true⟩ := by kernel_rfl
theorem ty172 : tyOf Tryz.prog 172 = some ⟨(.int .u32), 1, 4, (some [.int .u32 0]), true⟩ := by kernel_rfl
theorem ty174 : tyOf Tryz.prog 174 = some ⟨(.int .u64), 1, 8, (some [.int .u64 0]), true⟩ := by kernel_rfl
theorem ty176 : tyOf Tryz.prog 176 = some ⟨(.slc 187), 1, 24, (some [.slice none 0 0]), false⟩ := by kernel_rfl
theorem ty177 : tyOf Tryz.prog 177 = some ⟨(.slc 4), 1, 24, (some [.slice none 0 0]), false⟩ := by kernel_rfl
theorem ty178 : tyOf Tryz.prog 178 = some ⟨(.strc [(0, 176), (1, 176), (2, 177), (3, 4), (4, 4), (5, 3)]), 6, 88, (some [.slice none 0 0, .slice none 0 0, .slice none 0 0, .bool false, .bool false, .int .i64 0]), false⟩ := by kernel_rfl
theorem ty179 : tyOf Tryz.prog 179 = some ⟨(.strc [(0, 176), (1, 176), (2, 177), (3, 4), (4, 4), (5, 3)]), 6, 88, (some [.slice none 0 0, .slice none 0 0, .slice none 0 0, .bool false, .bool false, .int .i64 0]), false⟩ := by kernel_rfl
theorem ty180 : tyOf Tryz.prog 180 = some ⟨(.strc [(0, 142), (1, 2), (2, 4)]), 3, 24, (some [.pointer none, .int .i64 0, .bool false]), true⟩ := by kernel_rfl
theorem ty181 : tyOf Tryz.prog 181 = some ⟨(.strc [(0, 142), (1, 2), (2, 4)]), 3, 24, (some [.pointer none, .int .i64 0, .bool false]), true⟩ := by kernel_rfl
theorem ty186 : tyOf Tryz.prog 186 = some ⟨(.arr 64 5), 64, 64, (some [.int .u8 0, .int .u8 0, .int .u8 0, .int .u8 0, .int .u8 0, .int .u8 0, .int .u8 0, .int .u8 0, .int .u8 0, .int .u8 0, .int .u8 0, .int .u8 0, .int .u8 0, .int .u8 0, .int .u8 0, .int .u8 0, .int .u8 0, .int .u8 0, .int .u8 0, .int .u8 0, .int .u8 0, .int .u8 0, .int .u8 0, .int .u8 0, .int .u8 0, .int .u8 0, .int .u8 0, .int .u8 0, .int .u8 0, .int .u8 0, .int .u8 0, .int .u8 0, .int .u8 0, .int .u8 0, .int .u8 0, .int .u8 0, .int .u8 0, .int .u8 0, .int .u8 0, .int .u8 0, .int .u8 0, .int .u8 0, .int .u8 0, .int .u8 0, .int .u8 0, .int .u8 0, .int .u8 0, .int .u8 0, .int .u8 0, .int .u8 0, .int .u8 0, .int .u8 0, .int .u8 0, .int .u8 0, .int .u8 0, .int .u8 0, .int .u8 0, .int .u8 0, .int .u8 0, .int .u8 0, .int .u8 0, .int .u8 0, .int .u8 0, .int .u8 0]), true⟩ := by kernel_rfl
theorem ty187 : tyOf Tryz.prog 187 = some ⟨(.arr 64 5), 64, 64, (some [.int .u8 0, .int .u8 0, .int .u8 0, .int .u8 0, .int .u8 0, .int .u8 0, .int .u8 0, .int .u8 0, .int .u8 0, .int .u8 0, .int .u8 0, .int .u8 0, .int .u8 0, .int .u8 0, .int .u8 0, .int .u8 0, .int .u8 0, .int .u8 0, .int .u8 0, .int .u8 0, .int .u8 0, .int .u8 0, .int .u8 0, .int .u8 0, .int .u8 0, .int .u8 0, .int .u8 0, .int .u8 0, .int .u8 0, .int .u8 0, .int .u8 0, .int .u8 0, .int .u8 0, .int .u8 0, .int .u8 0, .int .u8 0, .int .u8 0, .int .u8 0, .int .u8 0, .int .u8 0, .int .u8 0, .int .u8 0, .int .u8 0, .int .u8 0, .int .u8 0, .int .u8 0, .int .u8 0, .int .u8 0, .int .u8 0, .int .u8 0, .int .u8 0, .int .u8 0, .int .u8 0, .int .u8 0, .int .u8 0, .int .u8 0, .int .u8 0, .int .u8 0, .int .u8 0, .int .u8 0, .int .u8 0, .int .u8 0, .int .u8 0, .int .u8 0]), true⟩ := by kernel_rfl
theorem ty188 : tyOf Tryz.prog 188 = some ⟨(.strc [(0, 142), (1, 144), (2, 2), (3, 2), (4, 3), (5, 4)]), 6, 48, (some [.pointer none, .pointer none, .int .i64 0, .int .i64 0, .int .i64 0, .bool false]), true⟩ := by kernel_rfl
theorem ty189 : tyOf Tryz.prog 189 = some ⟨(.strc [(0, 142), (1, 144), (2, 2), (3, 2), (4, 3), (5, 4)]), 6, 48, (some [.pointer none, .pointer none, .int .i64 0, .int .i64 0, .int .i64 0, .bool false]), true⟩ := by kernel_rfl
theorem ty206 : tyOf Tryz.prog 206 = some ⟨(.int .u64), 1, 8, (some [.int .u64 0]), true⟩ := by kernel_rfl
theorem ty210 : tyOf Tryz.prog 210 = some ⟨(.ptr 3), 1, 8, (some [.pointer none]), true⟩ := by kernel_rfl
theorem ty215 : tyOf Tryz.prog 215 = some ⟨.iface, 1, 16, (some [.nilIface]), true⟩ := by kernel_rfl
theorem ty216 : tyOf Tryz.prog 216 = some ⟨.iface, 1, 16, (some [.nilIface]), true⟩ := by kernel_rfl
theorem ty220 : tyOf Tryz.prog 220 = some ⟨(.slc 9), 1, 24, (some [.slice none 0 0]), false⟩ := by kernel_rfl
theorem ty225 : tyOf Tryz.prog 225 = some ⟨(.ptr 206), 1, 8, (some [.pointer none]), true⟩ := by kernel_rfl
theorem ty228 : tyOf Tryz.prog 228 = some ⟨(.ptr 230), 1, 8, (some [.pointer none]), true⟩ := by kernel_rfl
theorem ty229 : tyOf Tryz.prog 229 = some ⟨(.strc [(0, 9), (1, 216)]), 2, 32, (some [.string ⟨#[]⟩, .nilIface]), true⟩ := by kernel_rfl
theorem ty230 : tyOf Tryz.prog 230 = some ⟨(.strc [(0, 9), (1, 216)]), 2, 32, (some [.string ⟨#[]⟩, .nilIface]), true⟩ := by kernel_rfl
theorem ty232 : tyOf Tryz.prog 232 = some ⟨(.ptr 30), 1, 8, (some [.pointer none]), true⟩ := by kernel_rfl
theorem ty237 : tyOf Tryz.prog 237 = some ⟨(.int .u64), 1, 8, (some [.int .u64 0]), true⟩ := by kernel_rfl
theorem ty238 : tyOf Tryz.prog 238 = some ⟨(.strc [(0, 17), (1, 236), (2, 237)]), 3, 24, (some [.pointer none, .pointer none, .int .u64 0]), true⟩ := by kernel_rfl
theorem ty239 : tyOf Tryz.prog 239 = some ⟨(.strc [(0, 17), (1, 236), (2, 237)]), 3, 24, (some [.pointer none, .pointer none, .int .u64 0]), true⟩ := by kernel_rfl
theorem ty241 : tyOf Tryz.prog 241 = some ⟨.iface, 1, 16, (some [.nilIface]), true⟩ := by kernel_rfl
theorem ty242 : tyOf Tryz.prog 242 = some ⟨.iface, 1, 16, (some [.nilIface]), true⟩ := by kernel_rfl
theorem ty244 : tyOf Tryz.prog 244 = some ⟨(.int .u8), 1, 1, (some [.int .u8 0]), true⟩ := by kernel_rfl
theorem ty250 : tyOf Tryz.prog 250 = some ⟨(.strc [(0, 17)]), 1, 8, (some [.pointer none]), true⟩ := by kernel_rfl
theorem ty251 : tyOf Tryz.prog 251 = some ⟨(.strc [(0, 17)]), 1, 8, (some [.pointer none]), true⟩ := by kernel_rfl
theorem ty252 : tyOf Tryz.prog 252 = some ⟨(.ptr 284), 1, 8, (some [.pointer none]), true⟩ := by kernel_rfl
theorem ty255 : tyOf Tryz.prog 255 = some ⟨.iface, 1, 16, (some [.nilIface]), true⟩ := by kernel_rfl
theorem ty258 : tyOf Tryz.prog 258 = some ⟨.iface, 1, 16, (some [.nilIface]), true⟩ := by kernel_rfl
theorem ty260 : tyOf Tryz.prog 260 = some ⟨.iface, 1, 16, (some [.nilIface]), true⟩ := by kernel_rfl
theorem ty261 : tyOf Tryz.prog 261 = some ⟨(.slc 216), 1, 24, (some [.slice none 0 0]), false⟩ := by kernel_rfl
theorem ty263 : tyOf Tryz.prog 263 = some ⟨.iface, 1, 16, (some [.nilIface]), true⟩ := by kernel_rfl
theorem ty267 : tyOf Tryz.prog 267 = some ⟨(.strc [(0, 17), (1, 17), (2, 17), (3, 9)]), 4, 40, (some [.pointer none, .pointer none, .pointer none, .string ⟨#[]⟩]), true⟩ := by kernel_rfl
theorem ty268 : tyOf Tryz.prog 268 = some ⟨(.strc [(0, 17), (1, 17), (2, 17), (3, 9)]), 4, 40, (some [.pointer none, .pointer none, .pointer none, .string ⟨#[]⟩]), true⟩ := by kernel_rfl
theorem ty269 : tyOf Tryz.prog 269 = some ⟨(.arr 0 16), 0, 0, (some []), true⟩ := by kernel_rfl
theorem ty270 : tyOf Tryz.prog 270 = some ⟨(.strc [(0, 269)]), 0, 0, (some []), true⟩ := by kernel_rfl
theorem ty271 : tyOf Tryz.prog 271 = some ⟨(.strc [(0, 269)]), 0, 0, (some []), true⟩ := by kernel_rfl
theorem ty273 : tyOf Tryz.prog 273 = some ⟨(.int .u8), 1, 1, (some [.int .u8 0]), true⟩ := by kernel_rfl
theorem ty275 : tyOf Tryz.prog 275 = some ⟨(.ptr 5), 1, 8, (some [.pointer none]), true⟩ := by kernel_rfl
theorem ty276 : tyOf Tryz.prog 276 = some ⟨(.int .i32), 1, 4, (some [.int .i32 0]), true⟩ := by kernel_rfl
theorem ty277 : tyOf Tryz.prog 277 = some ⟨(.int .i32), 1, 4, (some [.int .i32 0]), true⟩ := by kernel_rfl
theorem ty278 : tyOf Tryz.prog 278 = some ⟨(.strc [(0, 12), (1, 12), (2, 172), (3, 273), (4, 5), (5, 5), (6, 244), (7, 274), (8, 275), (9, 276), (10, 277)]), 11, 48, (some [.int .u64 0, .int .u64 0, .int .u32 0, .int .u8 0, .int .u8 0, .int .u8 0, .int .u8 0, .nilFunc, .pointer none, .int .i32 0, .int .i32 0]), false⟩ := by kernel_rfl
theorem ty279 : tyOf Tryz.prog 279 = some ⟨(.strc [(0, 12), (1, 12), (2, 172), (3, 273), (4, 5), (5, 5), (6, 244), (7, 274), (8, 275), (9, 276), (10, 277)]), 11, 48, (some [.int .u64 0, .int .u64 0, .int .u32 0, .int .u8 0, .int .u8 0, .int .u8 0, .int .u8 0, .nilFunc, .pointer none, .int .i32 0, .int .i32 0]), false⟩ := by kernel_rfl
theorem ty283 : tyOf Tryz.prog 283 = some ⟨(.strc [(0, 9), (1, 244)]), 2, 24, (some [.string ⟨#[]⟩, .int .u8 0]), true⟩ := by kernel_rfl
theorem ty284 : tyOf Tryz.prog 284 = some ⟨(.strc [(0, 9), (1, 244)]), 2, 24, (some [.string ⟨#[]⟩, .int .u8 0]), true⟩ := by kernel_rfl
theorem ty285 : tyOf Tryz.prog 285 = some ⟨(.ptr 289), 1, 8, (some [.pointer none]), true⟩ := by kernel_rfl
theorem ty287 : tyOf Tryz.prog 287 = some ⟨(.int .u16), 1, 2, (some [.int .u16 0]), true⟩ := by kernel_rfl
theorem ty288 : tyOf Tryz.prog 288 = some ⟨(.strc [(0, 276), (1, 287), (2, 287), (3, 172), (4, 172)]), 5, 16, (some [.int .i32 0, .int .u16 0, .int .u16 0, .int .u32 0, .int .u32 0]), true⟩ := by kernel_rfl
theorem ty289 : tyOf Tryz.prog 289 = some ⟨(.strc [(0, 276), (1, 287), (2, 287), (3, 172), (4, 172)]), 5, 16, (some [.int .i32 0, .int .u16 0, .int .u16 0, .int .u32 0, .int .u32 0]), true⟩ := by kernel_rfl
theorem ty290 : tyOf Tryz.prog 290 = some ⟨(.slc 293), 1, 24, (some [.slice none 0 0]), false⟩ := by kernel_rfl
theorem ty291 : tyOf Tryz.prog 291 = some ⟨(.int .i32), 1, 4, (some [.int .i32 0]), true⟩ := by kernel_rfl
theorem ty292 : tyOf Tryz.prog 292 = some ⟨(.strc [(0, 276), (1, 277), (2, 291), (3, 291)]), 4, 16, (some [.int .i32 0, .int .i32 0, .int .i32 0, .int .i32 0]), true⟩ := by kernel_rfl
theorem ty293 : tyOf Tryz.prog 293 = some ⟨(.strc [(0, 276), (1, 277), (2, 291), (3, 291)]), 4, 16, (some [.int .i32 0, .int .i32 0, .int .i32 0, .int .i32 0]), true⟩ := by kernel_rfl
theorem ty294 : tyOf Tryz.prog 294 = some ⟨(.ptr 216), 1, 8, (some [.pointer none]), true⟩ := by kernel_rfl
theorem ty83 : tyOf Tryz.prog 83 = some ⟨.func, 1, 8, (some [.nilFunc]), false⟩ := by kernel_rfl
theorem ty89 : tyOf Tryz.prog 89 = some ⟨.func, 1, 8, (some [.nilFunc]), false⟩ := by kernel_rfl
theorem ty100 : tyOf Tryz.prog 100 = some ⟨.func, 1, 8, (some [.nilFunc]), false⟩ := by kernel_rfl
theorem ty104 : tyOf Tryz.prog 104 = some ⟨.func, 1, 8, (some [.nilFunc]), false⟩ := by kernel_rfl
theorem ty110 : tyOf Tryz.prog 110 = some ⟨.func, 1, 8, (some [.nilFunc]), false⟩ := by kernel_rfl
theorem ty112 : tyOf Tryz.prog 112 = some ⟨.func, 1, 8, (some [.nilFunc]), false⟩ := by kernel_rfl
end Go.Proofs.YtaegmplbkbaniaaGreatDoor
