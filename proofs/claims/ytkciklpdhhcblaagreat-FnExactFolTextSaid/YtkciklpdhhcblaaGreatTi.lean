/- The type table of the seat YtkciklpdhhcblaaGreat: what the framework asks of each type that is plain data; printed by gen_ti.py. -/
import Derived.Test.YtkciklpdhhcblaaGreatSm20
import Derived.Test.YtkciklpdhhcblaaGreatProg
import Derived.KernelRfl
namespace Go.Proofs.YtkciklpdhhcblaaGreat
open Go Go.Proofs Go.Sm

def ti : TT
  | 2 => { ok := true, desc := .int .i64, sz := 1, by_ := 8, zv := .int .i64 0, z := [.sc (.int .i64 0)] }
  | 3 => { ok := true, desc := .int .i64, sz := 1, by_ := 8, zv := .int .i64 0, z := [.sc (.int .i64 0)] }
  | 4 => { ok := true, desc := .bool, sz := 1, by_ := 1, zv := .bool false, z := [.sc (.bool false)] }
  | 5 => { ok := true, desc := .int .u8, sz := 1, by_ := 1, zv := .int .u8 0, z := [.sc (.int .u8 0)] }
  | 9 => { ok := true, desc := .string, sz := 1, by_ := 16, zv := .string ⟨#[]⟩, z := [.sc (.string ⟨#[]⟩)] }
  | 21 => { ok := true, desc := .int .i32, sz := 1, by_ := 4, zv := .int .i32 0, z := [.sc (.int .i32 0)] }
  | 22 => { ok := true, desc := .slice 176, sz := 1, by_ := 24, zv := .slice none 0 0, z := [.ls [.sc (.string ⟨#[]⟩), .ls [.sc (.string ⟨#[]⟩), .sc (.int .i64 0), .sc (.bool false), .sc (.bool false), .sc (.int .i64 0), .sc (.int .i64 0), .sc (.string ⟨#[]⟩)] [], .ls [.sc (.string ⟨#[]⟩)] []] []], ms := [.o 176 (fun _ => [.s, .o 244 (fun _ => [.s, .s, .s, .s, .s, .s, .s]), .o 9 (fun _ => [.s])])] }
  | 24 => { ok := true, desc := .struct #[fld "Tables" 22 0 0 ""], sz := 1, by_ := 24, zv := .agg #[.slice none 0 0], z := [.ls [.sc (.string ⟨#[]⟩), .ls [.sc (.string ⟨#[]⟩), .sc (.int .i64 0), .sc (.bool false), .sc (.bool false), .sc (.int .i64 0), .sc (.int .i64 0), .sc (.string ⟨#[]⟩)] [], .ls [.sc (.string ⟨#[]⟩)] []] []], ms := [.o 176 (fun _ => [.s, .o 244 (fun _ => [.s, .s, .s, .s, .s, .s, .s]), .o 9 (fun _ => [.s])])] }
  | 25 => { ok := true, desc := .slice 130, sz := 1, by_ := 24, zv := .slice none 0 0, z := [.ls [.ls [.ls [.sc (.int .i64 0), .sc (.int .i64 0), .sc (.string ⟨#[]⟩)] []] []] []], ms := [.o 130 (fun _ => [.o 90 (fun _ => [.o 228 (fun _ => [.s, .s, .s])])])] }
  | 27 => { ok := true, desc := .struct #[fld "Cat" 24 0 0 "", fld "Data" 25 1 24 ""], sz := 2, by_ := 48, zv := .agg #[.slice none 0 0, .slice none 0 0], z := [.ls [.sc (.string ⟨#[]⟩), .ls [.sc (.string ⟨#[]⟩), .sc (.int .i64 0), .sc (.bool false), .sc (.bool false), .sc (.int .i64 0), .sc (.int .i64 0), .sc (.string ⟨#[]⟩)] [], .ls [.sc (.string ⟨#[]⟩)] []] [], .ls [.ls [.ls [.sc (.int .i64 0), .sc (.int .i64 0), .sc (.string ⟨#[]⟩)] []] []] []], ms := [.o 176 (fun _ => [.s, .o 244 (fun _ => [.s, .s, .s, .s, .s, .s, .s]), .o 9 (fun _ => [.s])]), .o 130 (fun _ => [.o 90 (fun _ => [.o 228 (fun _ => [.s, .s, .s])])])] }
  | 29 => { ok := true, desc := .struct #[fld "Db" 27 0 0 "", fld "At" 3 2 48 "", fld "Halt" 3 3 56 ""], sz := 4, by_ := 64, zv := .agg #[.slice none 0 0, .slice none 0 0, .int .i64 0, .int .i64 0], z := [.ls [.sc (.string ⟨#[]⟩), .ls [.sc (.string ⟨#[]⟩), .sc (.int .i64 0), .sc (.bool false), .sc (.bool false), .sc (.int .i64 0), .sc (.int .i64 0), .sc (.string ⟨#[]⟩)] [], .ls [.sc (.string ⟨#[]⟩)] []] [], .ls [.ls [.ls [.sc (.int .i64 0), .sc (.int .i64 0), .sc (.string ⟨#[]⟩)] []] []] [], .sc (.int .i64 0), .sc (.int .i64 0)], ms := [.o 176 (fun _ => [.s, .o 244 (fun _ => [.s, .s, .s, .s, .s, .s, .s]), .o 9 (fun _ => [.s])]), .o 130 (fun _ => [.o 90 (fun _ => [.o 228 (fun _ => [.s, .s, .s])])]), .s, .s] }
  | 32 => { ok := true, desc := .slice 119, sz := 1, by_ := 24, zv := .slice none 0 0, z := [.ls [.sc (.string ⟨#[]⟩), .ls [.sc (.string ⟨#[]⟩), .sc (.int .i64 0), .sc (.bool false), .sc (.bool false), .sc (.int .i64 0), .sc (.int .i64 0), .sc (.string ⟨#[]⟩)] [], .ls [.sc (.string ⟨#[]⟩)] []] []], ms := [.o 119 (fun _ => [.s, .o 136 (fun _ => [.s, .s, .s, .s, .s, .s, .s]), .o 9 (fun _ => [.s])])] }
  | 34 => { ok := true, desc := .struct #[fld "Tables" 32 0 0 ""], sz := 1, by_ := 24, zv := .agg #[.slice none 0 0], z := [.ls [.sc (.string ⟨#[]⟩), .ls [.sc (.string ⟨#[]⟩), .sc (.int .i64 0), .sc (.bool false), .sc (.bool false), .sc (.int .i64 0), .sc (.int .i64 0), .sc (.string ⟨#[]⟩)] [], .ls [.sc (.string ⟨#[]⟩)] []] []], ms := [.o 119 (fun _ => [.s, .o 136 (fun _ => [.s, .s, .s, .s, .s, .s, .s]), .o 9 (fun _ => [.s])])] }
  | 35 => { ok := true, desc := .slice 123, sz := 1, by_ := 24, zv := .slice none 0 0, z := [.ls [.ls [.ls [.sc (.int .i64 0), .sc (.int .i64 0), .sc (.string ⟨#[]⟩)] []] []] []], ms := [.o 123 (fun _ => [.o 102 (fun _ => [.o 134 (fun _ => [.s, .s, .s])])])] }
  | 37 => { ok := true, desc := .struct #[fld "Cat" 34 0 0 "", fld "Data" 35 1 24 ""], sz := 2, by_ := 48, zv := .agg #[.slice none 0 0, .slice none 0 0], z := [.ls [.sc (.string ⟨#[]⟩), .ls [.sc (.string ⟨#[]⟩), .sc (.int .i64 0), .sc (.bool false), .sc (.bool false), .sc (.int .i64 0), .sc (.int .i64 0), .sc (.string ⟨#[]⟩)] [], .ls [.sc (.string ⟨#[]⟩)] []] [], .ls [.ls [.ls [.sc (.int .i64 0), .sc (.int .i64 0), .sc (.string ⟨#[]⟩)] []] []] []], ms := [.o 119 (fun _ => [.s, .o 136 (fun _ => [.s, .s, .s, .s, .s, .s, .s]), .o 9 (fun _ => [.s])]), .o 123 (fun _ => [.o 102 (fun _ => [.o 134 (fun _ => [.s, .s, .s])])])] }
  | 39 => { ok := true, desc := .struct #[fld "Db" 37 0 0 "", fld "At" 3 2 48 "", fld "Halt" 3 3 56 ""], sz := 4, by_ := 64, zv := .agg #[.slice none 0 0, .slice none 0 0, .int .i64 0, .int .i64 0], z := [.ls [.sc (.string ⟨#[]⟩), .ls [.sc (.string ⟨#[]⟩), .sc (.int .i64 0), .sc (.bool false), .sc (.bool false), .sc (.int .i64 0), .sc (.int .i64 0), .sc (.string ⟨#[]⟩)] [], .ls [.sc (.string ⟨#[]⟩)] []] [], .ls [.ls [.ls [.sc (.int .i64 0), .sc (.int .i64 0), .sc (.string ⟨#[]⟩)] []] []] [], .sc (.int .i64 0), .sc (.int .i64 0)], ms := [.o 119 (fun _ => [.s, .o 136 (fun _ => [.s, .s, .s, .s, .s, .s, .s]), .o 9 (fun _ => [.s])]), .o 123 (fun _ => [.o 102 (fun _ => [.o 134 (fun _ => [.s, .s, .s])])]), .s, .s] }
  | 44 => { ok := true, desc := .struct #[fld "Lsn" 3 0 0 "", fld "Db" 27 1 8 ""], sz := 3, by_ := 56, zv := .agg #[.int .i64 0, .slice none 0 0, .slice none 0 0], z := [.sc (.int .i64 0), .ls [.sc (.string ⟨#[]⟩), .ls [.sc (.string ⟨#[]⟩), .sc (.int .i64 0), .sc (.bool false), .sc (.bool false), .sc (.int .i64 0), .sc (.int .i64 0), .sc (.string ⟨#[]⟩)] [], .ls [.sc (.string ⟨#[]⟩)] []] [], .ls [.ls [.ls [.sc (.int .i64 0), .sc (.int .i64 0), .sc (.string ⟨#[]⟩)] []] []] []], ms := [.s, .o 176 (fun _ => [.s, .o 244 (fun _ => [.s, .s, .s, .s, .s, .s, .s]), .o 9 (fun _ => [.s])]), .o 130 (fun _ => [.o 90 (fun _ => [.o 228 (fun _ => [.s, .s, .s])])])] }
  | 48 => { ok := true, desc := .struct #[fld "Lsn" 3 0 0 "", fld "Db" 37 1 8 ""], sz := 3, by_ := 56, zv := .agg #[.int .i64 0, .slice none 0 0, .slice none 0 0], z := [.sc (.int .i64 0), .ls [.sc (.string ⟨#[]⟩), .ls [.sc (.string ⟨#[]⟩), .sc (.int .i64 0), .sc (.bool false), .sc (.bool false), .sc (.int .i64 0), .sc (.int .i64 0), .sc (.string ⟨#[]⟩)] [], .ls [.sc (.string ⟨#[]⟩)] []] [], .ls [.ls [.ls [.sc (.int .i64 0), .sc (.int .i64 0), .sc (.string ⟨#[]⟩)] []] []] []], ms := [.s, .o 119 (fun _ => [.s, .o 136 (fun _ => [.s, .s, .s, .s, .s, .s, .s]), .o 9 (fun _ => [.s])]), .o 123 (fun _ => [.o 102 (fun _ => [.o 134 (fun _ => [.s, .s, .s])])])] }
  | 56 => { ok := true, desc := .slice 98, sz := 1, by_ := 24, zv := .slice none 0 0, z := [.ls [.sc (.int .i64 0), .sc (.int .i64 0), .sc (.int .i64 0), .sc (.string ⟨#[]⟩), .ls [.sc (.int .i64 0), .sc (.int .i64 0), .sc (.string ⟨#[]⟩)] [], .ls [.sc (.int .i64 0), .sc (.int .i64 0), .sc (.string ⟨#[]⟩)] [], .sc (.int .i64 0), .sc (.string ⟨#[]⟩), .ls [.sc (.string ⟨#[]⟩), .sc (.int .i64 0), .sc (.bool false), .sc (.bool false), .sc (.int .i64 0), .sc (.int .i64 0), .sc (.string ⟨#[]⟩)] [], .ls [.sc (.string ⟨#[]⟩)] [], .sc (.string ⟨#[]⟩), .sc (.string ⟨#[]⟩)] []], ms := [.o 98 (fun _ => [.s, .s, .s, .s, .o 228 (fun _ => [.s, .s, .s]), .o 228 (fun _ => [.s, .s, .s]), .s, .s, .o 244 (fun _ => [.s, .s, .s, .s, .s, .s, .s]), .o 9 (fun _ => [.s]), .s, .s])] }
  | 59 => { ok := true, desc := .slice 109, sz := 1, by_ := 24, zv := .slice none 0 0, z := [.ls [.sc (.int .i64 0), .sc (.int .i64 0), .sc (.int .i64 0), .sc (.string ⟨#[]⟩), .ls [.sc (.int .i64 0), .sc (.int .i64 0), .sc (.string ⟨#[]⟩)] [], .ls [.sc (.int .i64 0), .sc (.int .i64 0), .sc (.string ⟨#[]⟩)] [], .sc (.int .i64 0), .sc (.string ⟨#[]⟩), .ls [.sc (.string ⟨#[]⟩), .sc (.int .i64 0), .sc (.bool false), .sc (.bool false), .sc (.int .i64 0), .sc (.int .i64 0), .sc (.string ⟨#[]⟩)] [], .ls [.sc (.string ⟨#[]⟩)] [], .sc (.string ⟨#[]⟩), .sc (.string ⟨#[]⟩)] []], ms := [.o 109 (fun _ => [.s, .s, .s, .s, .o 134 (fun _ => [.s, .s, .s]), .o 134 (fun _ => [.s, .s, .s]), .s, .s, .o 136 (fun _ => [.s, .s, .s, .s, .s, .s, .s]), .o 9 (fun _ => [.s]), .s, .s])] }
  | 64 => { ok := true, desc := .struct #[fld "Base" 3 0 0 "", fld "Db" 27 1 8 "", fld "Recs" 56 3 56 ""], sz := 4, by_ := 80, zv := .agg #[.int .i64 0, .slice none 0 0, .slice none 0 0, .slice none 0 0], z := [.sc (.int .i64 0), .ls [.sc (.string ⟨#[]⟩), .ls [.sc (.string ⟨#[]⟩), .sc (.int .i64 0), .sc (.bool false), .sc (.bool false), .sc (.int .i64 0), .sc (.int .i64 0), .sc (.string ⟨#[]⟩)] [], .ls [.sc (.string ⟨#[]⟩)] []] [], .ls [.ls [.ls [.sc (.int .i64 0), .sc (.int .i64 0), .sc (.string ⟨#[]⟩)] []] []] [], .ls [.sc (.int .i64 0), .sc (.int .i64 0), .sc (.int .i64 0), .sc (.string ⟨#[]⟩), .ls [.sc (.int .i64 0), .sc (.int .i64 0), .sc (.string ⟨#[]⟩)] [], .ls [.sc (.int .i64 0), .sc (.int .i64 0), .sc (.string ⟨#[]⟩)] [], .sc (.int .i64 0), .sc (.string ⟨#[]⟩), .ls [.sc (.string ⟨#[]⟩), .sc (.int .i64 0), .sc (.bool false), .sc (.bool false), .sc (.int .i64 0), .sc (.int .i64 0), .sc (.string ⟨#[]⟩)] [], .ls [.sc (.string ⟨#[]⟩)] [], .sc (.string ⟨#[]⟩), .sc (.string ⟨#[]⟩)] []], ms := [.s, .o 176 (fun _ => [.s, .o 244 (fun _ => [.s, .s, .s, .s, .s, .s, .s]), .o 9 (fun _ => [.s])]), .o 130 (fun _ => [.o 90 (fun _ => [.o 228 (fun _ => [.s, .s, .s])])]), .o 98 (fun _ => [.s, .s, .s, .s, .o 228 (fun _ => [.s, .s, .s]), .o 228 (fun _ => [.s, .s, .s]), .s, .s, .o 244 (fun _ => [.s, .s, .s, .s, .s, .s, .s]), .o 9 (fun _ => [.s]), .s, .s])] }
  | 68 => { ok := true, desc := .struct #[fld "Base" 3 0 0 "", fld "Db" 37 1 8 "", fld "Recs" 59 3 56 ""], sz := 4, by_ := 80, zv := .agg #[.int .i64 0, .slice none 0 0, .slice none 0 0, .slice none 0 0], z := [.sc (.int .i64 0), .ls [.sc (.string ⟨#[]⟩), .ls [.sc (.string ⟨#[]⟩), .sc (.int .i64 0), .sc (.bool false), .sc (.bool false), .sc (.int .i64 0), .sc (.int .i64 0), .sc (.string ⟨#[]⟩)] [], .ls [.sc (.string ⟨#[]⟩)] []] [], .ls [.ls [.ls [.sc (.int .i64 0), .sc (.int .i64 0), .sc (.string ⟨#[]⟩)] []] []] [], .ls [.sc (.int .i64 0), .sc (.int .i64 0), .sc (.int .i64 0), .sc (.string ⟨#[]⟩), .ls [.sc (.int .i64 0), .sc (.int .i64 0), .sc (.string ⟨#[]⟩)] [], .ls [.sc (.int .i64 0), .sc (.int .i64 0), .sc (.string ⟨#[]⟩)] [], .sc (.int .i64 0), .sc (.string ⟨#[]⟩), .ls [.sc (.string ⟨#[]⟩), .sc (.int .i64 0), .sc (.bool false), .sc (.bool false), .sc (.int .i64 0), .sc (.int .i64 0), .sc (.string ⟨#[]⟩)] [], .ls [.sc (.string ⟨#[]⟩)] [], .sc (.string ⟨#[]⟩), .sc (.string ⟨#[]⟩)] []], ms := [.s, .o 119 (fun _ => [.s, .o 136 (fun _ => [.s, .s, .s, .s, .s, .s, .s]), .o 9 (fun _ => [.s])]), .o 123 (fun _ => [.o 102 (fun _ => [.o 134 (fun _ => [.s, .s, .s])])]), .o 109 (fun _ => [.s, .s, .s, .s, .o 134 (fun _ => [.s, .s, .s]), .o 134 (fun _ => [.s, .s, .s]), .s, .s, .o 136 (fun _ => [.s, .s, .s, .s, .s, .s, .s]), .o 9 (fun _ => [.s]), .s, .s])] }
  | 78 => { ok := true, desc := .slice 5, sz := 1, by_ := 24, zv := .slice none 0 0, z := [.ls [.sc (.int .u8 0)] []], ms := [.o 5 (fun _ => [.s])] }
  | 88 => { ok := true, desc := .slice 228, sz := 1, by_ := 24, zv := .slice none 0 0, z := [.ls [.sc (.int .i64 0), .sc (.int .i64 0), .sc (.string ⟨#[]⟩)] []], ms := [.o 228 (fun _ => [.s, .s, .s])] }
  | 90 => { ok := true, desc := .struct #[fld "Vals" 88 0 0 ""], sz := 1, by_ := 24, zv := .agg #[.slice none 0 0], z := [.ls [.sc (.int .i64 0), .sc (.int .i64 0), .sc (.string ⟨#[]⟩)] []], ms := [.o 228 (fun _ => [.s, .s, .s])] }
  | 91 => { ok := true, desc := .slice 244, sz := 1, by_ := 24, zv := .slice none 0 0, z := [.ls [.sc (.string ⟨#[]⟩), .sc (.int .i64 0), .sc (.bool false), .sc (.bool false), .sc (.int .i64 0), .sc (.int .i64 0), .sc (.string ⟨#[]⟩)] []], ms := [.o 244 (fun _ => [.s, .s, .s, .s, .s, .s, .s])] }
  | 92 => { ok := true, desc := .slice 9, sz := 1, by_ := 24, zv := .slice none 0 0, z := [.ls [.sc (.string ⟨#[]⟩)] []], ms := [.o 9 (fun _ => [.s])] }
  | 94 => { ok := true, desc := .struct #[fld "Kind" 3 0 0 "", fld "Table" 9 1 8 "", fld "Cols" 91 2 24 "", fld "Keys" 92 3 48 "", fld "Name" 9 4 72 "", fld "To" 9 5 88 ""], sz := 6, by_ := 104, zv := .agg #[.int .i64 0, .string ⟨#[]⟩, .slice none 0 0, .slice none 0 0, .string ⟨#[]⟩, .string ⟨#[]⟩], z := [.sc (.int .i64 0), .sc (.string ⟨#[]⟩), .ls [.sc (.string ⟨#[]⟩), .sc (.int .i64 0), .sc (.bool false), .sc (.bool false), .sc (.int .i64 0), .sc (.int .i64 0), .sc (.string ⟨#[]⟩)] [], .ls [.sc (.string ⟨#[]⟩)] [], .sc (.string ⟨#[]⟩), .sc (.string ⟨#[]⟩)], ms := [.s, .s, .o 244 (fun _ => [.s, .s, .s, .s, .s, .s, .s]), .o 9 (fun _ => [.s]), .s, .s] }
  | 96 => { ok := true, desc := .struct #[fld "Kind" 3 0 0 "", fld "Table" 9 1 8 "", fld "Key" 88 2 24 "", fld "Row" 90 3 48 "", fld "Ddl" 94 4 72 ""], sz := 10, by_ := 176, zv := .agg #[.int .i64 0, .string ⟨#[]⟩, .slice none 0 0, .slice none 0 0, .int .i64 0, .string ⟨#[]⟩, .slice none 0 0, .slice none 0 0, .string ⟨#[]⟩, .string ⟨#[]⟩], z := [.sc (.int .i64 0), .sc (.string ⟨#[]⟩), .ls [.sc (.int .i64 0), .sc (.int .i64 0), .sc (.string ⟨#[]⟩)] [], .ls [.sc (.int .i64 0), .sc (.int .i64 0), .sc (.string ⟨#[]⟩)] [], .sc (.int .i64 0), .sc (.string ⟨#[]⟩), .ls [.sc (.string ⟨#[]⟩), .sc (.int .i64 0), .sc (.bool false), .sc (.bool false), .sc (.int .i64 0), .sc (.int .i64 0), .sc (.string ⟨#[]⟩)] [], .ls [.sc (.string ⟨#[]⟩)] [], .sc (.string ⟨#[]⟩), .sc (.string ⟨#[]⟩)], ms := [.s, .s, .o 228 (fun _ => [.s, .s, .s]), .o 228 (fun _ => [.s, .s, .s]), .s, .s, .o 244 (fun _ => [.s, .s, .s, .s, .s, .s, .s]), .o 9 (fun _ => [.s]), .s, .s] }
  | 98 => { ok := true, desc := .struct #[fld "Kind" 3 0 0 "", fld "Xid" 3 1 8 "", fld "Stmt" 96 2 16 ""], sz := 12, by_ := 192, zv := .agg #[.int .i64 0, .int .i64 0, .int .i64 0, .string ⟨#[]⟩, .slice none 0 0, .slice none 0 0, .int .i64 0, .string ⟨#[]⟩, .slice none 0 0, .slice none 0 0, .string ⟨#[]⟩, .string ⟨#[]⟩], z := [.sc (.int .i64 0), .sc (.int .i64 0), .sc (.int .i64 0), .sc (.string ⟨#[]⟩), .ls [.sc (.int .i64 0), .sc (.int .i64 0), .sc (.string ⟨#[]⟩)] [], .ls [.sc (.int .i64 0), .sc (.int .i64 0), .sc (.string ⟨#[]⟩)] [], .sc (.int .i64 0), .sc (.string ⟨#[]⟩), .ls [.sc (.string ⟨#[]⟩), .sc (.int .i64 0), .sc (.bool false), .sc (.bool false), .sc (.int .i64 0), .sc (.int .i64 0), .sc (.string ⟨#[]⟩)] [], .ls [.sc (.string ⟨#[]⟩)] [], .sc (.string ⟨#[]⟩), .sc (.string ⟨#[]⟩)], ms := [.s, .s, .s, .s, .o 228 (fun _ => [.s, .s, .s]), .o 228 (fun _ => [.s, .s, .s]), .s, .s, .o 244 (fun _ => [.s, .s, .s, .s, .s, .s, .s]), .o 9 (fun _ => [.s]), .s, .s] }
  | 100 => { ok := true, desc := .slice 134, sz := 1, by_ := 24, zv := .slice none 0 0, z := [.ls [.sc (.int .i64 0), .sc (.int .i64 0), .sc (.string ⟨#[]⟩)] []], ms := [.o 134 (fun _ => [.s, .s, .s])] }
  | 102 => { ok := true, desc := .struct #[fld "Vals" 100 0 0 ""], sz := 1, by_ := 24, zv := .agg #[.slice none 0 0], z := [.ls [.sc (.int .i64 0), .sc (.int .i64 0), .sc (.string ⟨#[]⟩)] []], ms := [.o 134 (fun _ => [.s, .s, .s])] }
  | 103 => { ok := true, desc := .slice 136, sz := 1, by_ := 24, zv := .slice none 0 0, z := [.ls [.sc (.string ⟨#[]⟩), .sc (.int .i64 0), .sc (.bool false), .sc (.bool false), .sc (.int .i64 0), .sc (.int .i64 0), .sc (.string ⟨#[]⟩)] []], ms := [.o 136 (fun _ => [.s, .s, .s, .s, .s, .s, .s])] }
  | 105 => { ok := true, desc := .struct #[fld "Kind" 3 0 0 "", fld "Table" 9 1 8 "", fld "Cols" 103 2 24 "", fld "Keys" 92 3 48 "", fld "Name" 9 4 72 "", fld "To" 9 5 88 ""], sz := 6, by_ := 104, zv := .agg #[.int .i64 0, .string ⟨#[]⟩, .slice none 0 0, .slice none 0 0, .string ⟨#[]⟩, .string ⟨#[]⟩], z := [.sc (.int .i64 0), .sc (.string ⟨#[]⟩), .ls [.sc (.string ⟨#[]⟩), .sc (.int .i64 0), .sc (.bool false), .sc (.bool false), .sc (.int .i64 0), .sc (.int .i64 0), .sc (.string ⟨#[]⟩)] [], .ls [.sc (.string ⟨#[]⟩)] [], .sc (.string ⟨#[]⟩), .sc (.string ⟨#[]⟩)], ms := [.s, .s, .o 136 (fun _ => [.s, .s, .s, .s, .s, .s, .s]), .o 9 (fun _ => [.s]), .s, .s] }
  | 107 => { ok := true, desc := .struct #[fld "Kind" 3 0 0 "", fld "Table" 9 1 8 "", fld "Key" 100 2 24 "", fld "Row" 102 3 48 "", fld "Ddl" 105 4 72 ""], sz := 10, by_ := 176, zv := .agg #[.int .i64 0, .string ⟨#[]⟩, .slice none 0 0, .slice none 0 0, .int .i64 0, .string ⟨#[]⟩, .slice none 0 0, .slice none 0 0, .string ⟨#[]⟩, .string ⟨#[]⟩], z := [.sc (.int .i64 0), .sc (.string ⟨#[]⟩), .ls [.sc (.int .i64 0), .sc (.int .i64 0), .sc (.string ⟨#[]⟩)] [], .ls [.sc (.int .i64 0), .sc (.int .i64 0), .sc (.string ⟨#[]⟩)] [], .sc (.int .i64 0), .sc (.string ⟨#[]⟩), .ls [.sc (.string ⟨#[]⟩), .sc (.int .i64 0), .sc (.bool false), .sc (.bool false), .sc (.int .i64 0), .sc (.int .i64 0), .sc (.string ⟨#[]⟩)] [], .ls [.sc (.string ⟨#[]⟩)] [], .sc (.string ⟨#[]⟩), .sc (.string ⟨#[]⟩)], ms := [.s, .s, .o 134 (fun _ => [.s, .s, .s]), .o 134 (fun _ => [.s, .s, .s]), .s, .s, .o 136 (fun _ => [.s, .s, .s, .s, .s, .s, .s]), .o 9 (fun _ => [.s]), .s, .s] }
  | 109 => { ok := true, desc := .struct #[fld "Kind" 3 0 0 "", fld "Xid" 3 1 8 "", fld "Stmt" 107 2 16 ""], sz := 12, by_ := 192, zv := .agg #[.int .i64 0, .int .i64 0, .int .i64 0, .string ⟨#[]⟩, .slice none 0 0, .slice none 0 0, .int .i64 0, .string ⟨#[]⟩, .slice none 0 0, .slice none 0 0, .string ⟨#[]⟩, .string ⟨#[]⟩], z := [.sc (.int .i64 0), .sc (.int .i64 0), .sc (.int .i64 0), .sc (.string ⟨#[]⟩), .ls [.sc (.int .i64 0), .sc (.int .i64 0), .sc (.string ⟨#[]⟩)] [], .ls [.sc (.int .i64 0), .sc (.int .i64 0), .sc (.string ⟨#[]⟩)] [], .sc (.int .i64 0), .sc (.string ⟨#[]⟩), .ls [.sc (.string ⟨#[]⟩), .sc (.int .i64 0), .sc (.bool false), .sc (.bool false), .sc (.int .i64 0), .sc (.int .i64 0), .sc (.string ⟨#[]⟩)] [], .ls [.sc (.string ⟨#[]⟩)] [], .sc (.string ⟨#[]⟩), .sc (.string ⟨#[]⟩)], ms := [.s, .s, .s, .s, .o 134 (fun _ => [.s, .s, .s]), .o 134 (fun _ => [.s, .s, .s]), .s, .s, .o 136 (fun _ => [.s, .s, .s, .s, .s, .s, .s]), .o 9 (fun _ => [.s]), .s, .s] }
  | 119 => { ok := true, desc := .struct #[fld "Name" 9 0 0 "", fld "Cols" 103 1 16 "", fld "Keys" 92 2 40 ""], sz := 3, by_ := 64, zv := .agg #[.string ⟨#[]⟩, .slice none 0 0, .slice none 0 0], z := [.sc (.string ⟨#[]⟩), .ls [.sc (.string ⟨#[]⟩), .sc (.int .i64 0), .sc (.bool false), .sc (.bool false), .sc (.int .i64 0), .sc (.int .i64 0), .sc (.string ⟨#[]⟩)] [], .ls [.sc (.string ⟨#[]⟩)] []], ms := [.s, .o 136 (fun _ => [.s, .s, .s, .s, .s, .s, .s]), .o 9 (fun _ => [.s])] }
  | 121 => { ok := true, desc := .slice 102, sz := 1, by_ := 24, zv := .slice none 0 0, z := [.ls [.ls [.sc (.int .i64 0), .sc (.int .i64 0), .sc (.string ⟨#[]⟩)] []] []], ms := [.o 102 (fun _ => [.o 134 (fun _ => [.s, .s, .s])])] }
  | 123 => { ok := true, desc := .struct #[fld "Rows" 121 0 0 ""], sz := 1, by_ := 24, zv := .agg #[.slice none 0 0], z := [.ls [.ls [.sc (.int .i64 0), .sc (.int .i64 0), .sc (.string ⟨#[]⟩)] []] []], ms := [.o 102 (fun _ => [.o 134 (fun _ => [.s, .s, .s])])] }
  | 128 => { ok := true, desc := .slice 90, sz := 1, by_ := 24, zv := .slice none 0 0, z := [.ls [.ls [.sc (.int .i64 0), .sc (.int .i64 0), .sc (.string ⟨#[]⟩)] []] []], ms := [.o 90 (fun _ => [.o 228 (fun _ => [.s, .s, .s])])] }
  | 130 => { ok := true, desc := .struct #[fld "Rows" 128 0 0 ""], sz := 1, by_ := 24, zv := .agg #[.slice none 0 0], z := [.ls [.ls [.sc (.int .i64 0), .sc (.int .i64 0), .sc (.string ⟨#[]⟩)] []] []], ms := [.o 90 (fun _ => [.o 228 (fun _ => [.s, .s, .s])])] }
  | 134 => { ok := true, desc := .struct #[fld "Ty" 3 0 0 "", fld "N" 3 1 8 "", fld "S" 9 2 16 ""], sz := 3, by_ := 32, zv := .agg #[.int .i64 0, .int .i64 0, .string ⟨#[]⟩], z := [.sc (.int .i64 0), .sc (.int .i64 0), .sc (.string ⟨#[]⟩)], eqb := true }
  | 136 => { ok := true, desc := .struct #[fld "Name" 9 0 0 "", fld "Ty" 3 1 16 "", fld "Not" 4 2 24 "", fld "Has" 4 3 25 "", fld "Def" 134 4 32 ""], sz := 7, by_ := 64, zv := .agg #[.string ⟨#[]⟩, .int .i64 0, .bool false, .bool false, .int .i64 0, .int .i64 0, .string ⟨#[]⟩], z := [.sc (.string ⟨#[]⟩), .sc (.int .i64 0), .sc (.bool false), .sc (.bool false), .sc (.int .i64 0), .sc (.int .i64 0), .sc (.string ⟨#[]⟩)], eqb := true }
  | 154 => { ok := true, desc := .slice 3, sz := 1, by_ := 24, zv := .slice none 0 0, z := [.ls [.sc (.int .i64 0)] []], ms := [.o 3 (fun _ => [.s])] }
  | 158 => { ok := true, desc := .slice 107, sz := 1, by_ := 24, zv := .slice none 0 0, z := [.ls [.sc (.int .i64 0), .sc (.string ⟨#[]⟩), .ls [.sc (.int .i64 0), .sc (.int .i64 0), .sc (.string ⟨#[]⟩)] [], .ls [.sc (.int .i64 0), .sc (.int .i64 0), .sc (.string ⟨#[]⟩)] [], .sc (.int .i64 0), .sc (.string ⟨#[]⟩), .ls [.sc (.string ⟨#[]⟩), .sc (.int .i64 0), .sc (.bool false), .sc (.bool false), .sc (.int .i64 0), .sc (.int .i64 0), .sc (.string ⟨#[]⟩)] [], .ls [.sc (.string ⟨#[]⟩)] [], .sc (.string ⟨#[]⟩), .sc (.string ⟨#[]⟩)] []], ms := [.o 107 (fun _ => [.s, .s, .o 134 (fun _ => [.s, .s, .s]), .o 134 (fun _ => [.s, .s, .s]), .s, .s, .o 136 (fun _ => [.s, .s, .s, .s, .s, .s, .s]), .o 9 (fun _ => [.s]), .s, .s])] }
  | 176 => { ok := true, desc := .struct #[fld "Name" 9 0 0 "", fld "Cols" 91 1 16 "", fld "Keys" 92 2 40 ""], sz := 3, by_ := 64, zv := .agg #[.string ⟨#[]⟩, .slice none 0 0, .slice none 0 0], z := [.sc (.string ⟨#[]⟩), .ls [.sc (.string ⟨#[]⟩), .sc (.int .i64 0), .sc (.bool false), .sc (.bool false), .sc (.int .i64 0), .sc (.int .i64 0), .sc (.string ⟨#[]⟩)] [], .ls [.sc (.string ⟨#[]⟩)] []], ms := [.s, .o 244 (fun _ => [.s, .s, .s, .s, .s, .s, .s]), .o 9 (fun _ => [.s])] }
  | 226 => { ok := true, desc := .int .u64, sz := 1, by_ := 8, zv := .int .u64 0, z := [.sc (.int .u64 0)] }
  | 228 => { ok := true, desc := .struct #[fld "Ty" 3 0 0 "", fld "N" 3 1 8 "", fld "S" 9 2 16 ""], sz := 3, by_ := 32, zv := .agg #[.int .i64 0, .int .i64 0, .string ⟨#[]⟩], z := [.sc (.int .i64 0), .sc (.int .i64 0), .sc (.string ⟨#[]⟩)] }
  | 244 => { ok := true, desc := .struct #[fld "Name" 9 0 0 "", fld "Ty" 3 1 16 "", fld "Not" 4 2 24 "", fld "Has" 4 3 25 "", fld "Def" 228 4 32 ""], sz := 7, by_ := 64, zv := .agg #[.string ⟨#[]⟩, .int .i64 0, .bool false, .bool false, .int .i64 0, .int .i64 0, .string ⟨#[]⟩], z := [.sc (.string ⟨#[]⟩), .sc (.int .i64 0), .sc (.bool false), .sc (.bool false), .sc (.int .i64 0), .sc (.int .i64 0), .sc (.string ⟨#[]⟩)] }
  | 259 => { ok := true, desc := .int .u32, sz := 1, by_ := 4, zv := .int .u32 0, z := [.sc (.int .u32 0)] }
  | 261 => { ok := true, desc := .int .u64, sz := 1, by_ := 8, zv := .int .u64 0, z := [.sc (.int .u64 0)] }
  | _ => {}
def ck : Nat → List CK
  | 2 => [.int .i64]
  | 3 => [.int .i64]
  | 4 => [.bool]
  | 5 => [.int .u8]
  | 9 => [.str]
  | 21 => [.int .i32]
  | 22 => [.sl 176]
  | 24 => [.sl 176]
  | 25 => [.sl 130]
  | 27 => [.sl 176, .sl 130]
  | 29 => [.sl 176, .sl 130, .int .i64, .int .i64]
  | 32 => [.sl 119]
  | 34 => [.sl 119]
  | 35 => [.sl 123]
  | 37 => [.sl 119, .sl 123]
  | 39 => [.sl 119, .sl 123, .int .i64, .int .i64]
  | 44 => [.int .i64, .sl 176, .sl 130]
  | 48 => [.int .i64, .sl 119, .sl 123]
  | 56 => [.sl 98]
  | 59 => [.sl 109]
  | 64 => [.int .i64, .sl 176, .sl 130, .sl 98]
  | 68 => [.int .i64, .sl 119, .sl 123, .sl 109]
  | 78 => [.sl 5]
  | 88 => [.sl 228]
  | 90 => [.sl 228]
  | 91 => [.sl 244]
  | 92 => [.sl 9]
  | 94 => [.int .i64, .str, .sl 244, .sl 9, .str, .str]
  | 96 => [.int .i64, .str, .sl 228, .sl 228, .int .i64, .str, .sl 244, .sl 9, .str, .str]
  | 98 => [.int .i64, .int .i64, .int .i64, .str, .sl 228, .sl 228, .int .i64, .str, .sl 244, .sl 9, .str, .str]
  | 100 => [.sl 134]
  | 102 => [.sl 134]
  | 103 => [.sl 136]
  | 105 => [.int .i64, .str, .sl 136, .sl 9, .str, .str]
  | 107 => [.int .i64, .str, .sl 134, .sl 134, .int .i64, .str, .sl 136, .sl 9, .str, .str]
  | 109 => [.int .i64, .int .i64, .int .i64, .str, .sl 134, .sl 134, .int .i64, .str, .sl 136, .sl 9, .str, .str]
  | 119 => [.str, .sl 136, .sl 9]
  | 121 => [.sl 102]
  | 123 => [.sl 102]
  | 128 => [.sl 90]
  | 130 => [.sl 90]
  | 134 => [.int .i64, .int .i64, .str]
  | 136 => [.str, .int .i64, .bool, .bool, .int .i64, .int .i64, .str]
  | 154 => [.sl 3]
  | 158 => [.sl 107]
  | 176 => [.str, .sl 244, .sl 9]
  | 226 => [.int .u64]
  | 228 => [.int .i64, .int .i64, .str]
  | 244 => [.str, .int .i64, .bool, .bool, .int .i64, .int .i64, .str]
  | 259 => [.int .u32]
  | 261 => [.int .u64]
  | _ => []
theorem good2 : (ti 2).good Tryz.prog 2 := good_sc (v := .int .i64 0) rfl rfl rfl rfl (by decide) rfl (by intro _ _ h; cases h) (by kernel_rfl) (by kernel_rfl) (fun _ => rfl)
theorem good3 : (ti 3).good Tryz.prog 3 := good_sc (v := .int .i64 0) rfl rfl rfl rfl (by decide) rfl (by intro _ _ h; cases h) (by kernel_rfl) (by kernel_rfl) (fun _ => rfl)
theorem good4 : (ti 4).good Tryz.prog 4 := good_sc (v := .bool false) rfl rfl rfl rfl (by decide) rfl (by intro _ _ h; cases h) (by kernel_rfl) (by kernel_rfl) (fun _ => rfl)
theorem good5 : (ti 5).good Tryz.prog 5 := good_sc (v := .int .u8 0) rfl rfl rfl rfl (by decide) rfl (by intro _ _ h; cases h) (by kernel_rfl) (by kernel_rfl) (fun _ => rfl)
theorem good9 : (ti 9).good Tryz.prog 9 := good_sc (v := .string ⟨#[]⟩) rfl rfl rfl rfl (by decide) rfl (by intro _ _ h; cases h) (by kernel_rfl) (by kernel_rfl) (fun _ => rfl)
theorem good21 : (ti 21).good Tryz.prog 21 := good_sc (v := .int .i32 0) rfl rfl rfl rfl (by decide) rfl (by intro _ _ h; cases h) (by kernel_rfl) (by kernel_rfl) (fun _ => rfl)
theorem good22 : (ti 22).good Tryz.prog 22 := good_sl (zz := [.sc (.string ⟨#[]⟩), .ls [.sc (.string ⟨#[]⟩), .sc (.int .i64 0), .sc (.bool false), .sc (.bool false), .sc (.int .i64 0), .sc (.int .i64 0), .sc (.string ⟨#[]⟩)] [], .ls [.sc (.string ⟨#[]⟩)] []]) rfl rfl rfl rfl (by decide) (by kernel_rfl) (by kernel_rfl)
theorem good24 : (ti 24).good Tryz.prog 24 := good_st (fs := #[fld "Tables" 22 0 0 ""]) (cs := #[.slice none 0 0]) rfl rfl rfl rfl (by decide) (by decide) (zOk_ok rfl) (by kernel_rfl) (by kernel_rfl) (by kernel_rfl)
theorem good25 : (ti 25).good Tryz.prog 25 := good_sl (zz := [.ls [.ls [.sc (.int .i64 0), .sc (.int .i64 0), .sc (.string ⟨#[]⟩)] []] []]) rfl rfl rfl rfl (by decide) (by kernel_rfl) (by kernel_rfl)
theorem good27 : (ti 27).good Tryz.prog 27 := good_st (fs := #[fld "Cat" 24 0 0 "", fld "Data" 25 1 24 ""]) (cs := #[.slice none 0 0, .slice none 0 0]) rfl rfl rfl rfl (by decide) (by decide) (zOk_ok rfl) (by kernel_rfl) (by kernel_rfl) (by kernel_rfl)
theorem good29 : (ti 29).good Tryz.prog 29 := good_st (fs := #[fld "Db" 27 0 0 "", fld "At" 3 2 48 "", fld "Halt" 3 3 56 ""]) (cs := #[.slice none 0 0, .slice none 0 0, .int .i64 0, .int .i64 0]) rfl rfl rfl rfl (by decide) (by decide) (zOk_ok rfl) (by kernel_rfl) (by kernel_rfl) (by kernel_rfl)
theorem good32 : (ti 32).good Tryz.prog 32 := good_sl (zz := [.sc (.string ⟨#[]⟩), .ls [.sc (.string ⟨#[]⟩), .sc (.int .i64 0), .sc (.bool false), .sc (.bool false), .sc (.int .i64 0), .sc (.int .i64 0), .sc (.string ⟨#[]⟩)] [], .ls [.sc (.string ⟨#[]⟩)] []]) rfl rfl rfl rfl (by decide) (by kernel_rfl) (by kernel_rfl)
theorem good34 : (ti 34).good Tryz.prog 34 := good_st (fs := #[fld "Tables" 32 0 0 ""]) (cs := #[.slice none 0 0]) rfl rfl rfl rfl (by decide) (by decide) (zOk_ok rfl) (by kernel_rfl) (by kernel_rfl) (by kernel_rfl)
theorem good35 : (ti 35).good Tryz.prog 35 := good_sl (zz := [.ls [.ls [.sc (.int .i64 0), .sc (.int .i64 0), .sc (.string ⟨#[]⟩)] []] []]) rfl rfl rfl rfl (by decide) (by kernel_rfl) (by kernel_rfl)
theorem good37 : (ti 37).good Tryz.prog 37 := good_st (fs := #[fld "Cat" 34 0 0 "", fld "Data" 35 1 24 ""]) (cs := #[.slice none 0 0, .slice none 0 0]) rfl rfl rfl rfl (by decide) (by decide) (zOk_ok rfl) (by kernel_rfl) (by kernel_rfl) (by kernel_rfl)
theorem good39 : (ti 39).good Tryz.prog 39 := good_st (fs := #[fld "Db" 37 0 0 "", fld "At" 3 2 48 "", fld "Halt" 3 3 56 ""]) (cs := #[.slice none 0 0, .slice none 0 0, .int .i64 0, .int .i64 0]) rfl rfl rfl rfl (by decide) (by decide) (zOk_ok rfl) (by kernel_rfl) (by kernel_rfl) (by kernel_rfl)
theorem good44 : (ti 44).good Tryz.prog 44 := good_st (fs := #[fld "Lsn" 3 0 0 "", fld "Db" 27 1 8 ""]) (cs := #[.int .i64 0, .slice none 0 0, .slice none 0 0]) rfl rfl rfl rfl (by decide) (by decide) (zOk_ok rfl) (by kernel_rfl) (by kernel_rfl) (by kernel_rfl)
theorem good48 : (ti 48).good Tryz.prog 48 := good_st (fs := #[fld "Lsn" 3 0 0 "", fld "Db" 37 1 8 ""]) (cs := #[.int .i64 0, .slice none 0 0, .slice none 0 0]) rfl rfl rfl rfl (by decide) (by decide) (zOk_ok rfl) (by kernel_rfl) (by kernel_rfl) (by kernel_rfl)
theorem good56 : (ti 56).good Tryz.prog 56 := good_sl (zz := [.sc (.int .i64 0), .sc (.int .i64 0), .sc (.int .i64 0), .sc (.string ⟨#[]⟩), .ls [.sc (.int .i64 0), .sc (.int .i64 0), .sc (.string ⟨#[]⟩)] [], .ls [.sc (.int .i64 0), .sc (.int .i64 0), .sc (.string ⟨#[]⟩)] [], .sc (.int .i64 0), .sc (.string ⟨#[]⟩), .ls [.sc (.string ⟨#[]⟩), .sc (.int .i64 0), .sc (.bool false), .sc (.bool false), .sc (.int .i64 0), .sc (.int .i64 0), .sc (.string ⟨#[]⟩)] [], .ls [.sc (.string ⟨#[]⟩)] [], .sc (.string ⟨#[]⟩), .sc (.string ⟨#[]⟩)]) rfl rfl rfl rfl (by decide) (by kernel_rfl) (by kernel_rfl)
theorem good59 : (ti 59).good Tryz.prog 59 := good_sl (zz := [.sc (.int .i64 0), .sc (.int .i64 0), .sc (.int .i64 0), .sc (.string ⟨#[]⟩), .ls [.sc (.int .i64 0), .sc (.int .i64 0), .sc (.string ⟨#[]⟩)] [], .ls [.sc (.int .i64 0), .sc (.int .i64 0), .sc (.string ⟨#[]⟩)] [], .sc (.int .i64 0), .sc (.string ⟨#[]⟩), .ls [.sc (.string ⟨#[]⟩), .sc (.int .i64 0), .sc (.bool false), .sc (.bool false), .sc (.int .i64 0), .sc (.int .i64 0), .sc (.string ⟨#[]⟩)] [], .ls [.sc (.string ⟨#[]⟩)] [], .sc (.string ⟨#[]⟩), .sc (.string ⟨#[]⟩)]) rfl rfl rfl rfl (by decide) (by kernel_rfl) (by kernel_rfl)
theorem good64 : (ti 64).good Tryz.prog 64 := good_st (fs := #[fld "Base" 3 0 0 "", fld "Db" 27 1 8 "", fld "Recs" 56 3 56 ""]) (cs := #[.int .i64 0, .slice none 0 0, .slice none 0 0, .slice none 0 0]) rfl rfl rfl rfl (by decide) (by decide) (zOk_ok rfl) (by kernel_rfl) (by kernel_rfl) (by kernel_rfl)
theorem good68 : (ti 68).good Tryz.prog 68 := good_st (fs := #[fld "Base" 3 0 0 "", fld "Db" 37 1 8 "", fld "Recs" 59 3 56 ""]) (cs := #[.int .i64 0, .slice none 0 0, .slice none 0 0, .slice none 0 0]) rfl rfl rfl rfl (by decide) (by decide) (zOk_ok rfl) (by kernel_rfl) (by kernel_rfl) (by kernel_rfl)
theorem good78 : (ti 78).good Tryz.prog 78 := good_sl (zz := [.sc (.int .u8 0)]) rfl rfl rfl rfl (by decide) (by kernel_rfl) (by kernel_rfl)
theorem good88 : (ti 88).good Tryz.prog 88 := good_sl (zz := [.sc (.int .i64 0), .sc (.int .i64 0), .sc (.string ⟨#[]⟩)]) rfl rfl rfl rfl (by decide) (by kernel_rfl) (by kernel_rfl)
theorem good90 : (ti 90).good Tryz.prog 90 := good_st (fs := #[fld "Vals" 88 0 0 ""]) (cs := #[.slice none 0 0]) rfl rfl rfl rfl (by decide) (by decide) (zOk_ok rfl) (by kernel_rfl) (by kernel_rfl) (by kernel_rfl)
theorem good91 : (ti 91).good Tryz.prog 91 := good_sl (zz := [.sc (.string ⟨#[]⟩), .sc (.int .i64 0), .sc (.bool false), .sc (.bool false), .sc (.int .i64 0), .sc (.int .i64 0), .sc (.string ⟨#[]⟩)]) rfl rfl rfl rfl (by decide) (by kernel_rfl) (by kernel_rfl)
theorem good92 : (ti 92).good Tryz.prog 92 := good_sl (zz := [.sc (.string ⟨#[]⟩)]) rfl rfl rfl rfl (by decide) (by kernel_rfl) (by kernel_rfl)
theorem good94 : (ti 94).good Tryz.prog 94 := good_st (fs := #[fld "Kind" 3 0 0 "", fld "Table" 9 1 8 "", fld "Cols" 91 2 24 "", fld "Keys" 92 3 48 "", fld "Name" 9 4 72 "", fld "To" 9 5 88 ""]) (cs := #[.int .i64 0, .string ⟨#[]⟩, .slice none 0 0, .slice none 0 0, .string ⟨#[]⟩, .string ⟨#[]⟩]) rfl rfl rfl rfl (by decide) (by decide) (zOk_ok rfl) (by kernel_rfl) (by kernel_rfl) (by kernel_rfl)
theorem good96 : (ti 96).good Tryz.prog 96 := good_st (fs := #[fld "Kind" 3 0 0 "", fld "Table" 9 1 8 "", fld "Key" 88 2 24 "", fld "Row" 90 3 48 "", fld "Ddl" 94 4 72 ""]) (cs := #[.int .i64 0, .string ⟨#[]⟩, .slice none 0 0, .slice none 0 0, .int .i64 0, .string ⟨#[]⟩, .slice none 0 0, .slice none 0 0, .string ⟨#[]⟩, .string ⟨#[]⟩]) rfl rfl rfl rfl (by decide) (by decide) (zOk_ok rfl) (by kernel_rfl) (by kernel_rfl) (by kernel_rfl)
theorem good98 : (ti 98).good Tryz.prog 98 := good_st (fs := #[fld "Kind" 3 0 0 "", fld "Xid" 3 1 8 "", fld "Stmt" 96 2 16 ""]) (cs := #[.int .i64 0, .int .i64 0, .int .i64 0, .string ⟨#[]⟩, .slice none 0 0, .slice none 0 0, .int .i64 0, .string ⟨#[]⟩, .slice none 0 0, .slice none 0 0, .string ⟨#[]⟩, .string ⟨#[]⟩]) rfl rfl rfl rfl (by decide) (by decide) (zOk_ok rfl) (by kernel_rfl) (by kernel_rfl) (by kernel_rfl)
theorem good100 : (ti 100).good Tryz.prog 100 := good_sl (zz := [.sc (.int .i64 0), .sc (.int .i64 0), .sc (.string ⟨#[]⟩)]) rfl rfl rfl rfl (by decide) (by kernel_rfl) (by kernel_rfl)
theorem good102 : (ti 102).good Tryz.prog 102 := good_st (fs := #[fld "Vals" 100 0 0 ""]) (cs := #[.slice none 0 0]) rfl rfl rfl rfl (by decide) (by decide) (zOk_ok rfl) (by kernel_rfl) (by kernel_rfl) (by kernel_rfl)
theorem good103 : (ti 103).good Tryz.prog 103 := good_sl (zz := [.sc (.string ⟨#[]⟩), .sc (.int .i64 0), .sc (.bool false), .sc (.bool false), .sc (.int .i64 0), .sc (.int .i64 0), .sc (.string ⟨#[]⟩)]) rfl rfl rfl rfl (by decide) (by kernel_rfl) (by kernel_rfl)
theorem good105 : (ti 105).good Tryz.prog 105 := good_st (fs := #[fld "Kind" 3 0 0 "", fld "Table" 9 1 8 "", fld "Cols" 103 2 24 "", fld "Keys" 92 3 48 "", fld "Name" 9 4 72 "", fld "To" 9 5 88 ""]) (cs := #[.int .i64 0, .string ⟨#[]⟩, .slice none 0 0, .slice none 0 0, .string ⟨#[]⟩, .string ⟨#[]⟩]) rfl rfl rfl rfl (by decide) (by decide) (zOk_ok rfl) (by kernel_rfl) (by kernel_rfl) (by kernel_rfl)
theorem good107 : (ti 107).good Tryz.prog 107 := good_st (fs := #[fld "Kind" 3 0 0 "", fld "Table" 9 1 8 "", fld "Key" 100 2 24 "", fld "Row" 102 3 48 "", fld "Ddl" 105 4 72 ""]) (cs := #[.int .i64 0, .string ⟨#[]⟩, .slice none 0 0, .slice none 0 0, .int .i64 0, .string ⟨#[]⟩, .slice none 0 0, .slice none 0 0, .string ⟨#[]⟩, .string ⟨#[]⟩]) rfl rfl rfl rfl (by decide) (by decide) (zOk_ok rfl) (by kernel_rfl) (by kernel_rfl) (by kernel_rfl)
theorem good109 : (ti 109).good Tryz.prog 109 := good_st (fs := #[fld "Kind" 3 0 0 "", fld "Xid" 3 1 8 "", fld "Stmt" 107 2 16 ""]) (cs := #[.int .i64 0, .int .i64 0, .int .i64 0, .string ⟨#[]⟩, .slice none 0 0, .slice none 0 0, .int .i64 0, .string ⟨#[]⟩, .slice none 0 0, .slice none 0 0, .string ⟨#[]⟩, .string ⟨#[]⟩]) rfl rfl rfl rfl (by decide) (by decide) (zOk_ok rfl) (by kernel_rfl) (by kernel_rfl) (by kernel_rfl)
theorem good119 : (ti 119).good Tryz.prog 119 := good_st (fs := #[fld "Name" 9 0 0 "", fld "Cols" 103 1 16 "", fld "Keys" 92 2 40 ""]) (cs := #[.string ⟨#[]⟩, .slice none 0 0, .slice none 0 0]) rfl rfl rfl rfl (by decide) (by decide) (zOk_ok rfl) (by kernel_rfl) (by kernel_rfl) (by kernel_rfl)
theorem good121 : (ti 121).good Tryz.prog 121 := good_sl (zz := [.ls [.sc (.int .i64 0), .sc (.int .i64 0), .sc (.string ⟨#[]⟩)] []]) rfl rfl rfl rfl (by decide) (by kernel_rfl) (by kernel_rfl)
theorem good123 : (ti 123).good Tryz.prog 123 := good_st (fs := #[fld "Rows" 121 0 0 ""]) (cs := #[.slice none 0 0]) rfl rfl rfl rfl (by decide) (by decide) (zOk_ok rfl) (by kernel_rfl) (by kernel_rfl) (by kernel_rfl)
theorem good128 : (ti 128).good Tryz.prog 128 := good_sl (zz := [.ls [.sc (.int .i64 0), .sc (.int .i64 0), .sc (.string ⟨#[]⟩)] []]) rfl rfl rfl rfl (by decide) (by kernel_rfl) (by kernel_rfl)
theorem good130 : (ti 130).good Tryz.prog 130 := good_st (fs := #[fld "Rows" 128 0 0 ""]) (cs := #[.slice none 0 0]) rfl rfl rfl rfl (by decide) (by decide) (zOk_ok rfl) (by kernel_rfl) (by kernel_rfl) (by kernel_rfl)
theorem good134 : (ti 134).good Tryz.prog 134 := good_st (fs := #[fld "Ty" 3 0 0 "", fld "N" 3 1 8 "", fld "S" 9 2 16 ""]) (cs := #[.int .i64 0, .int .i64 0, .string ⟨#[]⟩]) rfl rfl rfl rfl (by decide) (by decide) (zOk_ok rfl) (by kernel_rfl) (by kernel_rfl) (by kernel_rfl)
theorem good136 : (ti 136).good Tryz.prog 136 := good_st (fs := #[fld "Name" 9 0 0 "", fld "Ty" 3 1 16 "", fld "Not" 4 2 24 "", fld "Has" 4 3 25 "", fld "Def" 134 4 32 ""]) (cs := #[.string ⟨#[]⟩, .int .i64 0, .bool false, .bool false, .int .i64 0, .int .i64 0, .string ⟨#[]⟩]) rfl rfl rfl rfl (by decide) (by decide) (zOk_ok rfl) (by kernel_rfl) (by kernel_rfl) (by kernel_rfl)
theorem good154 : (ti 154).good Tryz.prog 154 := good_sl (zz := [.sc (.int .i64 0)]) rfl rfl rfl rfl (by decide) (by kernel_rfl) (by kernel_rfl)
theorem good158 : (ti 158).good Tryz.prog 158 := good_sl (zz := [.sc (.int .i64 0), .sc (.string ⟨#[]⟩), .ls [.sc (.int .i64 0), .sc (.int .i64 0), .sc (.string ⟨#[]⟩)] [], .ls [.sc (.int .i64 0), .sc (.int .i64 0), .sc (.string ⟨#[]⟩)] [], .sc (.int .i64 0), .sc (.string ⟨#[]⟩), .ls [.sc (.string ⟨#[]⟩), .sc (.int .i64 0), .sc (.bool false), .sc (.bool false), .sc (.int .i64 0), .sc (.int .i64 0), .sc (.string ⟨#[]⟩)] [], .ls [.sc (.string ⟨#[]⟩)] [], .sc (.string ⟨#[]⟩), .sc (.string ⟨#[]⟩)]) rfl rfl rfl rfl (by decide) (by kernel_rfl) (by kernel_rfl)
theorem good176 : (ti 176).good Tryz.prog 176 := good_st (fs := #[fld "Name" 9 0 0 "", fld "Cols" 91 1 16 "", fld "Keys" 92 2 40 ""]) (cs := #[.string ⟨#[]⟩, .slice none 0 0, .slice none 0 0]) rfl rfl rfl rfl (by decide) (by decide) (zOk_ok rfl) (by kernel_rfl) (by kernel_rfl) (by kernel_rfl)
theorem good226 : (ti 226).good Tryz.prog 226 := good_sc (v := .int .u64 0) rfl rfl rfl rfl (by decide) rfl (by intro _ _ h; cases h) (by kernel_rfl) (by kernel_rfl) (fun _ => rfl)
theorem good228 : (ti 228).good Tryz.prog 228 := good_st (fs := #[fld "Ty" 3 0 0 "", fld "N" 3 1 8 "", fld "S" 9 2 16 ""]) (cs := #[.int .i64 0, .int .i64 0, .string ⟨#[]⟩]) rfl rfl rfl rfl (by decide) (by decide) (zOk_ok rfl) (by kernel_rfl) (by kernel_rfl) (by kernel_rfl)
theorem good244 : (ti 244).good Tryz.prog 244 := good_st (fs := #[fld "Name" 9 0 0 "", fld "Ty" 3 1 16 "", fld "Not" 4 2 24 "", fld "Has" 4 3 25 "", fld "Def" 228 4 32 ""]) (cs := #[.string ⟨#[]⟩, .int .i64 0, .bool false, .bool false, .int .i64 0, .int .i64 0, .string ⟨#[]⟩]) rfl rfl rfl rfl (by decide) (by decide) (zOk_ok rfl) (by kernel_rfl) (by kernel_rfl) (by kernel_rfl)
theorem good259 : (ti 259).good Tryz.prog 259 := good_sc (v := .int .u32 0) rfl rfl rfl rfl (by decide) rfl (by intro _ _ h; cases h) (by kernel_rfl) (by kernel_rfl) (fun _ => rfl)
theorem good261 : (ti 261).good Tryz.prog 261 := good_sc (v := .int .u64 0) rfl rfl rfl rfl (by decide) rfl (by intro _ _ h; cases h) (by kernel_rfl) (by kernel_rfl) (fun _ => rfl)
theorem eq3 : eqAt Tryz.prog (ti 3) 3 1 := eqAt_int (n := 0) rfl rfl (by kernel_rfl)
theorem eq9 : eqAt Tryz.prog (ti 9) 9 1 := eqAt_str (s := ⟨#[]⟩) rfl rfl (by kernel_rfl)
theorem eq134 : eqAt Tryz.prog (ti 134) 134 2 := eqAt_st (fs := [fld "Ty" 3 0 0 "", fld "N" 3 1 8 "", fld "S" 9 2 16 ""]) (by kernel_rfl) (by kernel_rfl) (by kernel_rfl) rfl ⟨by decide, rfl, good3, rfl, rfl, eqAt_up eq3 (by decide), ⟨by decide, rfl, good3, rfl, rfl, eqAt_up eq3 (by decide), ⟨by decide, rfl, good9, rfl, rfl, eqAt_up eq9 (by decide), rfl⟩⟩⟩
theorem eq4 : eqAt Tryz.prog (ti 4) 4 1 := eqAt_bool (s := false) rfl rfl (by kernel_rfl)
theorem eq136 : eqAt Tryz.prog (ti 136) 136 3 := eqAt_st (fs := [fld "Name" 9 0 0 "", fld "Ty" 3 1 16 "", fld "Not" 4 2 24 "", fld "Has" 4 3 25 "", fld "Def" 134 4 32 ""]) (by kernel_rfl) (by kernel_rfl) (by kernel_rfl) rfl ⟨by decide, rfl, good9, rfl, rfl, eqAt_up eq9 (by decide), ⟨by decide, rfl, good3, rfl, rfl, eqAt_up eq3 (by decide), ⟨by decide, rfl, good4, rfl, rfl, eqAt_up eq4 (by decide), ⟨by decide, rfl, good4, rfl, rfl, eqAt_up eq4 (by decide), ⟨by decide, rfl, good134, rfl, rfl, eqAt_up eq134 (by decide), rfl⟩⟩⟩⟩⟩
theorem good' : ∀ t, (ti t).ok = true → (ti t).good Tryz.prog t := by
  intro t h
  unfold ti at h
  split at h
  · exact good2
  · exact good3
  · exact good4
  · exact good5
  · exact good9
  · exact good21
  · exact good22
  · exact good24
  · exact good25
  · exact good27
  · exact good29
  · exact good32
  · exact good34
  · exact good35
  · exact good37
  · exact good39
  · exact good44
  · exact good48
  · exact good56
  · exact good59
  · exact good64
  · exact good68
  · exact good78
  · exact good88
  · exact good90
  · exact good91
  · exact good92
  · exact good94
  · exact good96
  · exact good98
  · exact good100
  · exact good102
  · exact good103
  · exact good105
  · exact good107
  · exact good109
  · exact good119
  · exact good121
  · exact good123
  · exact good128
  · exact good130
  · exact good134
  · exact good136
  · exact good154
  · exact good158
  · exact good176
  · exact good226
  · exact good228
  · exact good244
  · exact good259
  · exact good261
  · cases h
theorem gooe : ∀ t, (ti t).eqb = true → eqAt Tryz.prog (ti t) t 5000 ∧ Tryz.prog.eqGuardType Tryz.prog.depth t = false := by
  intro t h
  have h0 := h
  unfold ti at h
  split at h
  · cases h
  · cases h
  · cases h
  · cases h
  · cases h
  · cases h
  · cases h
  · cases h
  · cases h
  · cases h
  · cases h
  · cases h
  · cases h
  · cases h
  · cases h
  · cases h
  · cases h
  · cases h
  · cases h
  · cases h
  · cases h
  · cases h
  · cases h
  · cases h
  · cases h
  · cases h
  · cases h
  · cases h
  · cases h
  · cases h
  · cases h
  · cases h
  · cases h
  · cases h
  · cases h
  · cases h
  · cases h
  · cases h
  · cases h
  · cases h
  · cases h
  · exact ⟨eqAt_up eq134 (by decide), by kernel_rfl⟩
  · exact ⟨eqAt_up eq136 (by decide), by kernel_rfl⟩
  · cases h
  · cases h
  · cases h
  · cases h
  · cases h
  · cases h
  · cases h
  · cases h
  · cases h
theorem good : TGood Tryz.prog ti := ⟨good', gooe⟩
theorem cg2 : ckOk ti ck 2 := by simp [ckOk, ti, ck]
theorem cg3 : ckOk ti ck 3 := by simp [ckOk, ti, ck]
theorem cg4 : ckOk ti ck 4 := by simp [ckOk, ti, ck]
theorem cg5 : ckOk ti ck 5 := by simp [ckOk, ti, ck]
theorem cg9 : ckOk ti ck 9 := by simp [ckOk, ti, ck]
theorem cg21 : ckOk ti ck 21 := by simp [ckOk, ti, ck]
theorem cg22 : ckOk ti ck 22 := by simp [ckOk, ti, ck]
theorem cg24 : ckOk ti ck 24 := by simp [ckOk, ti, ck, contig]
theorem cg25 : ckOk ti ck 25 := by simp [ckOk, ti, ck]
theorem cg27 : ckOk ti ck 27 := by simp [ckOk, ti, ck, contig]
theorem cg29 : ckOk ti ck 29 := by simp [ckOk, ti, ck, contig]
theorem cg32 : ckOk ti ck 32 := by simp [ckOk, ti, ck]
theorem cg34 : ckOk ti ck 34 := by simp [ckOk, ti, ck, contig]
theorem cg35 : ckOk ti ck 35 := by simp [ckOk, ti, ck]
theorem cg37 : ckOk ti ck 37 := by simp [ckOk, ti, ck, contig]
theorem cg39 : ckOk ti ck 39 := by simp [ckOk, ti, ck, contig]
theorem cg44 : ckOk ti ck 44 := by simp [ckOk, ti, ck, contig]
theorem cg48 : ckOk ti ck 48 := by simp [ckOk, ti, ck, contig]
theorem cg56 : ckOk ti ck 56 := by simp [ckOk, ti, ck]
theorem cg59 : ckOk ti ck 59 := by simp [ckOk, ti, ck]
theorem cg64 : ckOk ti ck 64 := by simp [ckOk, ti, ck, contig]
theorem cg68 : ckOk ti ck 68 := by simp [ckOk, ti, ck, contig]
theorem cg78 : ckOk ti ck 78 := by simp [ckOk, ti, ck]
theorem cg88 : ckOk ti ck 88 := by simp [ckOk, ti, ck]
theorem cg90 : ckOk ti ck 90 := by simp [ckOk, ti, ck, contig]
theorem cg91 : ckOk ti ck 91 := by simp [ckOk, ti, ck]
theorem cg92 : ckOk ti ck 92 := by simp [ckOk, ti, ck]
theorem cg94 : ckOk ti ck 94 := by simp [ckOk, ti, ck, contig]
theorem cg96 : ckOk ti ck 96 := by simp [ckOk, ti, ck, contig]
theorem cg98 : ckOk ti ck 98 := by simp [ckOk, ti, ck, contig]
theorem cg100 : ckOk ti ck 100 := by simp [ckOk, ti, ck]
theorem cg102 : ckOk ti ck 102 := by simp [ckOk, ti, ck, contig]
theorem cg103 : ckOk ti ck 103 := by simp [ckOk, ti, ck]
theorem cg105 : ckOk ti ck 105 := by simp [ckOk, ti, ck, contig]
theorem cg107 : ckOk ti ck 107 := by simp [ckOk, ti, ck, contig]
theorem cg109 : ckOk ti ck 109 := by simp [ckOk, ti, ck, contig]
theorem cg119 : ckOk ti ck 119 := by simp [ckOk, ti, ck, contig]
theorem cg121 : ckOk ti ck 121 := by simp [ckOk, ti, ck]
theorem cg123 : ckOk ti ck 123 := by simp [ckOk, ti, ck, contig]
theorem cg128 : ckOk ti ck 128 := by simp [ckOk, ti, ck]
theorem cg130 : ckOk ti ck 130 := by simp [ckOk, ti, ck, contig]
theorem cg134 : ckOk ti ck 134 := by simp [ckOk, ti, ck, contig]
theorem cg136 : ckOk ti ck 136 := by simp [ckOk, ti, ck, contig]
theorem cg154 : ckOk ti ck 154 := by simp [ckOk, ti, ck]
theorem cg158 : ckOk ti ck 158 := by simp [ckOk, ti, ck]
theorem cg176 : ckOk ti ck 176 := by simp [ckOk, ti, ck, contig]
theorem cg226 : ckOk ti ck 226 := by simp [ckOk, ti, ck]
theorem cg228 : ckOk ti ck 228 := by simp [ckOk, ti, ck, contig]
theorem cg244 : ckOk ti ck 244 := by simp [ckOk, ti, ck, contig]
theorem cg259 : ckOk ti ck 259 := by simp [ckOk, ti, ck]
theorem cg261 : ckOk ti ck 261 := by simp [ckOk, ti, ck]
theorem cgood : CGood ti ck := by
  intro t h
  unfold ti at h
  split at h
  · exact cg2
  · exact cg3
  · exact cg4
  · exact cg5
  · exact cg9
  · exact cg21
  · exact cg22
  · exact cg24
  · exact cg25
  · exact cg27
  · exact cg29
  · exact cg32
  · exact cg34
  · exact cg35
  · exact cg37
  · exact cg39
  · exact cg44
  · exact cg48
  · exact cg56
  · exact cg59
  · exact cg64
  · exact cg68
  · exact cg78
  · exact cg88
  · exact cg90
  · exact cg91
  · exact cg92
  · exact cg94
  · exact cg96
  · exact cg98
  · exact cg100
  · exact cg102
  · exact cg103
  · exact cg105
  · exact cg107
  · exact cg109
  · exact cg119
  · exact cg121
  · exact cg123
  · exact cg128
  · exact cg130
  · exact cg134
  · exact cg136
  · exact cg154
  · exact cg158
  · exact cg176
  · exact cg226
  · exact cg228
  · exact cg244
  · exact cg259
  · exact cg261
  · cases h
theorem hm : Tryz.prog.follows .mixedOrders = true := by kernel_rfl
end Go.Proofs.YtkciklpdhhcblaaGreat
