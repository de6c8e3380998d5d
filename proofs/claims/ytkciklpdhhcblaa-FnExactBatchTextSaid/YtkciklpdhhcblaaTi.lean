/- The type table of the seat Ytkciklpdhhcblaa: what the framework asks of each type that is plain data; printed by gen_ti.py. -/
import Derived.Test.YtkciklpdhhcblaaSm20
import Derived.Test.YtkciklpdhhcblaaProg
import Derived.KernelRfl
namespace Go.Proofs.Ytkciklpdhhcblaa
open Go Go.Proofs Go.Sm

def ti : TT
  | 2 => { ok := true, desc := .int .i64, sz := 1, by_ := 8, zv := .int .i64 0, z := [.sc (.int .i64 0)] }
  | 3 => { ok := true, desc := .int .i64, sz := 1, by_ := 8, zv := .int .i64 0, z := [.sc (.int .i64 0)] }
  | 4 => { ok := true, desc := .bool, sz := 1, by_ := 1, zv := .bool false, z := [.sc (.bool false)] }
  | 5 => { ok := true, desc := .int .u8, sz := 1, by_ := 1, zv := .int .u8 0, z := [.sc (.int .u8 0)] }
  | 9 => { ok := true, desc := .string, sz := 1, by_ := 16, zv := .string ⟨#[]⟩, z := [.sc (.string ⟨#[]⟩)] }
  | 21 => { ok := true, desc := .int .i32, sz := 1, by_ := 4, zv := .int .i32 0, z := [.sc (.int .i32 0)] }
  | 22 => { ok := true, desc := .slice 9, sz := 1, by_ := 24, zv := .slice none 0 0, z := [.ls [.sc (.string ⟨#[]⟩)] []], ms := [.o 9 (fun _ => [.s])] }
  | 23 => { ok := true, desc := .slice 132, sz := 1, by_ := 24, zv := .slice none 0 0, z := [.ls [.sc (.string ⟨#[]⟩), .sc (.int .i64 0), .sc (.bool false), .sc (.bool false), .sc (.int .i64 0), .sc (.int .i64 0), .sc (.string ⟨#[]⟩)] []], ms := [.o 132 (fun _ => [.s, .s, .s, .s, .s, .s, .s])] }
  | 25 => { ok := true, desc := .struct #[fld "Name" 9 0 0 "", fld "Cols" 23 1 16 "", fld "Keys" 22 2 40 ""], sz := 3, by_ := 64, zv := .agg #[.string ⟨#[]⟩, .slice none 0 0, .slice none 0 0], z := [.sc (.string ⟨#[]⟩), .ls [.sc (.string ⟨#[]⟩), .sc (.int .i64 0), .sc (.bool false), .sc (.bool false), .sc (.int .i64 0), .sc (.int .i64 0), .sc (.string ⟨#[]⟩)] [], .ls [.sc (.string ⟨#[]⟩)] []], ms := [.s, .o 132 (fun _ => [.s, .s, .s, .s, .s, .s, .s]), .o 9 (fun _ => [.s])] }
  | 30 => { ok := true, desc := .slice 102, sz := 1, by_ := 24, zv := .slice none 0 0, z := [.ls [.sc (.string ⟨#[]⟩), .sc (.int .i64 0), .sc (.bool false), .sc (.bool false), .sc (.int .i64 0), .sc (.int .i64 0), .sc (.string ⟨#[]⟩)] []], ms := [.o 102 (fun _ => [.s, .s, .s, .s, .s, .s, .s])] }
  | 32 => { ok := true, desc := .struct #[fld "Name" 9 0 0 "", fld "Cols" 30 1 16 "", fld "Keys" 22 2 40 ""], sz := 3, by_ := 64, zv := .agg #[.string ⟨#[]⟩, .slice none 0 0, .slice none 0 0], z := [.sc (.string ⟨#[]⟩), .ls [.sc (.string ⟨#[]⟩), .sc (.int .i64 0), .sc (.bool false), .sc (.bool false), .sc (.int .i64 0), .sc (.int .i64 0), .sc (.string ⟨#[]⟩)] [], .ls [.sc (.string ⟨#[]⟩)] []], ms := [.s, .o 102 (fun _ => [.s, .s, .s, .s, .s, .s, .s]), .o 9 (fun _ => [.s])] }
  | 37 => { ok := true, desc := .slice 130, sz := 1, by_ := 24, zv := .slice none 0 0, z := [.ls [.sc (.int .i64 0), .sc (.int .i64 0), .sc (.string ⟨#[]⟩)] []], ms := [.o 130 (fun _ => [.s, .s, .s])] }
  | 39 => { ok := true, desc := .struct #[fld "Vals" 37 0 0 ""], sz := 1, by_ := 24, zv := .agg #[.slice none 0 0], z := [.ls [.sc (.int .i64 0), .sc (.int .i64 0), .sc (.string ⟨#[]⟩)] []], ms := [.o 130 (fun _ => [.s, .s, .s])] }
  | 41 => { ok := true, desc := .struct #[fld "Kind" 3 0 0 "", fld "Table" 9 1 8 "", fld "Cols" 23 2 24 "", fld "Keys" 22 3 48 "", fld "Name" 9 4 72 "", fld "To" 9 5 88 ""], sz := 6, by_ := 104, zv := .agg #[.int .i64 0, .string ⟨#[]⟩, .slice none 0 0, .slice none 0 0, .string ⟨#[]⟩, .string ⟨#[]⟩], z := [.sc (.int .i64 0), .sc (.string ⟨#[]⟩), .ls [.sc (.string ⟨#[]⟩), .sc (.int .i64 0), .sc (.bool false), .sc (.bool false), .sc (.int .i64 0), .sc (.int .i64 0), .sc (.string ⟨#[]⟩)] [], .ls [.sc (.string ⟨#[]⟩)] [], .sc (.string ⟨#[]⟩), .sc (.string ⟨#[]⟩)], ms := [.s, .s, .o 132 (fun _ => [.s, .s, .s, .s, .s, .s, .s]), .o 9 (fun _ => [.s]), .s, .s] }
  | 43 => { ok := true, desc := .struct #[fld "Kind" 3 0 0 "", fld "Table" 9 1 8 "", fld "Key" 37 2 24 "", fld "Row" 39 3 48 "", fld "Ddl" 41 4 72 ""], sz := 10, by_ := 176, zv := .agg #[.int .i64 0, .string ⟨#[]⟩, .slice none 0 0, .slice none 0 0, .int .i64 0, .string ⟨#[]⟩, .slice none 0 0, .slice none 0 0, .string ⟨#[]⟩, .string ⟨#[]⟩], z := [.sc (.int .i64 0), .sc (.string ⟨#[]⟩), .ls [.sc (.int .i64 0), .sc (.int .i64 0), .sc (.string ⟨#[]⟩)] [], .ls [.sc (.int .i64 0), .sc (.int .i64 0), .sc (.string ⟨#[]⟩)] [], .sc (.int .i64 0), .sc (.string ⟨#[]⟩), .ls [.sc (.string ⟨#[]⟩), .sc (.int .i64 0), .sc (.bool false), .sc (.bool false), .sc (.int .i64 0), .sc (.int .i64 0), .sc (.string ⟨#[]⟩)] [], .ls [.sc (.string ⟨#[]⟩)] [], .sc (.string ⟨#[]⟩), .sc (.string ⟨#[]⟩)], ms := [.s, .s, .o 130 (fun _ => [.s, .s, .s]), .o 130 (fun _ => [.s, .s, .s]), .s, .s, .o 132 (fun _ => [.s, .s, .s, .s, .s, .s, .s]), .o 9 (fun _ => [.s]), .s, .s] }
  | 45 => { ok := true, desc := .struct #[fld "Kind" 3 0 0 "", fld "Xid" 3 1 8 "", fld "Stmt" 43 2 16 ""], sz := 12, by_ := 192, zv := .agg #[.int .i64 0, .int .i64 0, .int .i64 0, .string ⟨#[]⟩, .slice none 0 0, .slice none 0 0, .int .i64 0, .string ⟨#[]⟩, .slice none 0 0, .slice none 0 0, .string ⟨#[]⟩, .string ⟨#[]⟩], z := [.sc (.int .i64 0), .sc (.int .i64 0), .sc (.int .i64 0), .sc (.string ⟨#[]⟩), .ls [.sc (.int .i64 0), .sc (.int .i64 0), .sc (.string ⟨#[]⟩)] [], .ls [.sc (.int .i64 0), .sc (.int .i64 0), .sc (.string ⟨#[]⟩)] [], .sc (.int .i64 0), .sc (.string ⟨#[]⟩), .ls [.sc (.string ⟨#[]⟩), .sc (.int .i64 0), .sc (.bool false), .sc (.bool false), .sc (.int .i64 0), .sc (.int .i64 0), .sc (.string ⟨#[]⟩)] [], .ls [.sc (.string ⟨#[]⟩)] [], .sc (.string ⟨#[]⟩), .sc (.string ⟨#[]⟩)], ms := [.s, .s, .s, .s, .o 130 (fun _ => [.s, .s, .s]), .o 130 (fun _ => [.s, .s, .s]), .s, .s, .o 132 (fun _ => [.s, .s, .s, .s, .s, .s, .s]), .o 9 (fun _ => [.s]), .s, .s] }
  | 48 => { ok := true, desc := .slice 100, sz := 1, by_ := 24, zv := .slice none 0 0, z := [.ls [.sc (.int .i64 0), .sc (.int .i64 0), .sc (.string ⟨#[]⟩)] []], ms := [.o 100 (fun _ => [.s, .s, .s])] }
  | 50 => { ok := true, desc := .struct #[fld "Vals" 48 0 0 ""], sz := 1, by_ := 24, zv := .agg #[.slice none 0 0], z := [.ls [.sc (.int .i64 0), .sc (.int .i64 0), .sc (.string ⟨#[]⟩)] []], ms := [.o 100 (fun _ => [.s, .s, .s])] }
  | 52 => { ok := true, desc := .struct #[fld "Kind" 3 0 0 "", fld "Table" 9 1 8 "", fld "Cols" 30 2 24 "", fld "Keys" 22 3 48 "", fld "Name" 9 4 72 "", fld "To" 9 5 88 ""], sz := 6, by_ := 104, zv := .agg #[.int .i64 0, .string ⟨#[]⟩, .slice none 0 0, .slice none 0 0, .string ⟨#[]⟩, .string ⟨#[]⟩], z := [.sc (.int .i64 0), .sc (.string ⟨#[]⟩), .ls [.sc (.string ⟨#[]⟩), .sc (.int .i64 0), .sc (.bool false), .sc (.bool false), .sc (.int .i64 0), .sc (.int .i64 0), .sc (.string ⟨#[]⟩)] [], .ls [.sc (.string ⟨#[]⟩)] [], .sc (.string ⟨#[]⟩), .sc (.string ⟨#[]⟩)], ms := [.s, .s, .o 102 (fun _ => [.s, .s, .s, .s, .s, .s, .s]), .o 9 (fun _ => [.s]), .s, .s] }
  | 54 => { ok := true, desc := .struct #[fld "Kind" 3 0 0 "", fld "Table" 9 1 8 "", fld "Key" 48 2 24 "", fld "Row" 50 3 48 "", fld "Ddl" 52 4 72 ""], sz := 10, by_ := 176, zv := .agg #[.int .i64 0, .string ⟨#[]⟩, .slice none 0 0, .slice none 0 0, .int .i64 0, .string ⟨#[]⟩, .slice none 0 0, .slice none 0 0, .string ⟨#[]⟩, .string ⟨#[]⟩], z := [.sc (.int .i64 0), .sc (.string ⟨#[]⟩), .ls [.sc (.int .i64 0), .sc (.int .i64 0), .sc (.string ⟨#[]⟩)] [], .ls [.sc (.int .i64 0), .sc (.int .i64 0), .sc (.string ⟨#[]⟩)] [], .sc (.int .i64 0), .sc (.string ⟨#[]⟩), .ls [.sc (.string ⟨#[]⟩), .sc (.int .i64 0), .sc (.bool false), .sc (.bool false), .sc (.int .i64 0), .sc (.int .i64 0), .sc (.string ⟨#[]⟩)] [], .ls [.sc (.string ⟨#[]⟩)] [], .sc (.string ⟨#[]⟩), .sc (.string ⟨#[]⟩)], ms := [.s, .s, .o 100 (fun _ => [.s, .s, .s]), .o 100 (fun _ => [.s, .s, .s]), .s, .s, .o 102 (fun _ => [.s, .s, .s, .s, .s, .s, .s]), .o 9 (fun _ => [.s]), .s, .s] }
  | 56 => { ok := true, desc := .struct #[fld "Kind" 3 0 0 "", fld "Xid" 3 1 8 "", fld "Stmt" 54 2 16 ""], sz := 12, by_ := 192, zv := .agg #[.int .i64 0, .int .i64 0, .int .i64 0, .string ⟨#[]⟩, .slice none 0 0, .slice none 0 0, .int .i64 0, .string ⟨#[]⟩, .slice none 0 0, .slice none 0 0, .string ⟨#[]⟩, .string ⟨#[]⟩], z := [.sc (.int .i64 0), .sc (.int .i64 0), .sc (.int .i64 0), .sc (.string ⟨#[]⟩), .ls [.sc (.int .i64 0), .sc (.int .i64 0), .sc (.string ⟨#[]⟩)] [], .ls [.sc (.int .i64 0), .sc (.int .i64 0), .sc (.string ⟨#[]⟩)] [], .sc (.int .i64 0), .sc (.string ⟨#[]⟩), .ls [.sc (.string ⟨#[]⟩), .sc (.int .i64 0), .sc (.bool false), .sc (.bool false), .sc (.int .i64 0), .sc (.int .i64 0), .sc (.string ⟨#[]⟩)] [], .ls [.sc (.string ⟨#[]⟩)] [], .sc (.string ⟨#[]⟩), .sc (.string ⟨#[]⟩)], ms := [.s, .s, .s, .s, .o 100 (fun _ => [.s, .s, .s]), .o 100 (fun _ => [.s, .s, .s]), .s, .s, .o 102 (fun _ => [.s, .s, .s, .s, .s, .s, .s]), .o 9 (fun _ => [.s]), .s, .s] }
  | 60 => { ok := true, desc := .slice 151, sz := 1, by_ := 24, zv := .slice none 0 0, z := [.ls [.sc (.int .i64 0), .sc (.string ⟨#[]⟩), .ls [.sc (.int .i64 0), .sc (.int .i64 0), .sc (.string ⟨#[]⟩)] [], .ls [.sc (.int .i64 0), .sc (.int .i64 0), .sc (.string ⟨#[]⟩)] [], .sc (.int .i64 0), .sc (.string ⟨#[]⟩), .ls [.sc (.string ⟨#[]⟩), .sc (.int .i64 0), .sc (.bool false), .sc (.bool false), .sc (.int .i64 0), .sc (.int .i64 0), .sc (.string ⟨#[]⟩)] [], .ls [.sc (.string ⟨#[]⟩)] [], .sc (.string ⟨#[]⟩), .sc (.string ⟨#[]⟩), .ls [.sc (.string ⟨#[]⟩)] [], .ls [.sc (.string ⟨#[]⟩)] []] []], ms := [.o 151 (fun _ => [.s, .s, .o 130 (fun _ => [.s, .s, .s]), .o 130 (fun _ => [.s, .s, .s]), .s, .s, .o 132 (fun _ => [.s, .s, .s, .s, .s, .s, .s]), .o 9 (fun _ => [.s]), .s, .s, .o 9 (fun _ => [.s]), .o 9 (fun _ => [.s])])] }
  | 62 => { ok := true, desc := .struct #[fld "Lsn" 3 0 0 "", fld "Prev" 3 1 8 "", fld "Parts" 60 2 16 ""], sz := 3, by_ := 40, zv := .agg #[.int .i64 0, .int .i64 0, .slice none 0 0], z := [.sc (.int .i64 0), .sc (.int .i64 0), .ls [.sc (.int .i64 0), .sc (.string ⟨#[]⟩), .ls [.sc (.int .i64 0), .sc (.int .i64 0), .sc (.string ⟨#[]⟩)] [], .ls [.sc (.int .i64 0), .sc (.int .i64 0), .sc (.string ⟨#[]⟩)] [], .sc (.int .i64 0), .sc (.string ⟨#[]⟩), .ls [.sc (.string ⟨#[]⟩), .sc (.int .i64 0), .sc (.bool false), .sc (.bool false), .sc (.int .i64 0), .sc (.int .i64 0), .sc (.string ⟨#[]⟩)] [], .ls [.sc (.string ⟨#[]⟩)] [], .sc (.string ⟨#[]⟩), .sc (.string ⟨#[]⟩), .ls [.sc (.string ⟨#[]⟩)] [], .ls [.sc (.string ⟨#[]⟩)] []] []], ms := [.s, .s, .o 151 (fun _ => [.s, .s, .o 130 (fun _ => [.s, .s, .s]), .o 130 (fun _ => [.s, .s, .s]), .s, .s, .o 132 (fun _ => [.s, .s, .s, .s, .s, .s, .s]), .o 9 (fun _ => [.s]), .s, .s, .o 9 (fun _ => [.s]), .o 9 (fun _ => [.s])])] }
  | 65 => { ok := true, desc := .slice 116, sz := 1, by_ := 24, zv := .slice none 0 0, z := [.ls [.sc (.int .i64 0), .sc (.string ⟨#[]⟩), .ls [.sc (.int .i64 0), .sc (.int .i64 0), .sc (.string ⟨#[]⟩)] [], .ls [.sc (.int .i64 0), .sc (.int .i64 0), .sc (.string ⟨#[]⟩)] [], .sc (.int .i64 0), .sc (.string ⟨#[]⟩), .ls [.sc (.string ⟨#[]⟩), .sc (.int .i64 0), .sc (.bool false), .sc (.bool false), .sc (.int .i64 0), .sc (.int .i64 0), .sc (.string ⟨#[]⟩)] [], .ls [.sc (.string ⟨#[]⟩)] [], .sc (.string ⟨#[]⟩), .sc (.string ⟨#[]⟩), .ls [.sc (.string ⟨#[]⟩)] [], .ls [.sc (.string ⟨#[]⟩)] []] []], ms := [.o 116 (fun _ => [.s, .s, .o 100 (fun _ => [.s, .s, .s]), .o 100 (fun _ => [.s, .s, .s]), .s, .s, .o 102 (fun _ => [.s, .s, .s, .s, .s, .s, .s]), .o 9 (fun _ => [.s]), .s, .s, .o 9 (fun _ => [.s]), .o 9 (fun _ => [.s])])] }
  | 67 => { ok := true, desc := .struct #[fld "Lsn" 3 0 0 "", fld "Prev" 3 1 8 "", fld "Parts" 65 2 16 ""], sz := 3, by_ := 40, zv := .agg #[.int .i64 0, .int .i64 0, .slice none 0 0], z := [.sc (.int .i64 0), .sc (.int .i64 0), .ls [.sc (.int .i64 0), .sc (.string ⟨#[]⟩), .ls [.sc (.int .i64 0), .sc (.int .i64 0), .sc (.string ⟨#[]⟩)] [], .ls [.sc (.int .i64 0), .sc (.int .i64 0), .sc (.string ⟨#[]⟩)] [], .sc (.int .i64 0), .sc (.string ⟨#[]⟩), .ls [.sc (.string ⟨#[]⟩), .sc (.int .i64 0), .sc (.bool false), .sc (.bool false), .sc (.int .i64 0), .sc (.int .i64 0), .sc (.string ⟨#[]⟩)] [], .ls [.sc (.string ⟨#[]⟩)] [], .sc (.string ⟨#[]⟩), .sc (.string ⟨#[]⟩), .ls [.sc (.string ⟨#[]⟩)] [], .ls [.sc (.string ⟨#[]⟩)] []] []], ms := [.s, .s, .o 116 (fun _ => [.s, .s, .o 100 (fun _ => [.s, .s, .s]), .o 100 (fun _ => [.s, .s, .s]), .s, .s, .o 102 (fun _ => [.s, .s, .s, .s, .s, .s, .s]), .o 9 (fun _ => [.s]), .s, .s, .o 9 (fun _ => [.s]), .o 9 (fun _ => [.s])])] }
  | 71 => { ok := true, desc := .slice 25, sz := 1, by_ := 24, zv := .slice none 0 0, z := [.ls [.sc (.string ⟨#[]⟩), .ls [.sc (.string ⟨#[]⟩), .sc (.int .i64 0), .sc (.bool false), .sc (.bool false), .sc (.int .i64 0), .sc (.int .i64 0), .sc (.string ⟨#[]⟩)] [], .ls [.sc (.string ⟨#[]⟩)] []] []], ms := [.o 25 (fun _ => [.s, .o 132 (fun _ => [.s, .s, .s, .s, .s, .s, .s]), .o 9 (fun _ => [.s])])] }
  | 73 => { ok := true, desc := .struct #[fld "Tables" 71 0 0 ""], sz := 1, by_ := 24, zv := .agg #[.slice none 0 0], z := [.ls [.sc (.string ⟨#[]⟩), .ls [.sc (.string ⟨#[]⟩), .sc (.int .i64 0), .sc (.bool false), .sc (.bool false), .sc (.int .i64 0), .sc (.int .i64 0), .sc (.string ⟨#[]⟩)] [], .ls [.sc (.string ⟨#[]⟩)] []] []], ms := [.o 25 (fun _ => [.s, .o 132 (fun _ => [.s, .s, .s, .s, .s, .s, .s]), .o 9 (fun _ => [.s])])] }
  | 74 => { ok := true, desc := .slice 180, sz := 1, by_ := 24, zv := .slice none 0 0, z := [.ls [.ls [.ls [.sc (.int .i64 0), .sc (.int .i64 0), .sc (.string ⟨#[]⟩)] []] []] []], ms := [.o 180 (fun _ => [.o 39 (fun _ => [.o 130 (fun _ => [.s, .s, .s])])])] }
  | 76 => { ok := true, desc := .struct #[fld "Cat" 73 0 0 "", fld "Data" 74 1 24 ""], sz := 2, by_ := 48, zv := .agg #[.slice none 0 0, .slice none 0 0], z := [.ls [.sc (.string ⟨#[]⟩), .ls [.sc (.string ⟨#[]⟩), .sc (.int .i64 0), .sc (.bool false), .sc (.bool false), .sc (.int .i64 0), .sc (.int .i64 0), .sc (.string ⟨#[]⟩)] [], .ls [.sc (.string ⟨#[]⟩)] []] [], .ls [.ls [.ls [.sc (.int .i64 0), .sc (.int .i64 0), .sc (.string ⟨#[]⟩)] []] []] []], ms := [.o 25 (fun _ => [.s, .o 132 (fun _ => [.s, .s, .s, .s, .s, .s, .s]), .o 9 (fun _ => [.s])]), .o 180 (fun _ => [.o 39 (fun _ => [.o 130 (fun _ => [.s, .s, .s])])])] }
  | 78 => { ok := true, desc := .struct #[fld "Db" 76 0 0 "", fld "At" 3 2 48 "", fld "Halt" 3 3 56 ""], sz := 4, by_ := 64, zv := .agg #[.slice none 0 0, .slice none 0 0, .int .i64 0, .int .i64 0], z := [.ls [.sc (.string ⟨#[]⟩), .ls [.sc (.string ⟨#[]⟩), .sc (.int .i64 0), .sc (.bool false), .sc (.bool false), .sc (.int .i64 0), .sc (.int .i64 0), .sc (.string ⟨#[]⟩)] [], .ls [.sc (.string ⟨#[]⟩)] []] [], .ls [.ls [.ls [.sc (.int .i64 0), .sc (.int .i64 0), .sc (.string ⟨#[]⟩)] []] []] [], .sc (.int .i64 0), .sc (.int .i64 0)], ms := [.o 25 (fun _ => [.s, .o 132 (fun _ => [.s, .s, .s, .s, .s, .s, .s]), .o 9 (fun _ => [.s])]), .o 180 (fun _ => [.o 39 (fun _ => [.o 130 (fun _ => [.s, .s, .s])])]), .s, .s] }
  | 81 => { ok := true, desc := .slice 32, sz := 1, by_ := 24, zv := .slice none 0 0, z := [.ls [.sc (.string ⟨#[]⟩), .ls [.sc (.string ⟨#[]⟩), .sc (.int .i64 0), .sc (.bool false), .sc (.bool false), .sc (.int .i64 0), .sc (.int .i64 0), .sc (.string ⟨#[]⟩)] [], .ls [.sc (.string ⟨#[]⟩)] []] []], ms := [.o 32 (fun _ => [.s, .o 102 (fun _ => [.s, .s, .s, .s, .s, .s, .s]), .o 9 (fun _ => [.s])])] }
  | 83 => { ok := true, desc := .struct #[fld "Tables" 81 0 0 ""], sz := 1, by_ := 24, zv := .agg #[.slice none 0 0], z := [.ls [.sc (.string ⟨#[]⟩), .ls [.sc (.string ⟨#[]⟩), .sc (.int .i64 0), .sc (.bool false), .sc (.bool false), .sc (.int .i64 0), .sc (.int .i64 0), .sc (.string ⟨#[]⟩)] [], .ls [.sc (.string ⟨#[]⟩)] []] []], ms := [.o 32 (fun _ => [.s, .o 102 (fun _ => [.s, .s, .s, .s, .s, .s, .s]), .o 9 (fun _ => [.s])])] }
  | 84 => { ok := true, desc := .slice 159, sz := 1, by_ := 24, zv := .slice none 0 0, z := [.ls [.ls [.ls [.sc (.int .i64 0), .sc (.int .i64 0), .sc (.string ⟨#[]⟩)] []] []] []], ms := [.o 159 (fun _ => [.o 50 (fun _ => [.o 100 (fun _ => [.s, .s, .s])])])] }
  | 86 => { ok := true, desc := .struct #[fld "Cat" 83 0 0 "", fld "Data" 84 1 24 ""], sz := 2, by_ := 48, zv := .agg #[.slice none 0 0, .slice none 0 0], z := [.ls [.sc (.string ⟨#[]⟩), .ls [.sc (.string ⟨#[]⟩), .sc (.int .i64 0), .sc (.bool false), .sc (.bool false), .sc (.int .i64 0), .sc (.int .i64 0), .sc (.string ⟨#[]⟩)] [], .ls [.sc (.string ⟨#[]⟩)] []] [], .ls [.ls [.ls [.sc (.int .i64 0), .sc (.int .i64 0), .sc (.string ⟨#[]⟩)] []] []] []], ms := [.o 32 (fun _ => [.s, .o 102 (fun _ => [.s, .s, .s, .s, .s, .s, .s]), .o 9 (fun _ => [.s])]), .o 159 (fun _ => [.o 50 (fun _ => [.o 100 (fun _ => [.s, .s, .s])])])] }
  | 88 => { ok := true, desc := .struct #[fld "Db" 86 0 0 "", fld "At" 3 2 48 "", fld "Halt" 3 3 56 ""], sz := 4, by_ := 64, zv := .agg #[.slice none 0 0, .slice none 0 0, .int .i64 0, .int .i64 0], z := [.ls [.sc (.string ⟨#[]⟩), .ls [.sc (.string ⟨#[]⟩), .sc (.int .i64 0), .sc (.bool false), .sc (.bool false), .sc (.int .i64 0), .sc (.int .i64 0), .sc (.string ⟨#[]⟩)] [], .ls [.sc (.string ⟨#[]⟩)] []] [], .ls [.ls [.ls [.sc (.int .i64 0), .sc (.int .i64 0), .sc (.string ⟨#[]⟩)] []] []] [], .sc (.int .i64 0), .sc (.int .i64 0)], ms := [.o 32 (fun _ => [.s, .o 102 (fun _ => [.s, .s, .s, .s, .s, .s, .s]), .o 9 (fun _ => [.s])]), .o 159 (fun _ => [.o 50 (fun _ => [.o 100 (fun _ => [.s, .s, .s])])]), .s, .s] }
  | 100 => { ok := true, desc := .struct #[fld "Ty" 3 0 0 "", fld "N" 3 1 8 "", fld "S" 9 2 16 ""], sz := 3, by_ := 32, zv := .agg #[.int .i64 0, .int .i64 0, .string ⟨#[]⟩], z := [.sc (.int .i64 0), .sc (.int .i64 0), .sc (.string ⟨#[]⟩)], eqb := true }
  | 102 => { ok := true, desc := .struct #[fld "Name" 9 0 0 "", fld "Ty" 3 1 16 "", fld "Not" 4 2 24 "", fld "Has" 4 3 25 "", fld "Def" 100 4 32 ""], sz := 7, by_ := 64, zv := .agg #[.string ⟨#[]⟩, .int .i64 0, .bool false, .bool false, .int .i64 0, .int .i64 0, .string ⟨#[]⟩], z := [.sc (.string ⟨#[]⟩), .sc (.int .i64 0), .sc (.bool false), .sc (.bool false), .sc (.int .i64 0), .sc (.int .i64 0), .sc (.string ⟨#[]⟩)], eqb := true }
  | 116 => { ok := true, desc := .struct #[fld "Stmt" 54 0 0 "", fld "Cols" 22 10 176 "", fld "Keys" 22 11 200 ""], sz := 12, by_ := 224, zv := .agg #[.int .i64 0, .string ⟨#[]⟩, .slice none 0 0, .slice none 0 0, .int .i64 0, .string ⟨#[]⟩, .slice none 0 0, .slice none 0 0, .string ⟨#[]⟩, .string ⟨#[]⟩, .slice none 0 0, .slice none 0 0], z := [.sc (.int .i64 0), .sc (.string ⟨#[]⟩), .ls [.sc (.int .i64 0), .sc (.int .i64 0), .sc (.string ⟨#[]⟩)] [], .ls [.sc (.int .i64 0), .sc (.int .i64 0), .sc (.string ⟨#[]⟩)] [], .sc (.int .i64 0), .sc (.string ⟨#[]⟩), .ls [.sc (.string ⟨#[]⟩), .sc (.int .i64 0), .sc (.bool false), .sc (.bool false), .sc (.int .i64 0), .sc (.int .i64 0), .sc (.string ⟨#[]⟩)] [], .ls [.sc (.string ⟨#[]⟩)] [], .sc (.string ⟨#[]⟩), .sc (.string ⟨#[]⟩), .ls [.sc (.string ⟨#[]⟩)] [], .ls [.sc (.string ⟨#[]⟩)] []], ms := [.s, .s, .o 100 (fun _ => [.s, .s, .s]), .o 100 (fun _ => [.s, .s, .s]), .s, .s, .o 102 (fun _ => [.s, .s, .s, .s, .s, .s, .s]), .o 9 (fun _ => [.s]), .s, .s, .o 9 (fun _ => [.s]), .o 9 (fun _ => [.s])] }
  | 130 => { ok := true, desc := .struct #[fld "Ty" 3 0 0 "", fld "N" 3 1 8 "", fld "S" 9 2 16 ""], sz := 3, by_ := 32, zv := .agg #[.int .i64 0, .int .i64 0, .string ⟨#[]⟩], z := [.sc (.int .i64 0), .sc (.int .i64 0), .sc (.string ⟨#[]⟩)] }
  | 132 => { ok := true, desc := .struct #[fld "Name" 9 0 0 "", fld "Ty" 3 1 16 "", fld "Not" 4 2 24 "", fld "Has" 4 3 25 "", fld "Def" 130 4 32 ""], sz := 7, by_ := 64, zv := .agg #[.string ⟨#[]⟩, .int .i64 0, .bool false, .bool false, .int .i64 0, .int .i64 0, .string ⟨#[]⟩], z := [.sc (.string ⟨#[]⟩), .sc (.int .i64 0), .sc (.bool false), .sc (.bool false), .sc (.int .i64 0), .sc (.int .i64 0), .sc (.string ⟨#[]⟩)] }
  | 151 => { ok := true, desc := .struct #[fld "Stmt" 43 0 0 "", fld "Cols" 22 10 176 "", fld "Keys" 22 11 200 ""], sz := 12, by_ := 224, zv := .agg #[.int .i64 0, .string ⟨#[]⟩, .slice none 0 0, .slice none 0 0, .int .i64 0, .string ⟨#[]⟩, .slice none 0 0, .slice none 0 0, .string ⟨#[]⟩, .string ⟨#[]⟩, .slice none 0 0, .slice none 0 0], z := [.sc (.int .i64 0), .sc (.string ⟨#[]⟩), .ls [.sc (.int .i64 0), .sc (.int .i64 0), .sc (.string ⟨#[]⟩)] [], .ls [.sc (.int .i64 0), .sc (.int .i64 0), .sc (.string ⟨#[]⟩)] [], .sc (.int .i64 0), .sc (.string ⟨#[]⟩), .ls [.sc (.string ⟨#[]⟩), .sc (.int .i64 0), .sc (.bool false), .sc (.bool false), .sc (.int .i64 0), .sc (.int .i64 0), .sc (.string ⟨#[]⟩)] [], .ls [.sc (.string ⟨#[]⟩)] [], .sc (.string ⟨#[]⟩), .sc (.string ⟨#[]⟩), .ls [.sc (.string ⟨#[]⟩)] [], .ls [.sc (.string ⟨#[]⟩)] []], ms := [.s, .s, .o 130 (fun _ => [.s, .s, .s]), .o 130 (fun _ => [.s, .s, .s]), .s, .s, .o 132 (fun _ => [.s, .s, .s, .s, .s, .s, .s]), .o 9 (fun _ => [.s]), .s, .s, .o 9 (fun _ => [.s]), .o 9 (fun _ => [.s])] }
  | 157 => { ok := true, desc := .slice 50, sz := 1, by_ := 24, zv := .slice none 0 0, z := [.ls [.ls [.sc (.int .i64 0), .sc (.int .i64 0), .sc (.string ⟨#[]⟩)] []] []], ms := [.o 50 (fun _ => [.o 100 (fun _ => [.s, .s, .s])])] }
  | 159 => { ok := true, desc := .struct #[fld "Rows" 157 0 0 ""], sz := 1, by_ := 24, zv := .agg #[.slice none 0 0], z := [.ls [.ls [.sc (.int .i64 0), .sc (.int .i64 0), .sc (.string ⟨#[]⟩)] []] []], ms := [.o 50 (fun _ => [.o 100 (fun _ => [.s, .s, .s])])] }
  | 167 => { ok := true, desc := .slice 5, sz := 1, by_ := 24, zv := .slice none 0 0, z := [.ls [.sc (.int .u8 0)] []], ms := [.o 5 (fun _ => [.s])] }
  | 178 => { ok := true, desc := .slice 39, sz := 1, by_ := 24, zv := .slice none 0 0, z := [.ls [.ls [.sc (.int .i64 0), .sc (.int .i64 0), .sc (.string ⟨#[]⟩)] []] []], ms := [.o 39 (fun _ => [.o 130 (fun _ => [.s, .s, .s])])] }
  | 180 => { ok := true, desc := .struct #[fld "Rows" 178 0 0 ""], sz := 1, by_ := 24, zv := .agg #[.slice none 0 0], z := [.ls [.ls [.sc (.int .i64 0), .sc (.int .i64 0), .sc (.string ⟨#[]⟩)] []] []], ms := [.o 39 (fun _ => [.o 130 (fun _ => [.s, .s, .s])])] }
  | 198 => { ok := true, desc := .int .u64, sz := 1, by_ := 8, zv := .int .u64 0, z := [.sc (.int .u64 0)] }
  | 207 => { ok := true, desc := .int .u32, sz := 1, by_ := 4, zv := .int .u32 0, z := [.sc (.int .u32 0)] }
  | _ => {}
def ck : Nat → List CK
  | 2 => [.int .i64]
  | 3 => [.int .i64]
  | 4 => [.bool]
  | 5 => [.int .u8]
  | 9 => [.str]
  | 21 => [.int .i32]
  | 22 => [.sl 9]
  | 23 => [.sl 132]
  | 25 => [.str, .sl 132, .sl 9]
  | 30 => [.sl 102]
  | 32 => [.str, .sl 102, .sl 9]
  | 37 => [.sl 130]
  | 39 => [.sl 130]
  | 41 => [.int .i64, .str, .sl 132, .sl 9, .str, .str]
  | 43 => [.int .i64, .str, .sl 130, .sl 130, .int .i64, .str, .sl 132, .sl 9, .str, .str]
  | 45 => [.int .i64, .int .i64, .int .i64, .str, .sl 130, .sl 130, .int .i64, .str, .sl 132, .sl 9, .str, .str]
  | 48 => [.sl 100]
  | 50 => [.sl 100]
  | 52 => [.int .i64, .str, .sl 102, .sl 9, .str, .str]
  | 54 => [.int .i64, .str, .sl 100, .sl 100, .int .i64, .str, .sl 102, .sl 9, .str, .str]
  | 56 => [.int .i64, .int .i64, .int .i64, .str, .sl 100, .sl 100, .int .i64, .str, .sl 102, .sl 9, .str, .str]
  | 60 => [.sl 151]
  | 62 => [.int .i64, .int .i64, .sl 151]
  | 65 => [.sl 116]
  | 67 => [.int .i64, .int .i64, .sl 116]
  | 71 => [.sl 25]
  | 73 => [.sl 25]
  | 74 => [.sl 180]
  | 76 => [.sl 25, .sl 180]
  | 78 => [.sl 25, .sl 180, .int .i64, .int .i64]
  | 81 => [.sl 32]
  | 83 => [.sl 32]
  | 84 => [.sl 159]
  | 86 => [.sl 32, .sl 159]
  | 88 => [.sl 32, .sl 159, .int .i64, .int .i64]
  | 100 => [.int .i64, .int .i64, .str]
  | 102 => [.str, .int .i64, .bool, .bool, .int .i64, .int .i64, .str]
  | 116 => [.int .i64, .str, .sl 100, .sl 100, .int .i64, .str, .sl 102, .sl 9, .str, .str, .sl 9, .sl 9]
  | 130 => [.int .i64, .int .i64, .str]
  | 132 => [.str, .int .i64, .bool, .bool, .int .i64, .int .i64, .str]
  | 151 => [.int .i64, .str, .sl 130, .sl 130, .int .i64, .str, .sl 132, .sl 9, .str, .str, .sl 9, .sl 9]
  | 157 => [.sl 50]
  | 159 => [.sl 50]
  | 167 => [.sl 5]
  | 178 => [.sl 39]
  | 180 => [.sl 39]
  | 198 => [.int .u64]
  | 207 => [.int .u32]
  | _ => []
theorem good2 : (ti 2).good Try.prog 2 := good_sc (v := .int .i64 0) rfl rfl rfl rfl (by decide) rfl (by intro _ _ h; cases h) (by kernel_rfl) (by kernel_rfl) (fun _ => rfl)
theorem good3 : (ti 3).good Try.prog 3 := good_sc (v := .int .i64 0) rfl rfl rfl rfl (by decide) rfl (by intro _ _ h; cases h) (by kernel_rfl) (by kernel_rfl) (fun _ => rfl)
theorem good4 : (ti 4).good Try.prog 4 := good_sc (v := .bool false) rfl rfl rfl rfl (by decide) rfl (by intro _ _ h; cases h) (by kernel_rfl) (by kernel_rfl) (fun _ => rfl)
theorem good5 : (ti 5).good Try.prog 5 := good_sc (v := .int .u8 0) rfl rfl rfl rfl (by decide) rfl (by intro _ _ h; cases h) (by kernel_rfl) (by kernel_rfl) (fun _ => rfl)
theorem good9 : (ti 9).good Try.prog 9 := good_sc (v := .string ⟨#[]⟩) rfl rfl rfl rfl (by decide) rfl (by intro _ _ h; cases h) (by kernel_rfl) (by kernel_rfl) (fun _ => rfl)
theorem good21 : (ti 21).good Try.prog 21 := good_sc (v := .int .i32 0) rfl rfl rfl rfl (by decide) rfl (by intro _ _ h; cases h) (by kernel_rfl) (by kernel_rfl) (fun _ => rfl)
theorem good22 : (ti 22).good Try.prog 22 := good_sl (zz := [.sc (.string ⟨#[]⟩)]) rfl rfl rfl rfl (by decide) (by kernel_rfl) (by kernel_rfl)
theorem good23 : (ti 23).good Try.prog 23 := good_sl (zz := [.sc (.string ⟨#[]⟩), .sc (.int .i64 0), .sc (.bool false), .sc (.bool false), .sc (.int .i64 0), .sc (.int .i64 0), .sc (.string ⟨#[]⟩)]) rfl rfl rfl rfl (by decide) (by kernel_rfl) (by kernel_rfl)
theorem good25 : (ti 25).good Try.prog 25 := good_st (fs := #[fld "Name" 9 0 0 "", fld "Cols" 23 1 16 "", fld "Keys" 22 2 40 ""]) (cs := #[.string ⟨#[]⟩, .slice none 0 0, .slice none 0 0]) rfl rfl rfl rfl (by decide) (by decide) (zOk_ok rfl) (by kernel_rfl) (by kernel_rfl) (by kernel_rfl)
theorem good30 : (ti 30).good Try.prog 30 := good_sl (zz := [.sc (.string ⟨#[]⟩), .sc (.int .i64 0), .sc (.bool false), .sc (.bool false), .sc (.int .i64 0), .sc (.int .i64 0), .sc (.string ⟨#[]⟩)]) rfl rfl rfl rfl (by decide) (by kernel_rfl) (by kernel_rfl)
theorem good32 : (ti 32).good Try.prog 32 := good_st (fs := #[fld "Name" 9 0 0 "", fld "Cols" 30 1 16 "", fld "Keys" 22 2 40 ""]) (cs := #[.string ⟨#[]⟩, .slice none 0 0, .slice none 0 0]) rfl rfl rfl rfl (by decide) (by decide) (zOk_ok rfl) (by kernel_rfl) (by kernel_rfl) (by kernel_rfl)
theorem good37 : (ti 37).good Try.prog 37 := good_sl (zz := [.sc (.int .i64 0), .sc (.int .i64 0), .sc (.string ⟨#[]⟩)]) rfl rfl rfl rfl (by decide) (by kernel_rfl) (by kernel_rfl)
theorem good39 : (ti 39).good Try.prog 39 := good_st (fs := #[fld "Vals" 37 0 0 ""]) (cs := #[.slice none 0 0]) rfl rfl rfl rfl (by decide) (by decide) (zOk_ok rfl) (by kernel_rfl) (by kernel_rfl) (by kernel_rfl)
theorem good41 : (ti 41).good Try.prog 41 := good_st (fs := #[fld "Kind" 3 0 0 "", fld "Table" 9 1 8 "", fld "Cols" 23 2 24 "", fld "Keys" 22 3 48 "", fld "Name" 9 4 72 "", fld "To" 9 5 88 ""]) (cs := #[.int .i64 0, .string ⟨#[]⟩, .slice none 0 0, .slice none 0 0, .string ⟨#[]⟩, .string ⟨#[]⟩]) rfl rfl rfl rfl (by decide) (by decide) (zOk_ok rfl) (by kernel_rfl) (by kernel_rfl) (by kernel_rfl)
theorem good43 : (ti 43).good Try.prog 43 := good_st (fs := #[fld "Kind" 3 0 0 "", fld "Table" 9 1 8 "", fld "Key" 37 2 24 "", fld "Row" 39 3 48 "", fld "Ddl" 41 4 72 ""]) (cs := #[.int .i64 0, .string ⟨#[]⟩, .slice none 0 0, .slice none 0 0, .int .i64 0, .string ⟨#[]⟩, .slice none 0 0, .slice none 0 0, .string ⟨#[]⟩, .string ⟨#[]⟩]) rfl rfl rfl rfl (by decide) (by decide) (zOk_ok rfl) (by kernel_rfl) (by kernel_rfl) (by kernel_rfl)
theorem good45 : (ti 45).good Try.prog 45 := good_st (fs := #[fld "Kind" 3 0 0 "", fld "Xid" 3 1 8 "", fld "Stmt" 43 2 16 ""]) (cs := #[.int .i64 0, .int .i64 0, .int .i64 0, .string ⟨#[]⟩, .slice none 0 0, .slice none 0 0, .int .i64 0, .string ⟨#[]⟩, .slice none 0 0, .slice none 0 0, .string ⟨#[]⟩, .string ⟨#[]⟩]) rfl rfl rfl rfl (by decide) (by decide) (zOk_ok rfl) (by kernel_rfl) (by kernel_rfl) (by kernel_rfl)
theorem good48 : (ti 48).good Try.prog 48 := good_sl (zz := [.sc (.int .i64 0), .sc (.int .i64 0), .sc (.string ⟨#[]⟩)]) rfl rfl rfl rfl (by decide) (by kernel_rfl) (by kernel_rfl)
theorem good50 : (ti 50).good Try.prog 50 := good_st (fs := #[fld "Vals" 48 0 0 ""]) (cs := #[.slice none 0 0]) rfl rfl rfl rfl (by decide) (by decide) (zOk_ok rfl) (by kernel_rfl) (by kernel_rfl) (by kernel_rfl)
theorem good52 : (ti 52).good Try.prog 52 := good_st (fs := #[fld "Kind" 3 0 0 "", fld "Table" 9 1 8 "", fld "Cols" 30 2 24 "", fld "Keys" 22 3 48 "", fld "Name" 9 4 72 "", fld "To" 9 5 88 ""]) (cs := #[.int .i64 0, .string ⟨#[]⟩, .slice none 0 0, .slice none 0 0, .string ⟨#[]⟩, .string ⟨#[]⟩]) rfl rfl rfl rfl (by decide) (by decide) (zOk_ok rfl) (by kernel_rfl) (by kernel_rfl) (by kernel_rfl)
theorem good54 : (ti 54).good Try.prog 54 := good_st (fs := #[fld "Kind" 3 0 0 "", fld "Table" 9 1 8 "", fld "Key" 48 2 24 "", fld "Row" 50 3 48 "", fld "Ddl" 52 4 72 ""]) (cs := #[.int .i64 0, .string ⟨#[]⟩, .slice none 0 0, .slice none 0 0, .int .i64 0, .string ⟨#[]⟩, .slice none 0 0, .slice none 0 0, .string ⟨#[]⟩, .string ⟨#[]⟩]) rfl rfl rfl rfl (by decide) (by decide) (zOk_ok rfl) (by kernel_rfl) (by kernel_rfl) (by kernel_rfl)
theorem good56 : (ti 56).good Try.prog 56 := good_st (fs := #[fld "Kind" 3 0 0 "", fld "Xid" 3 1 8 "", fld "Stmt" 54 2 16 ""]) (cs := #[.int .i64 0, .int .i64 0, .int .i64 0, .string ⟨#[]⟩, .slice none 0 0, .slice none 0 0, .int .i64 0, .string ⟨#[]⟩, .slice none 0 0, .slice none 0 0, .string ⟨#[]⟩, .string ⟨#[]⟩]) rfl rfl rfl rfl (by decide) (by decide) (zOk_ok rfl) (by kernel_rfl) (by kernel_rfl) (by kernel_rfl)
theorem good60 : (ti 60).good Try.prog 60 := good_sl (zz := [.sc (.int .i64 0), .sc (.string ⟨#[]⟩), .ls [.sc (.int .i64 0), .sc (.int .i64 0), .sc (.string ⟨#[]⟩)] [], .ls [.sc (.int .i64 0), .sc (.int .i64 0), .sc (.string ⟨#[]⟩)] [], .sc (.int .i64 0), .sc (.string ⟨#[]⟩), .ls [.sc (.string ⟨#[]⟩), .sc (.int .i64 0), .sc (.bool false), .sc (.bool false), .sc (.int .i64 0), .sc (.int .i64 0), .sc (.string ⟨#[]⟩)] [], .ls [.sc (.string ⟨#[]⟩)] [], .sc (.string ⟨#[]⟩), .sc (.string ⟨#[]⟩), .ls [.sc (.string ⟨#[]⟩)] [], .ls [.sc (.string ⟨#[]⟩)] []]) rfl rfl rfl rfl (by decide) (by kernel_rfl) (by kernel_rfl)
theorem good62 : (ti 62).good Try.prog 62 := good_st (fs := #[fld "Lsn" 3 0 0 "", fld "Prev" 3 1 8 "", fld "Parts" 60 2 16 ""]) (cs := #[.int .i64 0, .int .i64 0, .slice none 0 0]) rfl rfl rfl rfl (by decide) (by decide) (zOk_ok rfl) (by kernel_rfl) (by kernel_rfl) (by kernel_rfl)
theorem good65 : (ti 65).good Try.prog 65 := good_sl (zz := [.sc (.int .i64 0), .sc (.string ⟨#[]⟩), .ls [.sc (.int .i64 0), .sc (.int .i64 0), .sc (.string ⟨#[]⟩)] [], .ls [.sc (.int .i64 0), .sc (.int .i64 0), .sc (.string ⟨#[]⟩)] [], .sc (.int .i64 0), .sc (.string ⟨#[]⟩), .ls [.sc (.string ⟨#[]⟩), .sc (.int .i64 0), .sc (.bool false), .sc (.bool false), .sc (.int .i64 0), .sc (.int .i64 0), .sc (.string ⟨#[]⟩)] [], .ls [.sc (.string ⟨#[]⟩)] [], .sc (.string ⟨#[]⟩), .sc (.string ⟨#[]⟩), .ls [.sc (.string ⟨#[]⟩)] [], .ls [.sc (.string ⟨#[]⟩)] []]) rfl rfl rfl rfl (by decide) (by kernel_rfl) (by kernel_rfl)
theorem good67 : (ti 67).good Try.prog 67 := good_st (fs := #[fld "Lsn" 3 0 0 "", fld "Prev" 3 1 8 "", fld "Parts" 65 2 16 ""]) (cs := #[.int .i64 0, .int .i64 0, .slice none 0 0]) rfl rfl rfl rfl (by decide) (by decide) (zOk_ok rfl) (by kernel_rfl) (by kernel_rfl) (by kernel_rfl)
theorem good71 : (ti 71).good Try.prog 71 := good_sl (zz := [.sc (.string ⟨#[]⟩), .ls [.sc (.string ⟨#[]⟩), .sc (.int .i64 0), .sc (.bool false), .sc (.bool false), .sc (.int .i64 0), .sc (.int .i64 0), .sc (.string ⟨#[]⟩)] [], .ls [.sc (.string ⟨#[]⟩)] []]) rfl rfl rfl rfl (by decide) (by kernel_rfl) (by kernel_rfl)
theorem good73 : (ti 73).good Try.prog 73 := good_st (fs := #[fld "Tables" 71 0 0 ""]) (cs := #[.slice none 0 0]) rfl rfl rfl rfl (by decide) (by decide) (zOk_ok rfl) (by kernel_rfl) (by kernel_rfl) (by kernel_rfl)
theorem good74 : (ti 74).good Try.prog 74 := good_sl (zz := [.ls [.ls [.sc (.int .i64 0), .sc (.int .i64 0), .sc (.string ⟨#[]⟩)] []] []]) rfl rfl rfl rfl (by decide) (by kernel_rfl) (by kernel_rfl)
theorem good76 : (ti 76).good Try.prog 76 := good_st (fs := #[fld "Cat" 73 0 0 "", fld "Data" 74 1 24 ""]) (cs := #[.slice none 0 0, .slice none 0 0]) rfl rfl rfl rfl (by decide) (by decide) (zOk_ok rfl) (by kernel_rfl) (by kernel_rfl) (by kernel_rfl)
theorem good78 : (ti 78).good Try.prog 78 := good_st (fs := #[fld "Db" 76 0 0 "", fld "At" 3 2 48 "", fld "Halt" 3 3 56 ""]) (cs := #[.slice none 0 0, .slice none 0 0, .int .i64 0, .int .i64 0]) rfl rfl rfl rfl (by decide) (by decide) (zOk_ok rfl) (by kernel_rfl) (by kernel_rfl) (by kernel_rfl)
theorem good81 : (ti 81).good Try.prog 81 := good_sl (zz := [.sc (.string ⟨#[]⟩), .ls [.sc (.string ⟨#[]⟩), .sc (.int .i64 0), .sc (.bool false), .sc (.bool false), .sc (.int .i64 0), .sc (.int .i64 0), .sc (.string ⟨#[]⟩)] [], .ls [.sc (.string ⟨#[]⟩)] []]) rfl rfl rfl rfl (by decide) (by kernel_rfl) (by kernel_rfl)
theorem good83 : (ti 83).good Try.prog 83 := good_st (fs := #[fld "Tables" 81 0 0 ""]) (cs := #[.slice none 0 0]) rfl rfl rfl rfl (by decide) (by decide) (zOk_ok rfl) (by kernel_rfl) (by kernel_rfl) (by kernel_rfl)
theorem good84 : (ti 84).good Try.prog 84 := good_sl (zz := [.ls [.ls [.sc (.int .i64 0), .sc (.int .i64 0), .sc (.string ⟨#[]⟩)] []] []]) rfl rfl rfl rfl (by decide) (by kernel_rfl) (by kernel_rfl)
theorem good86 : (ti 86).good Try.prog 86 := good_st (fs := #[fld "Cat" 83 0 0 "", fld "Data" 84 1 24 ""]) (cs := #[.slice none 0 0, .slice none 0 0]) rfl rfl rfl rfl (by decide) (by decide) (zOk_ok rfl) (by kernel_rfl) (by kernel_rfl) (by kernel_rfl)
theorem good88 : (ti 88).good Try.prog 88 := good_st (fs := #[fld "Db" 86 0 0 "", fld "At" 3 2 48 "", fld "Halt" 3 3 56 ""]) (cs := #[.slice none 0 0, .slice none 0 0, .int .i64 0, .int .i64 0]) rfl rfl rfl rfl (by decide) (by decide) (zOk_ok rfl) (by kernel_rfl) (by kernel_rfl) (by kernel_rfl)
theorem good100 : (ti 100).good Try.prog 100 := good_st (fs := #[fld "Ty" 3 0 0 "", fld "N" 3 1 8 "", fld "S" 9 2 16 ""]) (cs := #[.int .i64 0, .int .i64 0, .string ⟨#[]⟩]) rfl rfl rfl rfl (by decide) (by decide) (zOk_ok rfl) (by kernel_rfl) (by kernel_rfl) (by kernel_rfl)
theorem good102 : (ti 102).good Try.prog 102 := good_st (fs := #[fld "Name" 9 0 0 "", fld "Ty" 3 1 16 "", fld "Not" 4 2 24 "", fld "Has" 4 3 25 "", fld "Def" 100 4 32 ""]) (cs := #[.string ⟨#[]⟩, .int .i64 0, .bool false, .bool false, .int .i64 0, .int .i64 0, .string ⟨#[]⟩]) rfl rfl rfl rfl (by decide) (by decide) (zOk_ok rfl) (by kernel_rfl) (by kernel_rfl) (by kernel_rfl)
theorem good116 : (ti 116).good Try.prog 116 := good_st (fs := #[fld "Stmt" 54 0 0 "", fld "Cols" 22 10 176 "", fld "Keys" 22 11 200 ""]) (cs := #[.int .i64 0, .string ⟨#[]⟩, .slice none 0 0, .slice none 0 0, .int .i64 0, .string ⟨#[]⟩, .slice none 0 0, .slice none 0 0, .string ⟨#[]⟩, .string ⟨#[]⟩, .slice none 0 0, .slice none 0 0]) rfl rfl rfl rfl (by decide) (by decide) (zOk_ok rfl) (by kernel_rfl) (by kernel_rfl) (by kernel_rfl)
theorem good130 : (ti 130).good Try.prog 130 := good_st (fs := #[fld "Ty" 3 0 0 "", fld "N" 3 1 8 "", fld "S" 9 2 16 ""]) (cs := #[.int .i64 0, .int .i64 0, .string ⟨#[]⟩]) rfl rfl rfl rfl (by decide) (by decide) (zOk_ok rfl) (by kernel_rfl) (by kernel_rfl) (by kernel_rfl)
theorem good132 : (ti 132).good Try.prog 132 := good_st (fs := #[fld "Name" 9 0 0 "", fld "Ty" 3 1 16 "", fld "Not" 4 2 24 "", fld "Has" 4 3 25 "", fld "Def" 130 4 32 ""]) (cs := #[.string ⟨#[]⟩, .int .i64 0, .bool false, .bool false, .int .i64 0, .int .i64 0, .string ⟨#[]⟩]) rfl rfl rfl rfl (by decide) (by decide) (zOk_ok rfl) (by kernel_rfl) (by kernel_rfl) (by kernel_rfl)
theorem good151 : (ti 151).good Try.prog 151 := good_st (fs := #[fld "Stmt" 43 0 0 "", fld "Cols" 22 10 176 "", fld "Keys" 22 11 200 ""]) (cs := #[.int .i64 0, .string ⟨#[]⟩, .slice none 0 0, .slice none 0 0, .int .i64 0, .string ⟨#[]⟩, .slice none 0 0, .slice none 0 0, .string ⟨#[]⟩, .string ⟨#[]⟩, .slice none 0 0, .slice none 0 0]) rfl rfl rfl rfl (by decide) (by decide) (zOk_ok rfl) (by kernel_rfl) (by kernel_rfl) (by kernel_rfl)
theorem good157 : (ti 157).good Try.prog 157 := good_sl (zz := [.ls [.sc (.int .i64 0), .sc (.int .i64 0), .sc (.string ⟨#[]⟩)] []]) rfl rfl rfl rfl (by decide) (by kernel_rfl) (by kernel_rfl)
theorem good159 : (ti 159).good Try.prog 159 := good_st (fs := #[fld "Rows" 157 0 0 ""]) (cs := #[.slice none 0 0]) rfl rfl rfl rfl (by decide) (by decide) (zOk_ok rfl) (by kernel_rfl) (by kernel_rfl) (by kernel_rfl)
theorem good167 : (ti 167).good Try.prog 167 := good_sl (zz := [.sc (.int .u8 0)]) rfl rfl rfl rfl (by decide) (by kernel_rfl) (by kernel_rfl)
theorem good178 : (ti 178).good Try.prog 178 := good_sl (zz := [.ls [.sc (.int .i64 0), .sc (.int .i64 0), .sc (.string ⟨#[]⟩)] []]) rfl rfl rfl rfl (by decide) (by kernel_rfl) (by kernel_rfl)
theorem good180 : (ti 180).good Try.prog 180 := good_st (fs := #[fld "Rows" 178 0 0 ""]) (cs := #[.slice none 0 0]) rfl rfl rfl rfl (by decide) (by decide) (zOk_ok rfl) (by kernel_rfl) (by kernel_rfl) (by kernel_rfl)
theorem good198 : (ti 198).good Try.prog 198 := good_sc (v := .int .u64 0) rfl rfl rfl rfl (by decide) rfl (by intro _ _ h; cases h) (by kernel_rfl) (by kernel_rfl) (fun _ => rfl)
theorem good207 : (ti 207).good Try.prog 207 := good_sc (v := .int .u32 0) rfl rfl rfl rfl (by decide) rfl (by intro _ _ h; cases h) (by kernel_rfl) (by kernel_rfl) (fun _ => rfl)
theorem eq3 : eqAt Try.prog (ti 3) 3 1 := eqAt_int (n := 0) rfl rfl (by kernel_rfl)
theorem eq9 : eqAt Try.prog (ti 9) 9 1 := eqAt_str (s := ⟨#[]⟩) rfl rfl (by kernel_rfl)
theorem eq100 : eqAt Try.prog (ti 100) 100 2 := eqAt_st (fs := [fld "Ty" 3 0 0 "", fld "N" 3 1 8 "", fld "S" 9 2 16 ""]) (by kernel_rfl) (by kernel_rfl) (by kernel_rfl) rfl ⟨by decide, rfl, good3, rfl, rfl, eqAt_up eq3 (by decide), ⟨by decide, rfl, good3, rfl, rfl, eqAt_up eq3 (by decide), ⟨by decide, rfl, good9, rfl, rfl, eqAt_up eq9 (by decide), rfl⟩⟩⟩
theorem eq4 : eqAt Try.prog (ti 4) 4 1 := eqAt_bool (s := false) rfl rfl (by kernel_rfl)
theorem eq102 : eqAt Try.prog (ti 102) 102 3 := eqAt_st (fs := [fld "Name" 9 0 0 "", fld "Ty" 3 1 16 "", fld "Not" 4 2 24 "", fld "Has" 4 3 25 "", fld "Def" 100 4 32 ""]) (by kernel_rfl) (by kernel_rfl) (by kernel_rfl) rfl ⟨by decide, rfl, good9, rfl, rfl, eqAt_up eq9 (by decide), ⟨by decide, rfl, good3, rfl, rfl, eqAt_up eq3 (by decide), ⟨by decide, rfl, good4, rfl, rfl, eqAt_up eq4 (by decide), ⟨by decide, rfl, good4, rfl, rfl, eqAt_up eq4 (by decide), ⟨by decide, rfl, good100, rfl, rfl, eqAt_up eq100 (by decide), rfl⟩⟩⟩⟩⟩
theorem good' : ∀ t, (ti t).ok = true → (ti t).good Try.prog t := by
  intro t h
  unfold ti at h
  split at h
  · exact good2
  · exact good3
  · exact good4
  · exact good5
  · exact good9
  · exact good21
  · exact good22
  · exact good23
  · exact good25
  · exact good30
  · exact good32
  · exact good37
  · exact good39
  · exact good41
  · exact good43
  · exact good45
  · exact good48
  · exact good50
  · exact good52
  · exact good54
  · exact good56
  · exact good60
  · exact good62
  · exact good65
  · exact good67
  · exact good71
  · exact good73
  · exact good74
  · exact good76
  · exact good78
  · exact good81
  · exact good83
  · exact good84
  · exact good86
  · exact good88
  · exact good100
  · exact good102
  · exact good116
  · exact good130
  · exact good132
  · exact good151
  · exact good157
  · exact good159
  · exact good167
  · exact good178
  · exact good180
  · exact good198
  · exact good207
  · cases h
theorem gooe : ∀ t, (ti t).eqb = true → eqAt Try.prog (ti t) t 5000 ∧ Try.prog.eqGuardType Try.prog.depth t = false := by
  intro t h
  have h0 := h
  unfold ti at h
  split at h
  · cases h
  · cases h
  · cases h
  · cases h
  · cases h
  · cases h
  · cases h
  · cases h
  · cases h
  · cases h
  · cases h
  · cases h
  · cases h
  · cases h
  · cases h
  · cases h
  · cases h
  · cases h
  · cases h
  · cases h
  · cases h
  · cases h
  · cases h
  · cases h
  · cases h
  · cases h
  · cases h
  · cases h
  · cases h
  · cases h
  · cases h
  · cases h
  · cases h
  · cases h
  · cases h
  · exact ⟨eqAt_up eq100 (by decide), by kernel_rfl⟩
  · exact ⟨eqAt_up eq102 (by decide), by kernel_rfl⟩
  · cases h
  · cases h
  · cases h
  · cases h
  · cases h
  · cases h
  · cases h
  · cases h
  · cases h
  · cases h
  · cases h
  · cases h
theorem good : TGood Try.prog ti := ⟨good', gooe⟩
theorem cg2 : ckOk ti ck 2 := by simp [ckOk, ti, ck]
theorem cg3 : ckOk ti ck 3 := by simp [ckOk, ti, ck]
theorem cg4 : ckOk ti ck 4 := by simp [ckOk, ti, ck]
theorem cg5 : ckOk ti ck 5 := by simp [ckOk, ti, ck]
theorem cg9 : ckOk ti ck 9 := by simp [ckOk, ti, ck]
theorem cg21 : ckOk ti ck 21 := by simp [ckOk, ti, ck]
theorem cg22 : ckOk ti ck 22 := by simp [ckOk, ti, ck]
theorem cg23 : ckOk ti ck 23 := by simp [ckOk, ti, ck]
theorem cg25 : ckOk ti ck 25 := by simp [ckOk, ti, ck, contig]
theorem cg30 : ckOk ti ck 30 := by simp [ckOk, ti, ck]
theorem cg32 : ckOk ti ck 32 := by simp [ckOk, ti, ck, contig]
theorem cg37 : ckOk ti ck 37 := by simp [ckOk, ti, ck]
theorem cg39 : ckOk ti ck 39 := by simp [ckOk, ti, ck, contig]
theorem cg41 : ckOk ti ck 41 := by simp [ckOk, ti, ck, contig]
theorem cg43 : ckOk ti ck 43 := by simp [ckOk, ti, ck, contig]
theorem cg45 : ckOk ti ck 45 := by simp [ckOk, ti, ck, contig]
theorem cg48 : ckOk ti ck 48 := by simp [ckOk, ti, ck]
theorem cg50 : ckOk ti ck 50 := by simp [ckOk, ti, ck, contig]
theorem cg52 : ckOk ti ck 52 := by simp [ckOk, ti, ck, contig]
theorem cg54 : ckOk ti ck 54 := by simp [ckOk, ti, ck, contig]
theorem cg56 : ckOk ti ck 56 := by simp [ckOk, ti, ck, contig]
theorem cg60 : ckOk ti ck 60 := by simp [ckOk, ti, ck]
theorem cg62 : ckOk ti ck 62 := by simp [ckOk, ti, ck, contig]
theorem cg65 : ckOk ti ck 65 := by simp [ckOk, ti, ck]
theorem cg67 : ckOk ti ck 67 := by simp [ckOk, ti, ck, contig]
theorem cg71 : ckOk ti ck 71 := by simp [ckOk, ti, ck]
theorem cg73 : ckOk ti ck 73 := by simp [ckOk, ti, ck, contig]
theorem cg74 : ckOk ti ck 74 := by simp [ckOk, ti, ck]
theorem cg76 : ckOk ti ck 76 := by simp [ckOk, ti, ck, contig]
theorem cg78 : ckOk ti ck 78 := by simp [ckOk, ti, ck, contig]
theorem cg81 : ckOk ti ck 81 := by simp [ckOk, ti, ck]
theorem cg83 : ckOk ti ck 83 := by simp [ckOk, ti, ck, contig]
theorem cg84 : ckOk ti ck 84 := by simp [ckOk, ti, ck]
theorem cg86 : ckOk ti ck 86 := by simp [ckOk, ti, ck, contig]
theorem cg88 : ckOk ti ck 88 := by simp [ckOk, ti, ck, contig]
theorem cg100 : ckOk ti ck 100 := by simp [ckOk, ti, ck, contig]
theorem cg102 : ckOk ti ck 102 := by simp [ckOk, ti, ck, contig]
theorem cg116 : ckOk ti ck 116 := by simp [ckOk, ti, ck, contig]
theorem cg130 : ckOk ti ck 130 := by simp [ckOk, ti, ck, contig]
theorem cg132 : ckOk ti ck 132 := by simp [ckOk, ti, ck, contig]
theorem cg151 : ckOk ti ck 151 := by simp [ckOk, ti, ck, contig]
theorem cg157 : ckOk ti ck 157 := by simp [ckOk, ti, ck]
theorem cg159 : ckOk ti ck 159 := by simp [ckOk, ti, ck, contig]
theorem cg167 : ckOk ti ck 167 := by simp [ckOk, ti, ck]
theorem cg178 : ckOk ti ck 178 := by simp [ckOk, ti, ck]
theorem cg180 : ckOk ti ck 180 := by simp [ckOk, ti, ck, contig]
theorem cg198 : ckOk ti ck 198 := by simp [ckOk, ti, ck]
theorem cg207 : ckOk ti ck 207 := by simp [ckOk, ti, ck]
theorem cgood : CGood ti ck := by
  intro t h
  unfold ti at h
  split at h
  · exact cg2
  · exact cg3
  · exact cg4
  · exact cg5
  · exact cg9
  · exact cg21
  · exact cg22
  · exact cg23
  · exact cg25
  · exact cg30
  · exact cg32
  · exact cg37
  · exact cg39
  · exact cg41
  · exact cg43
  · exact cg45
  · exact cg48
  · exact cg50
  · exact cg52
  · exact cg54
  · exact cg56
  · exact cg60
  · exact cg62
  · exact cg65
  · exact cg67
  · exact cg71
  · exact cg73
  · exact cg74
  · exact cg76
  · exact cg78
  · exact cg81
  · exact cg83
  · exact cg84
  · exact cg86
  · exact cg88
  · exact cg100
  · exact cg102
  · exact cg116
  · exact cg130
  · exact cg132
  · exact cg151
  · exact cg157
  · exact cg159
  · exact cg167
  · exact cg178
  · exact cg180
  · exact cg198
  · exact cg207
  · cases h
theorem hm : Try.prog.follows .mixedOrders = true := by kernel_rfl
end Go.Proofs.Ytkciklpdhhcblaa
