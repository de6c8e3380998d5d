/- The type table of the seat Ytkbknmcafiepgaa: what the framework asks of each type that is plain data; printed by gen_ti.py. -/
import Derived.Test.YtkbknmcafiepgaaSm20
import Derived.Test.YtkbknmcafiepgaaProg
import Derived.KernelRfl
namespace Go.Proofs.Ytkbknmcafiepgaa
open Go Go.Proofs Go.Sm

def ti : TT
  | 2 => { ok := true, desc := .int .i64, sz := 1, by_ := 8, zv := .int .i64 0, z := [.sc (.int .i64 0)] }
  | 3 => { ok := true, desc := .int .i64, sz := 1, by_ := 8, zv := .int .i64 0, z := [.sc (.int .i64 0)] }
  | 4 => { ok := true, desc := .bool, sz := 1, by_ := 1, zv := .bool false, z := [.sc (.bool false)] }
  | 5 => { ok := true, desc := .int .u8, sz := 1, by_ := 1, zv := .int .u8 0, z := [.sc (.int .u8 0)] }
  | 9 => { ok := true, desc := .string, sz := 1, by_ := 16, zv := .string ⟨#[]⟩, z := [.sc (.string ⟨#[]⟩)] }
  | 21 => { ok := true, desc := .int .i32, sz := 1, by_ := 4, zv := .int .i32 0, z := [.sc (.int .i32 0)] }
  | 22 => { ok := true, desc := .slice 9, sz := 1, by_ := 24, zv := .slice none 0 0, z := [.ls [.sc (.string ⟨#[]⟩)] []], ms := [.o 9 (fun _ => [.s])] }
  | 23 => { ok := true, desc := .slice 151, sz := 1, by_ := 24, zv := .slice none 0 0, z := [.ls [.sc (.string ⟨#[]⟩), .sc (.int .i64 0), .sc (.bool false), .sc (.bool false), .sc (.int .i64 0), .sc (.int .i64 0), .sc (.string ⟨#[]⟩)] []], ms := [.o 151 (fun _ => [.s, .s, .s, .s, .s, .s, .s])] }
  | 25 => { ok := true, desc := .struct #[fld "Name" 9 0 0 "", fld "Cols" 23 1 16 "", fld "Keys" 22 2 40 ""], sz := 3, by_ := 64, zv := .agg #[.string ⟨#[]⟩, .slice none 0 0, .slice none 0 0], z := [.sc (.string ⟨#[]⟩), .ls [.sc (.string ⟨#[]⟩), .sc (.int .i64 0), .sc (.bool false), .sc (.bool false), .sc (.int .i64 0), .sc (.int .i64 0), .sc (.string ⟨#[]⟩)] [], .ls [.sc (.string ⟨#[]⟩)] []], ms := [.s, .o 151 (fun _ => [.s, .s, .s, .s, .s, .s, .s]), .o 9 (fun _ => [.s])] }
  | 26 => { ok := true, desc := .slice 96, sz := 1, by_ := 24, zv := .slice none 0 0, z := [.ls [.sc (.int .i64 0), .sc (.int .i64 0), .sc (.string ⟨#[]⟩)] []], ms := [.o 96 (fun _ => [.s, .s, .s])] }
  | 30 => { ok := true, desc := .slice 99, sz := 1, by_ := 24, zv := .slice none 0 0, z := [.ls [.sc (.int .i64 0), .sc (.int .i64 0), .sc (.string ⟨#[]⟩)] []], ms := [.o 99 (fun _ => [.s, .s, .s])] }
  | 34 => { ok := true, desc := .slice 111, sz := 1, by_ := 24, zv := .slice none 0 0, z := [.ls [.sc (.string ⟨#[]⟩), .sc (.int .i64 0), .sc (.bool false), .sc (.bool false), .sc (.int .i64 0), .sc (.int .i64 0), .sc (.string ⟨#[]⟩)] []], ms := [.o 111 (fun _ => [.s, .s, .s, .s, .s, .s, .s])] }
  | 36 => { ok := true, desc := .struct #[fld "Name" 9 0 0 "", fld "Cols" 34 1 16 "", fld "Keys" 22 2 40 ""], sz := 3, by_ := 64, zv := .agg #[.string ⟨#[]⟩, .slice none 0 0, .slice none 0 0], z := [.sc (.string ⟨#[]⟩), .ls [.sc (.string ⟨#[]⟩), .sc (.int .i64 0), .sc (.bool false), .sc (.bool false), .sc (.int .i64 0), .sc (.int .i64 0), .sc (.string ⟨#[]⟩)] [], .ls [.sc (.string ⟨#[]⟩)] []], ms := [.s, .o 111 (fun _ => [.s, .s, .s, .s, .s, .s, .s]), .o 9 (fun _ => [.s])] }
  | 46 => { ok := true, desc := .struct #[fld "Vals" 30 0 0 ""], sz := 1, by_ := 24, zv := .agg #[.slice none 0 0], z := [.ls [.sc (.int .i64 0), .sc (.int .i64 0), .sc (.string ⟨#[]⟩)] []], ms := [.o 99 (fun _ => [.s, .s, .s])] }
  | 51 => { ok := true, desc := .slice 121, sz := 1, by_ := 24, zv := .slice none 0 0, z := [.ls [.sc (.int .i64 0), .sc (.int .i64 0), .sc (.int .i64 0), .sc (.string ⟨#[]⟩), .ls [.sc (.int .i64 0), .sc (.int .i64 0), .sc (.string ⟨#[]⟩)] [], .ls [.sc (.int .i64 0), .sc (.int .i64 0), .sc (.string ⟨#[]⟩)] [], .sc (.int .i64 0), .sc (.string ⟨#[]⟩), .ls [.sc (.string ⟨#[]⟩), .sc (.int .i64 0), .sc (.bool false), .sc (.bool false), .sc (.int .i64 0), .sc (.int .i64 0), .sc (.string ⟨#[]⟩)] [], .ls [.sc (.string ⟨#[]⟩)] [], .sc (.string ⟨#[]⟩), .sc (.string ⟨#[]⟩)] []], ms := [.o 121 (fun _ => [.s, .s, .s, .s, .o 96 (fun _ => [.s, .s, .s]), .o 96 (fun _ => [.s, .s, .s]), .s, .s, .o 151 (fun _ => [.s, .s, .s, .s, .s, .s, .s]), .o 9 (fun _ => [.s]), .s, .s])] }
  | 53 => { ok := true, desc := .slice 125, sz := 1, by_ := 24, zv := .slice none 0 0, z := [.ls [.sc (.int .i64 0), .sc (.string ⟨#[]⟩), .ls [.sc (.int .i64 0), .sc (.int .i64 0), .sc (.string ⟨#[]⟩)] [], .ls [.sc (.int .i64 0), .sc (.int .i64 0), .sc (.string ⟨#[]⟩)] [], .sc (.int .i64 0), .sc (.string ⟨#[]⟩), .ls [.sc (.string ⟨#[]⟩), .sc (.int .i64 0), .sc (.bool false), .sc (.bool false), .sc (.int .i64 0), .sc (.int .i64 0), .sc (.string ⟨#[]⟩)] [], .ls [.sc (.string ⟨#[]⟩)] [], .sc (.string ⟨#[]⟩), .sc (.string ⟨#[]⟩)] []], ms := [.o 125 (fun _ => [.s, .s, .o 99 (fun _ => [.s, .s, .s]), .o 99 (fun _ => [.s, .s, .s]), .s, .s, .o 111 (fun _ => [.s, .s, .s, .s, .s, .s, .s]), .o 9 (fun _ => [.s]), .s, .s])] }
  | 55 => { ok := true, desc := .slice 127, sz := 1, by_ := 24, zv := .slice none 0 0, z := [.ls [.sc (.int .i64 0), .sc (.int .i64 0), .sc (.int .i64 0), .sc (.string ⟨#[]⟩), .ls [.sc (.int .i64 0), .sc (.int .i64 0), .sc (.string ⟨#[]⟩)] [], .ls [.sc (.int .i64 0), .sc (.int .i64 0), .sc (.string ⟨#[]⟩)] [], .sc (.int .i64 0), .sc (.string ⟨#[]⟩), .ls [.sc (.string ⟨#[]⟩), .sc (.int .i64 0), .sc (.bool false), .sc (.bool false), .sc (.int .i64 0), .sc (.int .i64 0), .sc (.string ⟨#[]⟩)] [], .ls [.sc (.string ⟨#[]⟩)] [], .sc (.string ⟨#[]⟩), .sc (.string ⟨#[]⟩)] []], ms := [.o 127 (fun _ => [.s, .s, .s, .s, .o 99 (fun _ => [.s, .s, .s]), .o 99 (fun _ => [.s, .s, .s]), .s, .s, .o 111 (fun _ => [.s, .s, .s, .s, .s, .s, .s]), .o 9 (fun _ => [.s]), .s, .s])] }
  | 62 => { ok := true, desc := .slice 172, sz := 1, by_ := 24, zv := .slice none 0 0, z := [.ls [.sc (.int .i64 0), .sc (.string ⟨#[]⟩), .ls [.sc (.int .i64 0), .sc (.int .i64 0), .sc (.string ⟨#[]⟩)] [], .ls [.sc (.int .i64 0), .sc (.int .i64 0), .sc (.string ⟨#[]⟩)] [], .sc (.int .i64 0), .sc (.string ⟨#[]⟩), .ls [.sc (.string ⟨#[]⟩), .sc (.int .i64 0), .sc (.bool false), .sc (.bool false), .sc (.int .i64 0), .sc (.int .i64 0), .sc (.string ⟨#[]⟩)] [], .ls [.sc (.string ⟨#[]⟩)] [], .sc (.string ⟨#[]⟩), .sc (.string ⟨#[]⟩), .ls [.sc (.string ⟨#[]⟩)] [], .ls [.sc (.string ⟨#[]⟩)] []] []], ms := [.o 172 (fun _ => [.s, .s, .o 96 (fun _ => [.s, .s, .s]), .o 96 (fun _ => [.s, .s, .s]), .s, .s, .o 151 (fun _ => [.s, .s, .s, .s, .s, .s, .s]), .o 9 (fun _ => [.s]), .s, .s, .o 9 (fun _ => [.s]), .o 9 (fun _ => [.s])])] }
  | 64 => { ok := true, desc := .struct #[fld "Lsn" 3 0 0 "", fld "Prev" 3 1 8 "", fld "Parts" 62 2 16 ""], sz := 3, by_ := 40, zv := .agg #[.int .i64 0, .int .i64 0, .slice none 0 0], z := [.sc (.int .i64 0), .sc (.int .i64 0), .ls [.sc (.int .i64 0), .sc (.string ⟨#[]⟩), .ls [.sc (.int .i64 0), .sc (.int .i64 0), .sc (.string ⟨#[]⟩)] [], .ls [.sc (.int .i64 0), .sc (.int .i64 0), .sc (.string ⟨#[]⟩)] [], .sc (.int .i64 0), .sc (.string ⟨#[]⟩), .ls [.sc (.string ⟨#[]⟩), .sc (.int .i64 0), .sc (.bool false), .sc (.bool false), .sc (.int .i64 0), .sc (.int .i64 0), .sc (.string ⟨#[]⟩)] [], .ls [.sc (.string ⟨#[]⟩)] [], .sc (.string ⟨#[]⟩), .sc (.string ⟨#[]⟩), .ls [.sc (.string ⟨#[]⟩)] [], .ls [.sc (.string ⟨#[]⟩)] []] []], ms := [.s, .s, .o 172 (fun _ => [.s, .s, .o 96 (fun _ => [.s, .s, .s]), .o 96 (fun _ => [.s, .s, .s]), .s, .s, .o 151 (fun _ => [.s, .s, .s, .s, .s, .s, .s]), .o 9 (fun _ => [.s]), .s, .s, .o 9 (fun _ => [.s]), .o 9 (fun _ => [.s])])] }
  | 67 => { ok := true, desc := .slice 134, sz := 1, by_ := 24, zv := .slice none 0 0, z := [.ls [.sc (.int .i64 0), .sc (.string ⟨#[]⟩), .ls [.sc (.int .i64 0), .sc (.int .i64 0), .sc (.string ⟨#[]⟩)] [], .ls [.sc (.int .i64 0), .sc (.int .i64 0), .sc (.string ⟨#[]⟩)] [], .sc (.int .i64 0), .sc (.string ⟨#[]⟩), .ls [.sc (.string ⟨#[]⟩), .sc (.int .i64 0), .sc (.bool false), .sc (.bool false), .sc (.int .i64 0), .sc (.int .i64 0), .sc (.string ⟨#[]⟩)] [], .ls [.sc (.string ⟨#[]⟩)] [], .sc (.string ⟨#[]⟩), .sc (.string ⟨#[]⟩), .ls [.sc (.string ⟨#[]⟩)] [], .ls [.sc (.string ⟨#[]⟩)] []] []], ms := [.o 134 (fun _ => [.s, .s, .o 99 (fun _ => [.s, .s, .s]), .o 99 (fun _ => [.s, .s, .s]), .s, .s, .o 111 (fun _ => [.s, .s, .s, .s, .s, .s, .s]), .o 9 (fun _ => [.s]), .s, .s, .o 9 (fun _ => [.s]), .o 9 (fun _ => [.s])])] }
  | 69 => { ok := true, desc := .struct #[fld "Lsn" 3 0 0 "", fld "Prev" 3 1 8 "", fld "Parts" 67 2 16 ""], sz := 3, by_ := 40, zv := .agg #[.int .i64 0, .int .i64 0, .slice none 0 0], z := [.sc (.int .i64 0), .sc (.int .i64 0), .ls [.sc (.int .i64 0), .sc (.string ⟨#[]⟩), .ls [.sc (.int .i64 0), .sc (.int .i64 0), .sc (.string ⟨#[]⟩)] [], .ls [.sc (.int .i64 0), .sc (.int .i64 0), .sc (.string ⟨#[]⟩)] [], .sc (.int .i64 0), .sc (.string ⟨#[]⟩), .ls [.sc (.string ⟨#[]⟩), .sc (.int .i64 0), .sc (.bool false), .sc (.bool false), .sc (.int .i64 0), .sc (.int .i64 0), .sc (.string ⟨#[]⟩)] [], .ls [.sc (.string ⟨#[]⟩)] [], .sc (.string ⟨#[]⟩), .sc (.string ⟨#[]⟩), .ls [.sc (.string ⟨#[]⟩)] [], .ls [.sc (.string ⟨#[]⟩)] []] []], ms := [.s, .s, .o 134 (fun _ => [.s, .s, .o 99 (fun _ => [.s, .s, .s]), .o 99 (fun _ => [.s, .s, .s]), .s, .s, .o 111 (fun _ => [.s, .s, .s, .s, .s, .s, .s]), .o 9 (fun _ => [.s]), .s, .s, .o 9 (fun _ => [.s]), .o 9 (fun _ => [.s])])] }
  | 74 => { ok := true, desc := .slice 25, sz := 1, by_ := 24, zv := .slice none 0 0, z := [.ls [.sc (.string ⟨#[]⟩), .ls [.sc (.string ⟨#[]⟩), .sc (.int .i64 0), .sc (.bool false), .sc (.bool false), .sc (.int .i64 0), .sc (.int .i64 0), .sc (.string ⟨#[]⟩)] [], .ls [.sc (.string ⟨#[]⟩)] []] []], ms := [.o 25 (fun _ => [.s, .o 151 (fun _ => [.s, .s, .s, .s, .s, .s, .s]), .o 9 (fun _ => [.s])])] }
  | 76 => { ok := true, desc := .struct #[fld "Tables" 74 0 0 ""], sz := 1, by_ := 24, zv := .agg #[.slice none 0 0], z := [.ls [.sc (.string ⟨#[]⟩), .ls [.sc (.string ⟨#[]⟩), .sc (.int .i64 0), .sc (.bool false), .sc (.bool false), .sc (.int .i64 0), .sc (.int .i64 0), .sc (.string ⟨#[]⟩)] [], .ls [.sc (.string ⟨#[]⟩)] []] []], ms := [.o 25 (fun _ => [.s, .o 151 (fun _ => [.s, .s, .s, .s, .s, .s, .s]), .o 9 (fun _ => [.s])])] }
  | 77 => { ok := true, desc := .slice 179, sz := 1, by_ := 24, zv := .slice none 0 0, z := [.ls [.ls [.ls [.sc (.int .i64 0), .sc (.int .i64 0), .sc (.string ⟨#[]⟩)] []] []] []], ms := [.o 179 (fun _ => [.o 115 (fun _ => [.o 96 (fun _ => [.s, .s, .s])])])] }
  | 79 => { ok := true, desc := .struct #[fld "Cat" 76 0 0 "", fld "Data" 77 1 24 ""], sz := 2, by_ := 48, zv := .agg #[.slice none 0 0, .slice none 0 0], z := [.ls [.sc (.string ⟨#[]⟩), .ls [.sc (.string ⟨#[]⟩), .sc (.int .i64 0), .sc (.bool false), .sc (.bool false), .sc (.int .i64 0), .sc (.int .i64 0), .sc (.string ⟨#[]⟩)] [], .ls [.sc (.string ⟨#[]⟩)] []] [], .ls [.ls [.ls [.sc (.int .i64 0), .sc (.int .i64 0), .sc (.string ⟨#[]⟩)] []] []] []], ms := [.o 25 (fun _ => [.s, .o 151 (fun _ => [.s, .s, .s, .s, .s, .s, .s]), .o 9 (fun _ => [.s])]), .o 179 (fun _ => [.o 115 (fun _ => [.o 96 (fun _ => [.s, .s, .s])])])] }
  | 83 => { ok := true, desc := .slice 36, sz := 1, by_ := 24, zv := .slice none 0 0, z := [.ls [.sc (.string ⟨#[]⟩), .ls [.sc (.string ⟨#[]⟩), .sc (.int .i64 0), .sc (.bool false), .sc (.bool false), .sc (.int .i64 0), .sc (.int .i64 0), .sc (.string ⟨#[]⟩)] [], .ls [.sc (.string ⟨#[]⟩)] []] []], ms := [.o 36 (fun _ => [.s, .o 111 (fun _ => [.s, .s, .s, .s, .s, .s, .s]), .o 9 (fun _ => [.s])])] }
  | 85 => { ok := true, desc := .struct #[fld "Tables" 83 0 0 ""], sz := 1, by_ := 24, zv := .agg #[.slice none 0 0], z := [.ls [.sc (.string ⟨#[]⟩), .ls [.sc (.string ⟨#[]⟩), .sc (.int .i64 0), .sc (.bool false), .sc (.bool false), .sc (.int .i64 0), .sc (.int .i64 0), .sc (.string ⟨#[]⟩)] [], .ls [.sc (.string ⟨#[]⟩)] []] []], ms := [.o 36 (fun _ => [.s, .o 111 (fun _ => [.s, .s, .s, .s, .s, .s, .s]), .o 9 (fun _ => [.s])])] }
  | 86 => { ok := true, desc := .slice 186, sz := 1, by_ := 24, zv := .slice none 0 0, z := [.ls [.ls [.ls [.sc (.int .i64 0), .sc (.int .i64 0), .sc (.string ⟨#[]⟩)] []] []] []], ms := [.o 186 (fun _ => [.o 46 (fun _ => [.o 99 (fun _ => [.s, .s, .s])])])] }
  | 88 => { ok := true, desc := .struct #[fld "Cat" 85 0 0 "", fld "Data" 86 1 24 ""], sz := 2, by_ := 48, zv := .agg #[.slice none 0 0, .slice none 0 0], z := [.ls [.sc (.string ⟨#[]⟩), .ls [.sc (.string ⟨#[]⟩), .sc (.int .i64 0), .sc (.bool false), .sc (.bool false), .sc (.int .i64 0), .sc (.int .i64 0), .sc (.string ⟨#[]⟩)] [], .ls [.sc (.string ⟨#[]⟩)] []] [], .ls [.ls [.ls [.sc (.int .i64 0), .sc (.int .i64 0), .sc (.string ⟨#[]⟩)] []] []] []], ms := [.o 36 (fun _ => [.s, .o 111 (fun _ => [.s, .s, .s, .s, .s, .s, .s]), .o 9 (fun _ => [.s])]), .o 186 (fun _ => [.o 46 (fun _ => [.o 99 (fun _ => [.s, .s, .s])])])] }
  | 96 => { ok := true, desc := .struct #[fld "Ty" 3 0 0 "", fld "N" 3 1 8 "", fld "S" 9 2 16 ""], sz := 3, by_ := 32, zv := .agg #[.int .i64 0, .int .i64 0, .string ⟨#[]⟩], z := [.sc (.int .i64 0), .sc (.int .i64 0), .sc (.string ⟨#[]⟩)] }
  | 99 => { ok := true, desc := .struct #[fld "Ty" 3 0 0 "", fld "N" 3 1 8 "", fld "S" 9 2 16 ""], sz := 3, by_ := 32, zv := .agg #[.int .i64 0, .int .i64 0, .string ⟨#[]⟩], z := [.sc (.int .i64 0), .sc (.int .i64 0), .sc (.string ⟨#[]⟩)], eqb := true }
  | 111 => { ok := true, desc := .struct #[fld "Name" 9 0 0 "", fld "Ty" 3 1 16 "", fld "Not" 4 2 24 "", fld "Has" 4 3 25 "", fld "Def" 99 4 32 ""], sz := 7, by_ := 64, zv := .agg #[.string ⟨#[]⟩, .int .i64 0, .bool false, .bool false, .int .i64 0, .int .i64 0, .string ⟨#[]⟩], z := [.sc (.string ⟨#[]⟩), .sc (.int .i64 0), .sc (.bool false), .sc (.bool false), .sc (.int .i64 0), .sc (.int .i64 0), .sc (.string ⟨#[]⟩)], eqb := true }
  | 115 => { ok := true, desc := .struct #[fld "Vals" 26 0 0 ""], sz := 1, by_ := 24, zv := .agg #[.slice none 0 0], z := [.ls [.sc (.int .i64 0), .sc (.int .i64 0), .sc (.string ⟨#[]⟩)] []], ms := [.o 96 (fun _ => [.s, .s, .s])] }
  | 117 => { ok := true, desc := .struct #[fld "Kind" 3 0 0 "", fld "Table" 9 1 8 "", fld "Cols" 23 2 24 "", fld "Keys" 22 3 48 "", fld "Name" 9 4 72 "", fld "To" 9 5 88 ""], sz := 6, by_ := 104, zv := .agg #[.int .i64 0, .string ⟨#[]⟩, .slice none 0 0, .slice none 0 0, .string ⟨#[]⟩, .string ⟨#[]⟩], z := [.sc (.int .i64 0), .sc (.string ⟨#[]⟩), .ls [.sc (.string ⟨#[]⟩), .sc (.int .i64 0), .sc (.bool false), .sc (.bool false), .sc (.int .i64 0), .sc (.int .i64 0), .sc (.string ⟨#[]⟩)] [], .ls [.sc (.string ⟨#[]⟩)] [], .sc (.string ⟨#[]⟩), .sc (.string ⟨#[]⟩)], ms := [.s, .s, .o 151 (fun _ => [.s, .s, .s, .s, .s, .s, .s]), .o 9 (fun _ => [.s]), .s, .s] }
  | 119 => { ok := true, desc := .struct #[fld "Kind" 3 0 0 "", fld "Table" 9 1 8 "", fld "Key" 26 2 24 "", fld "Row" 115 3 48 "", fld "Ddl" 117 4 72 ""], sz := 10, by_ := 176, zv := .agg #[.int .i64 0, .string ⟨#[]⟩, .slice none 0 0, .slice none 0 0, .int .i64 0, .string ⟨#[]⟩, .slice none 0 0, .slice none 0 0, .string ⟨#[]⟩, .string ⟨#[]⟩], z := [.sc (.int .i64 0), .sc (.string ⟨#[]⟩), .ls [.sc (.int .i64 0), .sc (.int .i64 0), .sc (.string ⟨#[]⟩)] [], .ls [.sc (.int .i64 0), .sc (.int .i64 0), .sc (.string ⟨#[]⟩)] [], .sc (.int .i64 0), .sc (.string ⟨#[]⟩), .ls [.sc (.string ⟨#[]⟩), .sc (.int .i64 0), .sc (.bool false), .sc (.bool false), .sc (.int .i64 0), .sc (.int .i64 0), .sc (.string ⟨#[]⟩)] [], .ls [.sc (.string ⟨#[]⟩)] [], .sc (.string ⟨#[]⟩), .sc (.string ⟨#[]⟩)], ms := [.s, .s, .o 96 (fun _ => [.s, .s, .s]), .o 96 (fun _ => [.s, .s, .s]), .s, .s, .o 151 (fun _ => [.s, .s, .s, .s, .s, .s, .s]), .o 9 (fun _ => [.s]), .s, .s] }
  | 121 => { ok := true, desc := .struct #[fld "Kind" 3 0 0 "", fld "Xid" 3 1 8 "", fld "Stmt" 119 2 16 ""], sz := 12, by_ := 192, zv := .agg #[.int .i64 0, .int .i64 0, .int .i64 0, .string ⟨#[]⟩, .slice none 0 0, .slice none 0 0, .int .i64 0, .string ⟨#[]⟩, .slice none 0 0, .slice none 0 0, .string ⟨#[]⟩, .string ⟨#[]⟩], z := [.sc (.int .i64 0), .sc (.int .i64 0), .sc (.int .i64 0), .sc (.string ⟨#[]⟩), .ls [.sc (.int .i64 0), .sc (.int .i64 0), .sc (.string ⟨#[]⟩)] [], .ls [.sc (.int .i64 0), .sc (.int .i64 0), .sc (.string ⟨#[]⟩)] [], .sc (.int .i64 0), .sc (.string ⟨#[]⟩), .ls [.sc (.string ⟨#[]⟩), .sc (.int .i64 0), .sc (.bool false), .sc (.bool false), .sc (.int .i64 0), .sc (.int .i64 0), .sc (.string ⟨#[]⟩)] [], .ls [.sc (.string ⟨#[]⟩)] [], .sc (.string ⟨#[]⟩), .sc (.string ⟨#[]⟩)], ms := [.s, .s, .s, .s, .o 96 (fun _ => [.s, .s, .s]), .o 96 (fun _ => [.s, .s, .s]), .s, .s, .o 151 (fun _ => [.s, .s, .s, .s, .s, .s, .s]), .o 9 (fun _ => [.s]), .s, .s] }
  | 123 => { ok := true, desc := .struct #[fld "Kind" 3 0 0 "", fld "Table" 9 1 8 "", fld "Cols" 34 2 24 "", fld "Keys" 22 3 48 "", fld "Name" 9 4 72 "", fld "To" 9 5 88 ""], sz := 6, by_ := 104, zv := .agg #[.int .i64 0, .string ⟨#[]⟩, .slice none 0 0, .slice none 0 0, .string ⟨#[]⟩, .string ⟨#[]⟩], z := [.sc (.int .i64 0), .sc (.string ⟨#[]⟩), .ls [.sc (.string ⟨#[]⟩), .sc (.int .i64 0), .sc (.bool false), .sc (.bool false), .sc (.int .i64 0), .sc (.int .i64 0), .sc (.string ⟨#[]⟩)] [], .ls [.sc (.string ⟨#[]⟩)] [], .sc (.string ⟨#[]⟩), .sc (.string ⟨#[]⟩)], ms := [.s, .s, .o 111 (fun _ => [.s, .s, .s, .s, .s, .s, .s]), .o 9 (fun _ => [.s]), .s, .s] }
  | 125 => { ok := true, desc := .struct #[fld "Kind" 3 0 0 "", fld "Table" 9 1 8 "", fld "Key" 30 2 24 "", fld "Row" 46 3 48 "", fld "Ddl" 123 4 72 ""], sz := 10, by_ := 176, zv := .agg #[.int .i64 0, .string ⟨#[]⟩, .slice none 0 0, .slice none 0 0, .int .i64 0, .string ⟨#[]⟩, .slice none 0 0, .slice none 0 0, .string ⟨#[]⟩, .string ⟨#[]⟩], z := [.sc (.int .i64 0), .sc (.string ⟨#[]⟩), .ls [.sc (.int .i64 0), .sc (.int .i64 0), .sc (.string ⟨#[]⟩)] [], .ls [.sc (.int .i64 0), .sc (.int .i64 0), .sc (.string ⟨#[]⟩)] [], .sc (.int .i64 0), .sc (.string ⟨#[]⟩), .ls [.sc (.string ⟨#[]⟩), .sc (.int .i64 0), .sc (.bool false), .sc (.bool false), .sc (.int .i64 0), .sc (.int .i64 0), .sc (.string ⟨#[]⟩)] [], .ls [.sc (.string ⟨#[]⟩)] [], .sc (.string ⟨#[]⟩), .sc (.string ⟨#[]⟩)], ms := [.s, .s, .o 99 (fun _ => [.s, .s, .s]), .o 99 (fun _ => [.s, .s, .s]), .s, .s, .o 111 (fun _ => [.s, .s, .s, .s, .s, .s, .s]), .o 9 (fun _ => [.s]), .s, .s] }
  | 127 => { ok := true, desc := .struct #[fld "Kind" 3 0 0 "", fld "Xid" 3 1 8 "", fld "Stmt" 125 2 16 ""], sz := 12, by_ := 192, zv := .agg #[.int .i64 0, .int .i64 0, .int .i64 0, .string ⟨#[]⟩, .slice none 0 0, .slice none 0 0, .int .i64 0, .string ⟨#[]⟩, .slice none 0 0, .slice none 0 0, .string ⟨#[]⟩, .string ⟨#[]⟩], z := [.sc (.int .i64 0), .sc (.int .i64 0), .sc (.int .i64 0), .sc (.string ⟨#[]⟩), .ls [.sc (.int .i64 0), .sc (.int .i64 0), .sc (.string ⟨#[]⟩)] [], .ls [.sc (.int .i64 0), .sc (.int .i64 0), .sc (.string ⟨#[]⟩)] [], .sc (.int .i64 0), .sc (.string ⟨#[]⟩), .ls [.sc (.string ⟨#[]⟩), .sc (.int .i64 0), .sc (.bool false), .sc (.bool false), .sc (.int .i64 0), .sc (.int .i64 0), .sc (.string ⟨#[]⟩)] [], .ls [.sc (.string ⟨#[]⟩)] [], .sc (.string ⟨#[]⟩), .sc (.string ⟨#[]⟩)], ms := [.s, .s, .s, .s, .o 99 (fun _ => [.s, .s, .s]), .o 99 (fun _ => [.s, .s, .s]), .s, .s, .o 111 (fun _ => [.s, .s, .s, .s, .s, .s, .s]), .o 9 (fun _ => [.s]), .s, .s] }
  | 134 => { ok := true, desc := .struct #[fld "Stmt" 125 0 0 "", fld "Cols" 22 10 176 "", fld "Keys" 22 11 200 ""], sz := 12, by_ := 224, zv := .agg #[.int .i64 0, .string ⟨#[]⟩, .slice none 0 0, .slice none 0 0, .int .i64 0, .string ⟨#[]⟩, .slice none 0 0, .slice none 0 0, .string ⟨#[]⟩, .string ⟨#[]⟩, .slice none 0 0, .slice none 0 0], z := [.sc (.int .i64 0), .sc (.string ⟨#[]⟩), .ls [.sc (.int .i64 0), .sc (.int .i64 0), .sc (.string ⟨#[]⟩)] [], .ls [.sc (.int .i64 0), .sc (.int .i64 0), .sc (.string ⟨#[]⟩)] [], .sc (.int .i64 0), .sc (.string ⟨#[]⟩), .ls [.sc (.string ⟨#[]⟩), .sc (.int .i64 0), .sc (.bool false), .sc (.bool false), .sc (.int .i64 0), .sc (.int .i64 0), .sc (.string ⟨#[]⟩)] [], .ls [.sc (.string ⟨#[]⟩)] [], .sc (.string ⟨#[]⟩), .sc (.string ⟨#[]⟩), .ls [.sc (.string ⟨#[]⟩)] [], .ls [.sc (.string ⟨#[]⟩)] []], ms := [.s, .s, .o 99 (fun _ => [.s, .s, .s]), .o 99 (fun _ => [.s, .s, .s]), .s, .s, .o 111 (fun _ => [.s, .s, .s, .s, .s, .s, .s]), .o 9 (fun _ => [.s]), .s, .s, .o 9 (fun _ => [.s]), .o 9 (fun _ => [.s])] }
  | 151 => { ok := true, desc := .struct #[fld "Name" 9 0 0 "", fld "Ty" 3 1 16 "", fld "Not" 4 2 24 "", fld "Has" 4 3 25 "", fld "Def" 96 4 32 ""], sz := 7, by_ := 64, zv := .agg #[.string ⟨#[]⟩, .int .i64 0, .bool false, .bool false, .int .i64 0, .int .i64 0, .string ⟨#[]⟩], z := [.sc (.string ⟨#[]⟩), .sc (.int .i64 0), .sc (.bool false), .sc (.bool false), .sc (.int .i64 0), .sc (.int .i64 0), .sc (.string ⟨#[]⟩)] }
  | 162 => { ok := true, desc := .slice 5, sz := 1, by_ := 24, zv := .slice none 0 0, z := [.ls [.sc (.int .u8 0)] []], ms := [.o 5 (fun _ => [.s])] }
  | 172 => { ok := true, desc := .struct #[fld "Stmt" 119 0 0 "", fld "Cols" 22 10 176 "", fld "Keys" 22 11 200 ""], sz := 12, by_ := 224, zv := .agg #[.int .i64 0, .string ⟨#[]⟩, .slice none 0 0, .slice none 0 0, .int .i64 0, .string ⟨#[]⟩, .slice none 0 0, .slice none 0 0, .string ⟨#[]⟩, .string ⟨#[]⟩, .slice none 0 0, .slice none 0 0], z := [.sc (.int .i64 0), .sc (.string ⟨#[]⟩), .ls [.sc (.int .i64 0), .sc (.int .i64 0), .sc (.string ⟨#[]⟩)] [], .ls [.sc (.int .i64 0), .sc (.int .i64 0), .sc (.string ⟨#[]⟩)] [], .sc (.int .i64 0), .sc (.string ⟨#[]⟩), .ls [.sc (.string ⟨#[]⟩), .sc (.int .i64 0), .sc (.bool false), .sc (.bool false), .sc (.int .i64 0), .sc (.int .i64 0), .sc (.string ⟨#[]⟩)] [], .ls [.sc (.string ⟨#[]⟩)] [], .sc (.string ⟨#[]⟩), .sc (.string ⟨#[]⟩), .ls [.sc (.string ⟨#[]⟩)] [], .ls [.sc (.string ⟨#[]⟩)] []], ms := [.s, .s, .o 96 (fun _ => [.s, .s, .s]), .o 96 (fun _ => [.s, .s, .s]), .s, .s, .o 151 (fun _ => [.s, .s, .s, .s, .s, .s, .s]), .o 9 (fun _ => [.s]), .s, .s, .o 9 (fun _ => [.s]), .o 9 (fun _ => [.s])] }
  | 177 => { ok := true, desc := .slice 115, sz := 1, by_ := 24, zv := .slice none 0 0, z := [.ls [.ls [.sc (.int .i64 0), .sc (.int .i64 0), .sc (.string ⟨#[]⟩)] []] []], ms := [.o 115 (fun _ => [.o 96 (fun _ => [.s, .s, .s])])] }
  | 179 => { ok := true, desc := .struct #[fld "Rows" 177 0 0 ""], sz := 1, by_ := 24, zv := .agg #[.slice none 0 0], z := [.ls [.ls [.sc (.int .i64 0), .sc (.int .i64 0), .sc (.string ⟨#[]⟩)] []] []], ms := [.o 115 (fun _ => [.o 96 (fun _ => [.s, .s, .s])])] }
  | 184 => { ok := true, desc := .slice 46, sz := 1, by_ := 24, zv := .slice none 0 0, z := [.ls [.ls [.sc (.int .i64 0), .sc (.int .i64 0), .sc (.string ⟨#[]⟩)] []] []], ms := [.o 46 (fun _ => [.o 99 (fun _ => [.s, .s, .s])])] }
  | 186 => { ok := true, desc := .struct #[fld "Rows" 184 0 0 ""], sz := 1, by_ := 24, zv := .agg #[.slice none 0 0], z := [.ls [.ls [.sc (.int .i64 0), .sc (.int .i64 0), .sc (.string ⟨#[]⟩)] []] []], ms := [.o 46 (fun _ => [.o 99 (fun _ => [.s, .s, .s])])] }
  | 214 => { ok := true, desc := .int .u32, sz := 1, by_ := 4, zv := .int .u32 0, z := [.sc (.int .u32 0)] }
  | _ => {}
def ck : Nat → List CK
  | 2 => [.int .i64]
  | 3 => [.int .i64]
  | 4 => [.bool]
  | 5 => [.int .u8]
  | 9 => [.str]
  | 21 => [.int .i32]
  | 22 => [.sl 9]
  | 23 => [.sl 151]
  | 25 => [.str, .sl 151, .sl 9]
  | 26 => [.sl 96]
  | 30 => [.sl 99]
  | 34 => [.sl 111]
  | 36 => [.str, .sl 111, .sl 9]
  | 46 => [.sl 99]
  | 51 => [.sl 121]
  | 53 => [.sl 125]
  | 55 => [.sl 127]
  | 62 => [.sl 172]
  | 64 => [.int .i64, .int .i64, .sl 172]
  | 67 => [.sl 134]
  | 69 => [.int .i64, .int .i64, .sl 134]
  | 74 => [.sl 25]
  | 76 => [.sl 25]
  | 77 => [.sl 179]
  | 79 => [.sl 25, .sl 179]
  | 83 => [.sl 36]
  | 85 => [.sl 36]
  | 86 => [.sl 186]
  | 88 => [.sl 36, .sl 186]
  | 96 => [.int .i64, .int .i64, .str]
  | 99 => [.int .i64, .int .i64, .str]
  | 111 => [.str, .int .i64, .bool, .bool, .int .i64, .int .i64, .str]
  | 115 => [.sl 96]
  | 117 => [.int .i64, .str, .sl 151, .sl 9, .str, .str]
  | 119 => [.int .i64, .str, .sl 96, .sl 96, .int .i64, .str, .sl 151, .sl 9, .str, .str]
  | 121 => [.int .i64, .int .i64, .int .i64, .str, .sl 96, .sl 96, .int .i64, .str, .sl 151, .sl 9, .str, .str]
  | 123 => [.int .i64, .str, .sl 111, .sl 9, .str, .str]
  | 125 => [.int .i64, .str, .sl 99, .sl 99, .int .i64, .str, .sl 111, .sl 9, .str, .str]
  | 127 => [.int .i64, .int .i64, .int .i64, .str, .sl 99, .sl 99, .int .i64, .str, .sl 111, .sl 9, .str, .str]
  | 134 => [.int .i64, .str, .sl 99, .sl 99, .int .i64, .str, .sl 111, .sl 9, .str, .str, .sl 9, .sl 9]
  | 151 => [.str, .int .i64, .bool, .bool, .int .i64, .int .i64, .str]
  | 162 => [.sl 5]
  | 172 => [.int .i64, .str, .sl 96, .sl 96, .int .i64, .str, .sl 151, .sl 9, .str, .str, .sl 9, .sl 9]
  | 177 => [.sl 115]
  | 179 => [.sl 115]
  | 184 => [.sl 46]
  | 186 => [.sl 46]
  | 214 => [.int .u32]
  | _ => []
theorem good2 : (ti 2).good Try.prog 2 := good_sc (v := .int .i64 0) rfl rfl rfl rfl (by decide) rfl (by intro _ _ h; cases h) (by kernel_rfl) (by kernel_rfl) (fun _ => rfl)
theorem good3 : (ti 3).good Try.prog 3 := good_sc (v := .int .i64 0) rfl rfl rfl rfl (by decide) rfl (by intro _ _ h; cases h) (by kernel_rfl) (by kernel_rfl) (fun _ => rfl)
theorem good4 : (ti 4).good Try.prog 4 := good_sc (v := .bool false) rfl rfl rfl rfl (by decide) rfl (by intro _ _ h; cases h) (by kernel_rfl) (by kernel_rfl) (fun _ => rfl)
theorem good5 : (ti 5).good Try.prog 5 := good_sc (v := .int .u8 0) rfl rfl rfl rfl (by decide) rfl (by intro _ _ h; cases h) (by kernel_rfl) (by kernel_rfl) (fun _ => rfl)
theorem good9 : (ti 9).good Try.prog 9 := good_sc (v := .string ⟨#[]⟩) rfl rfl rfl rfl (by decide) rfl (by intro _ _ h; cases h) (by kernel_rfl) (by kernel_rfl) (fun _ => rfl)
theorem good21 : (ti 21).good Try.prog 21 := good_sc (v := .int .i32 0) rfl rfl rfl rfl (by decide) rfl (by intro _ _ h; cases h) (by kernel_rfl) (by kernel_rfl) (fun _ => rfl)
theorem good22 : (ti 22).good Try.prog 22 := good_sl (zz := [.sc (.string ⟨#[]⟩)]) rfl rfl rfl rfl (by decide) (by kernel_rfl) (by kernel_rfl)
theorem good23 : (ti 23).good Try.prog 23 := good_sl (zz := [.sc (.string ⟨#[]⟩), .sc (.int .i64 0), .sc (.bool false), .sc (.bool false), .sc (.int .i64 0), .sc (.int .i64 0), .sc (.string ⟨#[]⟩)]) rfl rfl rfl rfl (by decide) (by kernel_rfl) (by kernel_rfl)
theorem good25 : (ti 25).good Try.prog 25 := good_st (fs := #[fld "Name" 9 0 0 "", fld "Cols" 23 1 16 "", fld "Keys" 22 2 40 ""]) (cs := #[.string ⟨#[]⟩, .slice none 0 0, .slice none 0 0]) rfl rfl rfl rfl (by decide) (by decide) (zOk_ok rfl) (by kernel_rfl) (by kernel_rfl) (by kernel_rfl)
theorem good26 : (ti 26).good Try.prog 26 := good_sl (zz := [.sc (.int .i64 0), .sc (.int .i64 0), .sc (.string ⟨#[]⟩)]) rfl rfl rfl rfl (by decide) (by kernel_rfl) (by kernel_rfl)
theorem good30 : (ti 30).good Try.prog 30 := good_sl (zz := [.sc (.int .i64 0), .sc (.int .i64 0), .sc (.string ⟨#[]⟩)]) rfl rfl rfl rfl (by decide) (by kernel_rfl) (by kernel_rfl)
theorem good34 : (ti 34).good Try.prog 34 := good_sl (zz := [.sc (.string ⟨#[]⟩), .sc (.int .i64 0), .sc (.bool false), .sc (.bool false), .sc (.int .i64 0), .sc (.int .i64 0), .sc (.string ⟨#[]⟩)]) rfl rfl rfl rfl (by decide) (by kernel_rfl) (by kernel_rfl)
theorem good36 : (ti 36).good Try.prog 36 := good_st (fs := #[fld "Name" 9 0 0 "", fld "Cols" 34 1 16 "", fld "Keys" 22 2 40 ""]) (cs := #[.string ⟨#[]⟩, .slice none 0 0, .slice none 0 0]) rfl rfl rfl rfl (by decide) (by decide) (zOk_ok rfl) (by kernel_rfl) (by kernel_rfl) (by kernel_rfl)
theorem good46 : (ti 46).good Try.prog 46 := good_st (fs := #[fld "Vals" 30 0 0 ""]) (cs := #[.slice none 0 0]) rfl rfl rfl rfl (by decide) (by decide) (zOk_ok rfl) (by kernel_rfl) (by kernel_rfl) (by kernel_rfl)
theorem good51 : (ti 51).good Try.prog 51 := good_sl (zz := [.sc (.int .i64 0), .sc (.int .i64 0), .sc (.int .i64 0), .sc (.string ⟨#[]⟩), .ls [.sc (.int .i64 0), .sc (.int .i64 0), .sc (.string ⟨#[]⟩)] [], .ls [.sc (.int .i64 0), .sc (.int .i64 0), .sc (.string ⟨#[]⟩)] [], .sc (.int .i64 0), .sc (.string ⟨#[]⟩), .ls [.sc (.string ⟨#[]⟩), .sc (.int .i64 0), .sc (.bool false), .sc (.bool false), .sc (.int .i64 0), .sc (.int .i64 0), .sc (.string ⟨#[]⟩)] [], .ls [.sc (.string ⟨#[]⟩)] [], .sc (.string ⟨#[]⟩), .sc (.string ⟨#[]⟩)]) rfl rfl rfl rfl (by decide) (by kernel_rfl) (by kernel_rfl)
theorem good53 : (ti 53).good Try.prog 53 := good_sl (zz := [.sc (.int .i64 0), .sc (.string ⟨#[]⟩), .ls [.sc (.int .i64 0), .sc (.int .i64 0), .sc (.string ⟨#[]⟩)] [], .ls [.sc (.int .i64 0), .sc (.int .i64 0), .sc (.string ⟨#[]⟩)] [], .sc (.int .i64 0), .sc (.string ⟨#[]⟩), .ls [.sc (.string ⟨#[]⟩), .sc (.int .i64 0), .sc (.bool false), .sc (.bool false), .sc (.int .i64 0), .sc (.int .i64 0), .sc (.string ⟨#[]⟩)] [], .ls [.sc (.string ⟨#[]⟩)] [], .sc (.string ⟨#[]⟩), .sc (.string ⟨#[]⟩)]) rfl rfl rfl rfl (by decide) (by kernel_rfl) (by kernel_rfl)
theorem good55 : (ti 55).good Try.prog 55 := good_sl (zz := [.sc (.int .i64 0), .sc (.int .i64 0), .sc (.int .i64 0), .sc (.string ⟨#[]⟩), .ls [.sc (.int .i64 0), .sc (.int .i64 0), .sc (.string ⟨#[]⟩)] [], .ls [.sc (.int .i64 0), .sc (.int .i64 0), .sc (.string ⟨#[]⟩)] [], .sc (.int .i64 0), .sc (.string ⟨#[]⟩), .ls [.sc (.string ⟨#[]⟩), .sc (.int .i64 0), .sc (.bool false), .sc (.bool false), .sc (.int .i64 0), .sc (.int .i64 0), .sc (.string ⟨#[]⟩)] [], .ls [.sc (.string ⟨#[]⟩)] [], .sc (.string ⟨#[]⟩), .sc (.string ⟨#[]⟩)]) rfl rfl rfl rfl (by decide) (by kernel_rfl) (by kernel_rfl)
theorem good62 : (ti 62).good Try.prog 62 := good_sl (zz := [.sc (.int .i64 0), .sc (.string ⟨#[]⟩), .ls [.sc (.int .i64 0), .sc (.int .i64 0), .sc (.string ⟨#[]⟩)] [], .ls [.sc (.int .i64 0), .sc (.int .i64 0), .sc (.string ⟨#[]⟩)] [], .sc (.int .i64 0), .sc (.string ⟨#[]⟩), .ls [.sc (.string ⟨#[]⟩), .sc (.int .i64 0), .sc (.bool false), .sc (.bool false), .sc (.int .i64 0), .sc (.int .i64 0), .sc (.string ⟨#[]⟩)] [], .ls [.sc (.string ⟨#[]⟩)] [], .sc (.string ⟨#[]⟩), .sc (.string ⟨#[]⟩), .ls [.sc (.string ⟨#[]⟩)] [], .ls [.sc (.string ⟨#[]⟩)] []]) rfl rfl rfl rfl (by decide) (by kernel_rfl) (by kernel_rfl)
theorem good64 : (ti 64).good Try.prog 64 := good_st (fs := #[fld "Lsn" 3 0 0 "", fld "Prev" 3 1 8 "", fld "Parts" 62 2 16 ""]) (cs := #[.int .i64 0, .int .i64 0, .slice none 0 0]) rfl rfl rfl rfl (by decide) (by decide) (zOk_ok rfl) (by kernel_rfl) (by kernel_rfl) (by kernel_rfl)
theorem good67 : (ti 67).good Try.prog 67 := good_sl (zz := [.sc (.int .i64 0), .sc (.string ⟨#[]⟩), .ls [.sc (.int .i64 0), .sc (.int .i64 0), .sc (.string ⟨#[]⟩)] [], .ls [.sc (.int .i64 0), .sc (.int .i64 0), .sc (.string ⟨#[]⟩)] [], .sc (.int .i64 0), .sc (.string ⟨#[]⟩), .ls [.sc (.string ⟨#[]⟩), .sc (.int .i64 0), .sc (.bool false), .sc (.bool false), .sc (.int .i64 0), .sc (.int .i64 0), .sc (.string ⟨#[]⟩)] [], .ls [.sc (.string ⟨#[]⟩)] [], .sc (.string ⟨#[]⟩), .sc (.string ⟨#[]⟩), .ls [.sc (.string ⟨#[]⟩)] [], .ls [.sc (.string ⟨#[]⟩)] []]) rfl rfl rfl rfl (by decide) (by kernel_rfl) (by kernel_rfl)
theorem good69 : (ti 69).good Try.prog 69 := good_st (fs := #[fld "Lsn" 3 0 0 "", fld "Prev" 3 1 8 "", fld "Parts" 67 2 16 ""]) (cs := #[.int .i64 0, .int .i64 0, .slice none 0 0]) rfl rfl rfl rfl (by decide) (by decide) (zOk_ok rfl) (by kernel_rfl) (by kernel_rfl) (by kernel_rfl)
theorem good74 : (ti 74).good Try.prog 74 := good_sl (zz := [.sc (.string ⟨#[]⟩), .ls [.sc (.string ⟨#[]⟩), .sc (.int .i64 0), .sc (.bool false), .sc (.bool false), .sc (.int .i64 0), .sc (.int .i64 0), .sc (.string ⟨#[]⟩)] [], .ls [.sc (.string ⟨#[]⟩)] []]) rfl rfl rfl rfl (by decide) (by kernel_rfl) (by kernel_rfl)
theorem good76 : (ti 76).good Try.prog 76 := good_st (fs := #[fld "Tables" 74 0 0 ""]) (cs := #[.slice none 0 0]) rfl rfl rfl rfl (by decide) (by decide) (zOk_ok rfl) (by kernel_rfl) (by kernel_rfl) (by kernel_rfl)
theorem good77 : (ti 77).good Try.prog 77 := good_sl (zz := [.ls [.ls [.sc (.int .i64 0), .sc (.int .i64 0), .sc (.string ⟨#[]⟩)] []] []]) rfl rfl rfl rfl (by decide) (by kernel_rfl) (by kernel_rfl)
theorem good79 : (ti 79).good Try.prog 79 := good_st (fs := #[fld "Cat" 76 0 0 "", fld "Data" 77 1 24 ""]) (cs := #[.slice none 0 0, .slice none 0 0]) rfl rfl rfl rfl (by decide) (by decide) (zOk_ok rfl) (by kernel_rfl) (by kernel_rfl) (by kernel_rfl)
theorem good83 : (ti 83).good Try.prog 83 := good_sl (zz := [.sc (.string ⟨#[]⟩), .ls [.sc (.string ⟨#[]⟩), .sc (.int .i64 0), .sc (.bool false), .sc (.bool false), .sc (.int .i64 0), .sc (.int .i64 0), .sc (.string ⟨#[]⟩)] [], .ls [.sc (.string ⟨#[]⟩)] []]) rfl rfl rfl rfl (by decide) (by kernel_rfl) (by kernel_rfl)
theorem good85 : (ti 85).good Try.prog 85 := good_st (fs := #[fld "Tables" 83 0 0 ""]) (cs := #[.slice none 0 0]) rfl rfl rfl rfl (by decide) (by decide) (zOk_ok rfl) (by kernel_rfl) (by kernel_rfl) (by kernel_rfl)
theorem good86 : (ti 86).good Try.prog 86 := good_sl (zz := [.ls [.ls [.sc (.int .i64 0), .sc (.int .i64 0), .sc (.string ⟨#[]⟩)] []] []]) rfl rfl rfl rfl (by decide) (by kernel_rfl) (by kernel_rfl)
theorem good88 : (ti 88).good Try.prog 88 := good_st (fs := #[fld "Cat" 85 0 0 "", fld "Data" 86 1 24 ""]) (cs := #[.slice none 0 0, .slice none 0 0]) rfl rfl rfl rfl (by decide) (by decide) (zOk_ok rfl) (by kernel_rfl) (by kernel_rfl) (by kernel_rfl)
theorem good96 : (ti 96).good Try.prog 96 := good_st (fs := #[fld "Ty" 3 0 0 "", fld "N" 3 1 8 "", fld "S" 9 2 16 ""]) (cs := #[.int .i64 0, .int .i64 0, .string ⟨#[]⟩]) rfl rfl rfl rfl (by decide) (by decide) (zOk_ok rfl) (by kernel_rfl) (by kernel_rfl) (by kernel_rfl)
theorem good99 : (ti 99).good Try.prog 99 := good_st (fs := #[fld "Ty" 3 0 0 "", fld "N" 3 1 8 "", fld "S" 9 2 16 ""]) (cs := #[.int .i64 0, .int .i64 0, .string ⟨#[]⟩]) rfl rfl rfl rfl (by decide) (by decide) (zOk_ok rfl) (by kernel_rfl) (by kernel_rfl) (by kernel_rfl)
theorem good111 : (ti 111).good Try.prog 111 := good_st (fs := #[fld "Name" 9 0 0 "", fld "Ty" 3 1 16 "", fld "Not" 4 2 24 "", fld "Has" 4 3 25 "", fld "Def" 99 4 32 ""]) (cs := #[.string ⟨#[]⟩, .int .i64 0, .bool false, .bool false, .int .i64 0, .int .i64 0, .string ⟨#[]⟩]) rfl rfl rfl rfl (by decide) (by decide) (zOk_ok rfl) (by kernel_rfl) (by kernel_rfl) (by kernel_rfl)
theorem good115 : (ti 115).good Try.prog 115 := good_st (fs := #[fld "Vals" 26 0 0 ""]) (cs := #[.slice none 0 0]) rfl rfl rfl rfl (by decide) (by decide) (zOk_ok rfl) (by kernel_rfl) (by kernel_rfl) (by kernel_rfl)
theorem good117 : (ti 117).good Try.prog 117 := good_st (fs := #[fld "Kind" 3 0 0 "", fld "Table" 9 1 8 "", fld "Cols" 23 2 24 "", fld "Keys" 22 3 48 "", fld "Name" 9 4 72 "", fld "To" 9 5 88 ""]) (cs := #[.int .i64 0, .string ⟨#[]⟩, .slice none 0 0, .slice none 0 0, .string ⟨#[]⟩, .string ⟨#[]⟩]) rfl rfl rfl rfl (by decide) (by decide) (zOk_ok rfl) (by kernel_rfl) (by kernel_rfl) (by kernel_rfl)
theorem good119 : (ti 119).good Try.prog 119 := good_st (fs := #[fld "Kind" 3 0 0 "", fld "Table" 9 1 8 "", fld "Key" 26 2 24 "", fld "Row" 115 3 48 "", fld "Ddl" 117 4 72 ""]) (cs := #[.int .i64 0, .string ⟨#[]⟩, .slice none 0 0, .slice none 0 0, .int .i64 0, .string ⟨#[]⟩, .slice none 0 0, .slice none 0 0, .string ⟨#[]⟩, .string ⟨#[]⟩]) rfl rfl rfl rfl (by decide) (by decide) (zOk_ok rfl) (by kernel_rfl) (by kernel_rfl) (by kernel_rfl)
theorem good121 : (ti 121).good Try.prog 121 := good_st (fs := #[fld "Kind" 3 0 0 "", fld "Xid" 3 1 8 "", fld "Stmt" 119 2 16 ""]) (cs := #[.int .i64 0, .int .i64 0, .int .i64 0, .string ⟨#[]⟩, .slice none 0 0, .slice none 0 0, .int .i64 0, .string ⟨#[]⟩, .slice none 0 0, .slice none 0 0, .string ⟨#[]⟩, .string ⟨#[]⟩]) rfl rfl rfl rfl (by decide) (by decide) (zOk_ok rfl) (by kernel_rfl) (by kernel_rfl) (by kernel_rfl)
theorem good123 : (ti 123).good Try.prog 123 := good_st (fs := #[fld "Kind" 3 0 0 "", fld "Table" 9 1 8 "", fld "Cols" 34 2 24 "", fld "Keys" 22 3 48 "", fld "Name" 9 4 72 "", fld "To" 9 5 88 ""]) (cs := #[.int .i64 0, .string ⟨#[]⟩, .slice none 0 0, .slice none 0 0, .string ⟨#[]⟩, .string ⟨#[]⟩]) rfl rfl rfl rfl (by decide) (by decide) (zOk_ok rfl) (by kernel_rfl) (by kernel_rfl) (by kernel_rfl)
theorem good125 : (ti 125).good Try.prog 125 := good_st (fs := #[fld "Kind" 3 0 0 "", fld "Table" 9 1 8 "", fld "Key" 30 2 24 "", fld "Row" 46 3 48 "", fld "Ddl" 123 4 72 ""]) (cs := #[.int .i64 0, .string ⟨#[]⟩, .slice none 0 0, .slice none 0 0, .int .i64 0, .string ⟨#[]⟩, .slice none 0 0, .slice none 0 0, .string ⟨#[]⟩, .string ⟨#[]⟩]) rfl rfl rfl rfl (by decide) (by decide) (zOk_ok rfl) (by kernel_rfl) (by kernel_rfl) (by kernel_rfl)
theorem good127 : (ti 127).good Try.prog 127 := good_st (fs := #[fld "Kind" 3 0 0 "", fld "Xid" 3 1 8 "", fld "Stmt" 125 2 16 ""]) (cs := #[.int .i64 0, .int .i64 0, .int .i64 0, .string ⟨#[]⟩, .slice none 0 0, .slice none 0 0, .int .i64 0, .string ⟨#[]⟩, .slice none 0 0, .slice none 0 0, .string ⟨#[]⟩, .string ⟨#[]⟩]) rfl rfl rfl rfl (by decide) (by decide) (zOk_ok rfl) (by kernel_rfl) (by kernel_rfl) (by kernel_rfl)
theorem good134 : (ti 134).good Try.prog 134 := good_st (fs := #[fld "Stmt" 125 0 0 "", fld "Cols" 22 10 176 "", fld "Keys" 22 11 200 ""]) (cs := #[.int .i64 0, .string ⟨#[]⟩, .slice none 0 0, .slice none 0 0, .int .i64 0, .string ⟨#[]⟩, .slice none 0 0, .slice none 0 0, .string ⟨#[]⟩, .string ⟨#[]⟩, .slice none 0 0, .slice none 0 0]) rfl rfl rfl rfl (by decide) (by decide) (zOk_ok rfl) (by kernel_rfl) (by kernel_rfl) (by kernel_rfl)
theorem good151 : (ti 151).good Try.prog 151 := good_st (fs := #[fld "Name" 9 0 0 "", fld "Ty" 3 1 16 "", fld "Not" 4 2 24 "", fld "Has" 4 3 25 "", fld "Def" 96 4 32 ""]) (cs := #[.string ⟨#[]⟩, .int .i64 0, .bool false, .bool false, .int .i64 0, .int .i64 0, .string ⟨#[]⟩]) rfl rfl rfl rfl (by decide) (by decide) (zOk_ok rfl) (by kernel_rfl) (by kernel_rfl) (by kernel_rfl)
theorem good162 : (ti 162).good Try.prog 162 := good_sl (zz := [.sc (.int .u8 0)]) rfl rfl rfl rfl (by decide) (by kernel_rfl) (by kernel_rfl)
theorem good172 : (ti 172).good Try.prog 172 := good_st (fs := #[fld "Stmt" 119 0 0 "", fld "Cols" 22 10 176 "", fld "Keys" 22 11 200 ""]) (cs := #[.int .i64 0, .string ⟨#[]⟩, .slice none 0 0, .slice none 0 0, .int .i64 0, .string ⟨#[]⟩, .slice none 0 0, .slice none 0 0, .string ⟨#[]⟩, .string ⟨#[]⟩, .slice none 0 0, .slice none 0 0]) rfl rfl rfl rfl (by decide) (by decide) (zOk_ok rfl) (by kernel_rfl) (by kernel_rfl) (by kernel_rfl)
theorem good177 : (ti 177).good Try.prog 177 := good_sl (zz := [.ls [.sc (.int .i64 0), .sc (.int .i64 0), .sc (.string ⟨#[]⟩)] []]) rfl rfl rfl rfl (by decide) (by kernel_rfl) (by kernel_rfl)
theorem good179 : (ti 179).good Try.prog 179 := good_st (fs := #[fld "Rows" 177 0 0 ""]) (cs := #[.slice none 0 0]) rfl rfl rfl rfl (by decide) (by decide) (zOk_ok rfl) (by kernel_rfl) (by kernel_rfl) (by kernel_rfl)
theorem good184 : (ti 184).good Try.prog 184 := good_sl (zz := [.ls [.sc (.int .i64 0), .sc (.int .i64 0), .sc (.string ⟨#[]⟩)] []]) rfl rfl rfl rfl (by decide) (by kernel_rfl) (by kernel_rfl)
theorem good186 : (ti 186).good Try.prog 186 := good_st (fs := #[fld "Rows" 184 0 0 ""]) (cs := #[.slice none 0 0]) rfl rfl rfl rfl (by decide) (by decide) (zOk_ok rfl) (by kernel_rfl) (by kernel_rfl) (by kernel_rfl)
theorem good214 : (ti 214).good Try.prog 214 := good_sc (v := .int .u32 0) rfl rfl rfl rfl (by decide) rfl (by intro _ _ h; cases h) (by kernel_rfl) (by kernel_rfl) (fun _ => rfl)
theorem eq3 : eqAt Try.prog (ti 3) 3 1 := eqAt_int (n := 0) rfl rfl (by kernel_rfl)
theorem eq9 : eqAt Try.prog (ti 9) 9 1 := eqAt_str (s := ⟨#[]⟩) rfl rfl (by kernel_rfl)
theorem eq99 : eqAt Try.prog (ti 99) 99 2 := eqAt_st (fs := [fld "Ty" 3 0 0 "", fld "N" 3 1 8 "", fld "S" 9 2 16 ""]) (by kernel_rfl) (by kernel_rfl) (by kernel_rfl) rfl ⟨by decide, rfl, good3, rfl, rfl, eqAt_up eq3 (by decide), ⟨by decide, rfl, good3, rfl, rfl, eqAt_up eq3 (by decide), ⟨by decide, rfl, good9, rfl, rfl, eqAt_up eq9 (by decide), rfl⟩⟩⟩
theorem eq4 : eqAt Try.prog (ti 4) 4 1 := eqAt_bool (s := false) rfl rfl (by kernel_rfl)
theorem eq111 : eqAt Try.prog (ti 111) 111 3 := eqAt_st (fs := [fld "Name" 9 0 0 "", fld "Ty" 3 1 16 "", fld "Not" 4 2 24 "", fld "Has" 4 3 25 "", fld "Def" 99 4 32 ""]) (by kernel_rfl) (by kernel_rfl) (by kernel_rfl) rfl ⟨by decide, rfl, good9, rfl, rfl, eqAt_up eq9 (by decide), ⟨by decide, rfl, good3, rfl, rfl, eqAt_up eq3 (by decide), ⟨by decide, rfl, good4, rfl, rfl, eqAt_up eq4 (by decide), ⟨by decide, rfl, good4, rfl, rfl, eqAt_up eq4 (by decide), ⟨by decide, rfl, good99, rfl, rfl, eqAt_up eq99 (by decide), rfl⟩⟩⟩⟩⟩
theorem good' : ∀ t, (ti t).ok = true → (ti t).good Try.prog t := by
  intro t h
  unfold ti at h
  split at h
  · exact good2
  · exact good3
  · exact good4
  · exact good5
  · exact good9
  · exact good21
  · exact good22
  · exact good23
  · exact good25
  · exact good26
  · exact good30
  · exact good34
  · exact good36
  · exact good46
  · exact good51
  · exact good53
  · exact good55
  · exact good62
  · exact good64
  · exact good67
  · exact good69
  · exact good74
  · exact good76
  · exact good77
  · exact good79
  · exact good83
  · exact good85
  · exact good86
  · exact good88
  · exact good96
  · exact good99
  · exact good111
  · exact good115
  · exact good117
  · exact good119
  · exact good121
  · exact good123
  · exact good125
  · exact good127
  · exact good134
  · exact good151
  · exact good162
  · exact good172
  · exact good177
  · exact good179
  · exact good184
  · exact good186
  · exact good214
  · cases h
theorem gooe : ∀ t, (ti t).eqb = true → eqAt Try.prog (ti t) t 5000 ∧ Try.prog.eqGuardType Try.prog.depth t = false := by
  intro t h
  have h0 := h
  unfold ti at h
  split at h
  · cases h
  · cases h
  · cases h
  · cases h
  · cases h
  · cases h
  · cases h
  · cases h
  · cases h
  · cases h
  · cases h
  · cases h
  · cases h
  · cases h
  · cases h
  · cases h
  · cases h
  · cases h
  · cases h
  · cases h
  · cases h
  · cases h
  · cases h
  · cases h
  · cases h
  · cases h
  · cases h
  · cases h
  · cases h
  · cases h
  · exact ⟨eqAt_up eq99 (by decide), by kernel_rfl⟩
  · exact ⟨eqAt_up eq111 (by decide), by kernel_rfl⟩
  · cases h
  · cases h
  · cases h
  · cases h
  · cases h
  · cases h
  · cases h
  · cases h
  · cases h
  · cases h
  · cases h
  · cases h
  · cases h
  · cases h
  · cases h
  · cases h
  · cases h
theorem good : TGood Try.prog ti := ⟨good', gooe⟩
theorem cg2 : ckOk ti ck 2 := by simp [ckOk, ti, ck]
theorem cg3 : ckOk ti ck 3 := by simp [ckOk, ti, ck]
theorem cg4 : ckOk ti ck 4 := by simp [ckOk, ti, ck]
theorem cg5 : ckOk ti ck 5 := by simp [ckOk, ti, ck]
theorem cg9 : ckOk ti ck 9 := by simp [ckOk, ti, ck]
theorem cg21 : ckOk ti ck 21 := by simp [ckOk, ti, ck]
theorem cg22 : ckOk ti ck 22 := by simp [ckOk, ti, ck]
theorem cg23 : ckOk ti ck 23 := by simp [ckOk, ti, ck]
theorem cg25 : ckOk ti ck 25 := by simp [ckOk, ti, ck, contig]
theorem cg26 : ckOk ti ck 26 := by simp [ckOk, ti, ck]
theorem cg30 : ckOk ti ck 30 := by simp [ckOk, ti, ck]
theorem cg34 : ckOk ti ck 34 := by simp [ckOk, ti, ck]
theorem cg36 : ckOk ti ck 36 := by simp [ckOk, ti, ck, contig]
theorem cg46 : ckOk ti ck 46 := by simp [ckOk, ti, ck, contig]
theorem cg51 : ckOk ti ck 51 := by simp [ckOk, ti, ck]
theorem cg53 : ckOk ti ck 53 := by simp [ckOk, ti, ck]
theorem cg55 : ckOk ti ck 55 := by simp [ckOk, ti, ck]
theorem cg62 : ckOk ti ck 62 := by simp [ckOk, ti, ck]
theorem cg64 : ckOk ti ck 64 := by simp [ckOk, ti, ck, contig]
theorem cg67 : ckOk ti ck 67 := by simp [ckOk, ti, ck]
theorem cg69 : ckOk ti ck 69 := by simp [ckOk, ti, ck, contig]
theorem cg74 : ckOk ti ck 74 := by simp [ckOk, ti, ck]
theorem cg76 : ckOk ti ck 76 := by simp [ckOk, ti, ck, contig]
theorem cg77 : ckOk ti ck 77 := by simp [ckOk, ti, ck]
theorem cg79 : ckOk ti ck 79 := by simp [ckOk, ti, ck, contig]
theorem cg83 : ckOk ti ck 83 := by simp [ckOk, ti, ck]
theorem cg85 : ckOk ti ck 85 := by simp [ckOk, ti, ck, contig]
theorem cg86 : ckOk ti ck 86 := by simp [ckOk, ti, ck]
theorem cg88 : ckOk ti ck 88 := by simp [ckOk, ti, ck, contig]
theorem cg96 : ckOk ti ck 96 := by simp [ckOk, ti, ck, contig]
theorem cg99 : ckOk ti ck 99 := by simp [ckOk, ti, ck, contig]
theorem cg111 : ckOk ti ck 111 := by simp [ckOk, ti, ck, contig]
theorem cg115 : ckOk ti ck 115 := by simp [ckOk, ti, ck, contig]
theorem cg117 : ckOk ti ck 117 := by simp [ckOk, ti, ck, contig]
theorem cg119 : ckOk ti ck 119 := by simp [ckOk, ti, ck, contig]
theorem cg121 : ckOk ti ck 121 := by simp [ckOk, ti, ck, contig]
theorem cg123 : ckOk ti ck 123 := by simp [ckOk, ti, ck, contig]
theorem cg125 : ckOk ti ck 125 := by simp [ckOk, ti, ck, contig]
theorem cg127 : ckOk ti ck 127 := by simp [ckOk, ti, ck, contig]
theorem cg134 : ckOk ti ck 134 := by simp [ckOk, ti, ck, contig]
theorem cg151 : ckOk ti ck 151 := by simp [ckOk, ti, ck, contig]
theorem cg162 : ckOk ti ck 162 := by simp [ckOk, ti, ck]
theorem cg172 : ckOk ti ck 172 := by simp [ckOk, ti, ck, contig]
theorem cg177 : ckOk ti ck 177 := by simp [ckOk, ti, ck]
theorem cg179 : ckOk ti ck 179 := by simp [ckOk, ti, ck, contig]
theorem cg184 : ckOk ti ck 184 := by simp [ckOk, ti, ck]
theorem cg186 : ckOk ti ck 186 := by simp [ckOk, ti, ck, contig]
theorem cg214 : ckOk ti ck 214 := by simp [ckOk, ti, ck]
theorem cgood : CGood ti ck := by
  intro t h
  unfold ti at h
  split at h
  · exact cg2
  · exact cg3
  · exact cg4
  · exact cg5
  · exact cg9
  · exact cg21
  · exact cg22
  · exact cg23
  · exact cg25
  · exact cg26
  · exact cg30
  · exact cg34
  · exact cg36
  · exact cg46
  · exact cg51
  · exact cg53
  · exact cg55
  · exact cg62
  · exact cg64
  · exact cg67
  · exact cg69
  · exact cg74
  · exact cg76
  · exact cg77
  · exact cg79
  · exact cg83
  · exact cg85
  · exact cg86
  · exact cg88
  · exact cg96
  · exact cg99
  · exact cg111
  · exact cg115
  · exact cg117
  · exact cg119
  · exact cg121
  · exact cg123
  · exact cg125
  · exact cg127
  · exact cg134
  · exact cg151
  · exact cg162
  · exact cg172
  · exact cg177
  · exact cg179
  · exact cg184
  · exact cg186
  · exact cg214
  · cases h
theorem hm : Try.prog.follows .mixedOrders = true := by kernel_rfl
end Go.Proofs.Ytkbknmcafiepgaa
