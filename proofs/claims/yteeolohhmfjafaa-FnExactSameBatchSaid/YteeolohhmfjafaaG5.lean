import Derived.Test.YteeolohhmfjafaaG3
import Derived.Test.YteeolohhmfjafaaProg
import Derived.KernelRfl
import Derived.Test.YteeolohhmfjafaaG4
/-! YteeolohhmfjafaaTi -/
namespace Go.Proofs.Yteeolohhmfjafaa
open Go Go.Proofs Go.Sm

def ti : TT
  | 2 => { ok := true, desc := .int .i64, sz := 1, by_ := 8, zv := .int .i64 0, z := [.sc (.int .i64 0)] }
  | 3 => { ok := true, desc := .int .i64, sz := 1, by_ := 8, zv := .int .i64 0, z := [.sc (.int .i64 0)] }
  | 4 => { ok := true, desc := .bool, sz := 1, by_ := 1, zv := .bool false, z := [.sc (.bool false)] }
  | 5 => { ok := true, desc := .int .u8, sz := 1, by_ := 1, zv := .int .u8 0, z := [.sc (.int .u8 0)] }
  | 9 => { ok := true, desc := .string, sz := 1, by_ := 16, zv := .string ⟨#[]⟩, z := [.sc (.string ⟨#[]⟩)] }
  | 21 => { ok := true, desc := .int .i32, sz := 1, by_ := 4, zv := .int .i32 0, z := [.sc (.int .i32 0)] }
  | 22 => { ok := true, desc := .slice 5, sz := 1, by_ := 24, zv := .slice none 0 0, z := [.ls [.sc (.int .u8 0)] []], ms := [.o 5 (fun _ => [.s])] }
  | 23 => { ok := true, desc := .slice 29, sz := 1, by_ := 24, zv := .slice none 0 0, z := [.ls [.sc (.string ⟨#[]⟩), .sc (.int .i64 0)] []], ms := [.o 29 (fun _ => [.s, .s])] }
  | 29 => { ok := true, desc := .struct #[fld "Name" 9 0 0 "", fld "At" 3 1 16 ""], sz := 2, by_ := 24, zv := .agg #[.string ⟨#[]⟩, .int .i64 0], z := [.sc (.string ⟨#[]⟩), .sc (.int .i64 0)], eqb := true }
  | 33 => { ok := true, desc := .slice 9, sz := 1, by_ := 24, zv := .slice none 0 0, z := [.ls [.sc (.string ⟨#[]⟩)] []], ms := [.o 9 (fun _ => [.s])] }
  | 34 => { ok := true, desc := .slice 76, sz := 1, by_ := 24, zv := .slice none 0 0, z := [.ls [.sc (.string ⟨#[]⟩), .sc (.int .i64 0), .sc (.bool false), .sc (.bool false), .sc (.int .i64 0), .sc (.int .i64 0), .sc (.string ⟨#[]⟩)] []], ms := [.o 76 (fun _ => [.s, .s, .s, .s, .s, .s, .s])] }
  | 36 => { ok := true, desc := .struct #[fld "Name" 9 0 0 "", fld "Cols" 34 1 16 "", fld "Keys" 33 2 40 ""], sz := 3, by_ := 64, zv := .agg #[.string ⟨#[]⟩, .slice none 0 0, .slice none 0 0], z := [.sc (.string ⟨#[]⟩), .ls [.sc (.string ⟨#[]⟩), .sc (.int .i64 0), .sc (.bool false), .sc (.bool false), .sc (.int .i64 0), .sc (.int .i64 0), .sc (.string ⟨#[]⟩)] [], .ls [.sc (.string ⟨#[]⟩)] []], ms := [.s, .o 76 (fun _ => [.s, .s, .s, .s, .s, .s, .s]), .o 9 (fun _ => [.s])] }
  | 37 => { ok := true, desc := .slice 45, sz := 1, by_ := 24, zv := .slice none 0 0, z := [.ls [.sc (.int .i64 0), .sc (.int .i64 0), .sc (.string ⟨#[]⟩)] []], ms := [.o 45 (fun _ => [.s, .s, .s])] }
  | 41 => { ok := true, desc := .struct #[fld "Vals" 37 0 0 ""], sz := 1, by_ := 24, zv := .agg #[.slice none 0 0], z := [.ls [.sc (.int .i64 0), .sc (.int .i64 0), .sc (.string ⟨#[]⟩)] []], ms := [.o 45 (fun _ => [.s, .s, .s])] }
  | 45 => { ok := true, desc := .struct #[fld "Ty" 3 0 0 "", fld "N" 3 1 8 "", fld "S" 9 2 16 ""], sz := 3, by_ := 32, zv := .agg #[.int .i64 0, .int .i64 0, .string ⟨#[]⟩], z := [.sc (.int .i64 0), .sc (.int .i64 0), .sc (.string ⟨#[]⟩)], eqb := true }
  | 48 => { ok := true, desc := .slice 117, sz := 1, by_ := 24, zv := .slice none 0 0, z := [.ls [.sc (.int .i64 0), .sc (.string ⟨#[]⟩), .ls [.sc (.int .i64 0), .sc (.int .i64 0), .sc (.string ⟨#[]⟩)] [], .ls [.sc (.int .i64 0), .sc (.int .i64 0), .sc (.string ⟨#[]⟩)] [], .sc (.int .i64 0), .sc (.string ⟨#[]⟩), .ls [.sc (.string ⟨#[]⟩), .sc (.int .i64 0), .sc (.bool false), .sc (.bool false), .sc (.int .i64 0), .sc (.int .i64 0), .sc (.string ⟨#[]⟩)] [], .ls [.sc (.string ⟨#[]⟩)] [], .sc (.string ⟨#[]⟩), .sc (.string ⟨#[]⟩), .ls [.sc (.string ⟨#[]⟩)] [], .ls [.sc (.string ⟨#[]⟩)] []] []], ms := [.o 117 (fun _ => [.s, .s, .o 154 (fun _ => [.s, .s, .s]), .o 154 (fun _ => [.s, .s, .s]), .s, .s, .o 164 (fun _ => [.s, .s, .s, .s, .s, .s, .s]), .o 9 (fun _ => [.s]), .s, .s, .o 9 (fun _ => [.s]), .o 9 (fun _ => [.s])])] }
  | 50 => { ok := true, desc := .struct #[fld "Lsn" 3 0 0 "", fld "Prev" 3 1 8 "", fld "Parts" 48 2 16 ""], sz := 3, by_ := 40, zv := .agg #[.int .i64 0, .int .i64 0, .slice none 0 0], z := [.sc (.int .i64 0), .sc (.int .i64 0), .ls [.sc (.int .i64 0), .sc (.string ⟨#[]⟩), .ls [.sc (.int .i64 0), .sc (.int .i64 0), .sc (.string ⟨#[]⟩)] [], .ls [.sc (.int .i64 0), .sc (.int .i64 0), .sc (.string ⟨#[]⟩)] [], .sc (.int .i64 0), .sc (.string ⟨#[]⟩), .ls [.sc (.string ⟨#[]⟩), .sc (.int .i64 0), .sc (.bool false), .sc (.bool false), .sc (.int .i64 0), .sc (.int .i64 0), .sc (.string ⟨#[]⟩)] [], .ls [.sc (.string ⟨#[]⟩)] [], .sc (.string ⟨#[]⟩), .sc (.string ⟨#[]⟩), .ls [.sc (.string ⟨#[]⟩)] [], .ls [.sc (.string ⟨#[]⟩)] []] []], ms := [.s, .s, .o 117 (fun _ => [.s, .s, .o 154 (fun _ => [.s, .s, .s]), .o 154 (fun _ => [.s, .s, .s]), .s, .s, .o 164 (fun _ => [.s, .s, .s, .s, .s, .s, .s]), .o 9 (fun _ => [.s]), .s, .s, .o 9 (fun _ => [.s]), .o 9 (fun _ => [.s])])] }
  | 53 => { ok := true, desc := .slice 88, sz := 1, by_ := 24, zv := .slice none 0 0, z := [.ls [.sc (.int .i64 0), .sc (.string ⟨#[]⟩), .ls [.sc (.int .i64 0), .sc (.int .i64 0), .sc (.string ⟨#[]⟩)] [], .ls [.sc (.int .i64 0), .sc (.int .i64 0), .sc (.string ⟨#[]⟩)] [], .sc (.int .i64 0), .sc (.string ⟨#[]⟩), .ls [.sc (.string ⟨#[]⟩), .sc (.int .i64 0), .sc (.bool false), .sc (.bool false), .sc (.int .i64 0), .sc (.int .i64 0), .sc (.string ⟨#[]⟩)] [], .ls [.sc (.string ⟨#[]⟩)] [], .sc (.string ⟨#[]⟩), .sc (.string ⟨#[]⟩), .ls [.sc (.string ⟨#[]⟩)] [], .ls [.sc (.string ⟨#[]⟩)] []] []], ms := [.o 88 (fun _ => [.s, .s, .o 45 (fun _ => [.s, .s, .s]), .o 45 (fun _ => [.s, .s, .s]), .s, .s, .o 76 (fun _ => [.s, .s, .s, .s, .s, .s, .s]), .o 9 (fun _ => [.s]), .s, .s, .o 9 (fun _ => [.s]), .o 9 (fun _ => [.s])])] }
  | 55 => { ok := true, desc := .struct #[fld "Lsn" 3 0 0 "", fld "Prev" 3 1 8 "", fld "Parts" 53 2 16 ""], sz := 3, by_ := 40, zv := .agg #[.int .i64 0, .int .i64 0, .slice none 0 0], z := [.sc (.int .i64 0), .sc (.int .i64 0), .ls [.sc (.int .i64 0), .sc (.string ⟨#[]⟩), .ls [.sc (.int .i64 0), .sc (.int .i64 0), .sc (.string ⟨#[]⟩)] [], .ls [.sc (.int .i64 0), .sc (.int .i64 0), .sc (.string ⟨#[]⟩)] [], .sc (.int .i64 0), .sc (.string ⟨#[]⟩), .ls [.sc (.string ⟨#[]⟩), .sc (.int .i64 0), .sc (.bool false), .sc (.bool false), .sc (.int .i64 0), .sc (.int .i64 0), .sc (.string ⟨#[]⟩)] [], .ls [.sc (.string ⟨#[]⟩)] [], .sc (.string ⟨#[]⟩), .sc (.string ⟨#[]⟩), .ls [.sc (.string ⟨#[]⟩)] [], .ls [.sc (.string ⟨#[]⟩)] []] []], ms := [.s, .s, .o 88 (fun _ => [.s, .s, .o 45 (fun _ => [.s, .s, .s]), .o 45 (fun _ => [.s, .s, .s]), .s, .s, .o 76 (fun _ => [.s, .s, .s, .s, .s, .s, .s]), .o 9 (fun _ => [.s]), .s, .s, .o 9 (fun _ => [.s]), .o 9 (fun _ => [.s])])] }
  | 76 => { ok := true, desc := .struct #[fld "Name" 9 0 0 "", fld "Ty" 3 1 16 "", fld "Not" 4 2 24 "", fld "Has" 4 3 25 "", fld "Def" 45 4 32 ""], sz := 7, by_ := 64, zv := .agg #[.string ⟨#[]⟩, .int .i64 0, .bool false, .bool false, .int .i64 0, .int .i64 0, .string ⟨#[]⟩], z := [.sc (.string ⟨#[]⟩), .sc (.int .i64 0), .sc (.bool false), .sc (.bool false), .sc (.int .i64 0), .sc (.int .i64 0), .sc (.string ⟨#[]⟩)], eqb := true }
  | 84 => { ok := true, desc := .struct #[fld "Kind" 3 0 0 "", fld "Table" 9 1 8 "", fld "Cols" 34 2 24 "", fld "Keys" 33 3 48 "", fld "Name" 9 4 72 "", fld "To" 9 5 88 ""], sz := 6, by_ := 104, zv := .agg #[.int .i64 0, .string ⟨#[]⟩, .slice none 0 0, .slice none 0 0, .string ⟨#[]⟩, .string ⟨#[]⟩], z := [.sc (.int .i64 0), .sc (.string ⟨#[]⟩), .ls [.sc (.string ⟨#[]⟩), .sc (.int .i64 0), .sc (.bool false), .sc (.bool false), .sc (.int .i64 0), .sc (.int .i64 0), .sc (.string ⟨#[]⟩)] [], .ls [.sc (.string ⟨#[]⟩)] [], .sc (.string ⟨#[]⟩), .sc (.string ⟨#[]⟩)], ms := [.s, .s, .o 76 (fun _ => [.s, .s, .s, .s, .s, .s, .s]), .o 9 (fun _ => [.s]), .s, .s] }
  | 86 => { ok := true, desc := .struct #[fld "Kind" 3 0 0 "", fld "Table" 9 1 8 "", fld "Key" 37 2 24 "", fld "Row" 41 3 48 "", fld "Ddl" 84 4 72 ""], sz := 10, by_ := 176, zv := .agg #[.int .i64 0, .string ⟨#[]⟩, .slice none 0 0, .slice none 0 0, .int .i64 0, .string ⟨#[]⟩, .slice none 0 0, .slice none 0 0, .string ⟨#[]⟩, .string ⟨#[]⟩], z := [.sc (.int .i64 0), .sc (.string ⟨#[]⟩), .ls [.sc (.int .i64 0), .sc (.int .i64 0), .sc (.string ⟨#[]⟩)] [], .ls [.sc (.int .i64 0), .sc (.int .i64 0), .sc (.string ⟨#[]⟩)] [], .sc (.int .i64 0), .sc (.string ⟨#[]⟩), .ls [.sc (.string ⟨#[]⟩), .sc (.int .i64 0), .sc (.bool false), .sc (.bool false), .sc (.int .i64 0), .sc (.int .i64 0), .sc (.string ⟨#[]⟩)] [], .ls [.sc (.string ⟨#[]⟩)] [], .sc (.string ⟨#[]⟩), .sc (.string ⟨#[]⟩)], ms := [.s, .s, .o 45 (fun _ => [.s, .s, .s]), .o 45 (fun _ => [.s, .s, .s]), .s, .s, .o 76 (fun _ => [.s, .s, .s, .s, .s, .s, .s]), .o 9 (fun _ => [.s]), .s, .s] }
  | 88 => { ok := true, desc := .struct #[fld "Stmt" 86 0 0 "", fld "Cols" 33 10 176 "", fld "Keys" 33 11 200 ""], sz := 12, by_ := 224, zv := .agg #[.int .i64 0, .string ⟨#[]⟩, .slice none 0 0, .slice none 0 0, .int .i64 0, .string ⟨#[]⟩, .slice none 0 0, .slice none 0 0, .string ⟨#[]⟩, .string ⟨#[]⟩, .slice none 0 0, .slice none 0 0], z := [.sc (.int .i64 0), .sc (.string ⟨#[]⟩), .ls [.sc (.int .i64 0), .sc (.int .i64 0), .sc (.string ⟨#[]⟩)] [], .ls [.sc (.int .i64 0), .sc (.int .i64 0), .sc (.string ⟨#[]⟩)] [], .sc (.int .i64 0), .sc (.string ⟨#[]⟩), .ls [.sc (.string ⟨#[]⟩), .sc (.int .i64 0), .sc (.bool false), .sc (.bool false), .sc (.int .i64 0), .sc (.int .i64 0), .sc (.string ⟨#[]⟩)] [], .ls [.sc (.string ⟨#[]⟩)] [], .sc (.string ⟨#[]⟩), .sc (.string ⟨#[]⟩), .ls [.sc (.string ⟨#[]⟩)] [], .ls [.sc (.string ⟨#[]⟩)] []], ms := [.s, .s, .o 45 (fun _ => [.s, .s, .s]), .o 45 (fun _ => [.s, .s, .s]), .s, .s, .o 76 (fun _ => [.s, .s, .s, .s, .s, .s, .s]), .o 9 (fun _ => [.s]), .s, .s, .o 9 (fun _ => [.s]), .o 9 (fun _ => [.s])] }
  | 97 => { ok := true, desc := .struct #[fld "b" 22 0 0 "loop.example/g00462/spec", fld "i" 3 1 24 "loop.example/g00462/spec", fld "h" 3 2 32 "loop.example/g00462/spec"], sz := 3, by_ := 40, zv := .agg #[.slice none 0 0, .int .i64 0, .int .i64 0], z := [.ls [.sc (.int .u8 0)] [], .sc (.int .i64 0), .sc (.int .i64 0)], ms := [.o 5 (fun _ => [.s]), .s, .s] }
  | 108 => { ok := true, desc := .slice 154, sz := 1, by_ := 24, zv := .slice none 0 0, z := [.ls [.sc (.int .i64 0), .sc (.int .i64 0), .sc (.string ⟨#[]⟩)] []], ms := [.o 154 (fun _ => [.s, .s, .s])] }
  | 110 => { ok := true, desc := .struct #[fld "Vals" 108 0 0 ""], sz := 1, by_ := 24, zv := .agg #[.slice none 0 0], z := [.ls [.sc (.int .i64 0), .sc (.int .i64 0), .sc (.string ⟨#[]⟩)] []], ms := [.o 154 (fun _ => [.s, .s, .s])] }
  | 111 => { ok := true, desc := .slice 164, sz := 1, by_ := 24, zv := .slice none 0 0, z := [.ls [.sc (.string ⟨#[]⟩), .sc (.int .i64 0), .sc (.bool false), .sc (.bool false), .sc (.int .i64 0), .sc (.int .i64 0), .sc (.string ⟨#[]⟩)] []], ms := [.o 164 (fun _ => [.s, .s, .s, .s, .s, .s, .s])] }
  | 113 => { ok := true, desc := .struct #[fld "Kind" 3 0 0 "", fld "Table" 9 1 8 "", fld "Cols" 111 2 24 "", fld "Keys" 33 3 48 "", fld "Name" 9 4 72 "", fld "To" 9 5 88 ""], sz := 6, by_ := 104, zv := .agg #[.int .i64 0, .string ⟨#[]⟩, .slice none 0 0, .slice none 0 0, .string ⟨#[]⟩, .string ⟨#[]⟩], z := [.sc (.int .i64 0), .sc (.string ⟨#[]⟩), .ls [.sc (.string ⟨#[]⟩), .sc (.int .i64 0), .sc (.bool false), .sc (.bool false), .sc (.int .i64 0), .sc (.int .i64 0), .sc (.string ⟨#[]⟩)] [], .ls [.sc (.string ⟨#[]⟩)] [], .sc (.string ⟨#[]⟩), .sc (.string ⟨#[]⟩)], ms := [.s, .s, .o 164 (fun _ => [.s, .s, .s, .s, .s, .s, .s]), .o 9 (fun _ => [.s]), .s, .s] }
  | 115 => { ok := true, desc := .struct #[fld "Kind" 3 0 0 "", fld "Table" 9 1 8 "", fld "Key" 108 2 24 "", fld "Row" 110 3 48 "", fld "Ddl" 113 4 72 ""], sz := 10, by_ := 176, zv := .agg #[.int .i64 0, .string ⟨#[]⟩, .slice none 0 0, .slice none 0 0, .int .i64 0, .string ⟨#[]⟩, .slice none 0 0, .slice none 0 0, .string ⟨#[]⟩, .string ⟨#[]⟩], z := [.sc (.int .i64 0), .sc (.string ⟨#[]⟩), .ls [.sc (.int .i64 0), .sc (.int .i64 0), .sc (.string ⟨#[]⟩)] [], .ls [.sc (.int .i64 0), .sc (.int .i64 0), .sc (.string ⟨#[]⟩)] [], .sc (.int .i64 0), .sc (.string ⟨#[]⟩), .ls [.sc (.string ⟨#[]⟩), .sc (.int .i64 0), .sc (.bool false), .sc (.bool false), .sc (.int .i64 0), .sc (.int .i64 0), .sc (.string ⟨#[]⟩)] [], .ls [.sc (.string ⟨#[]⟩)] [], .sc (.string ⟨#[]⟩), .sc (.string ⟨#[]⟩)], ms := [.s, .s, .o 154 (fun _ => [.s, .s, .s]), .o 154 (fun _ => [.s, .s, .s]), .s, .s, .o 164 (fun _ => [.s, .s, .s, .s, .s, .s, .s]), .o 9 (fun _ => [.s]), .s, .s] }
  | 117 => { ok := true, desc := .struct #[fld "Stmt" 115 0 0 "", fld "Cols" 33 10 176 "", fld "Keys" 33 11 200 ""], sz := 12, by_ := 224, zv := .agg #[.int .i64 0, .string ⟨#[]⟩, .slice none 0 0, .slice none 0 0, .int .i64 0, .string ⟨#[]⟩, .slice none 0 0, .slice none 0 0, .string ⟨#[]⟩, .string ⟨#[]⟩, .slice none 0 0, .slice none 0 0], z := [.sc (.int .i64 0), .sc (.string ⟨#[]⟩), .ls [.sc (.int .i64 0), .sc (.int .i64 0), .sc (.string ⟨#[]⟩)] [], .ls [.sc (.int .i64 0), .sc (.int .i64 0), .sc (.string ⟨#[]⟩)] [], .sc (.int .i64 0), .sc (.string ⟨#[]⟩), .ls [.sc (.string ⟨#[]⟩), .sc (.int .i64 0), .sc (.bool false), .sc (.bool false), .sc (.int .i64 0), .sc (.int .i64 0), .sc (.string ⟨#[]⟩)] [], .ls [.sc (.string ⟨#[]⟩)] [], .sc (.string ⟨#[]⟩), .sc (.string ⟨#[]⟩), .ls [.sc (.string ⟨#[]⟩)] [], .ls [.sc (.string ⟨#[]⟩)] []], ms := [.s, .s, .o 154 (fun _ => [.s, .s, .s]), .o 154 (fun _ => [.s, .s, .s]), .s, .s, .o 164 (fun _ => [.s, .s, .s, .s, .s, .s, .s]), .o 9 (fun _ => [.s]), .s, .s, .o 9 (fun _ => [.s]), .o 9 (fun _ => [.s])] }
  | 125 => { ok := true, desc := .int .u64, sz := 1, by_ := 8, zv := .int .u64 0, z := [.sc (.int .u64 0)] }
  | 154 => { ok := true, desc := .struct #[fld "Ty" 3 0 0 "", fld "N" 3 1 8 "", fld "S" 9 2 16 ""], sz := 3, by_ := 32, zv := .agg #[.int .i64 0, .int .i64 0, .string ⟨#[]⟩], z := [.sc (.int .i64 0), .sc (.int .i64 0), .sc (.string ⟨#[]⟩)] }
  | 164 => { ok := true, desc := .struct #[fld "Name" 9 0 0 "", fld "Ty" 3 1 16 "", fld "Not" 4 2 24 "", fld "Has" 4 3 25 "", fld "Def" 154 4 32 ""], sz := 7, by_ := 64, zv := .agg #[.string ⟨#[]⟩, .int .i64 0, .bool false, .bool false, .int .i64 0, .int .i64 0, .string ⟨#[]⟩], z := [.sc (.string ⟨#[]⟩), .sc (.int .i64 0), .sc (.bool false), .sc (.bool false), .sc (.int .i64 0), .sc (.int .i64 0), .sc (.string ⟨#[]⟩)] }
  | 174 => { ok := true, desc := .int .u32, sz := 1, by_ := 4, zv := .int .u32 0, z := [.sc (.int .u32 0)] }
  | _ => {}
def ck : Nat → List CK
  | 2 => [.int .i64]
  | 3 => [.int .i64]
  | 4 => [.bool]
  | 5 => [.int .u8]
  | 9 => [.str]
  | 21 => [.int .i32]
  | 22 => [.sl 5]
  | 23 => [.sl 29]
  | 29 => [.str, .int .i64]
  | 33 => [.sl 9]
  | 34 => [.sl 76]
  | 36 => [.str, .sl 76, .sl 9]
  | 37 => [.sl 45]
  | 41 => [.sl 45]
  | 45 => [.int .i64, .int .i64, .str]
  | 48 => [.sl 117]
  | 50 => [.int .i64, .int .i64, .sl 117]
  | 53 => [.sl 88]
  | 55 => [.int .i64, .int .i64, .sl 88]
  | 76 => [.str, .int .i64, .bool, .bool, .int .i64, .int .i64, .str]
  | 84 => [.int .i64, .str, .sl 76, .sl 9, .str, .str]
  | 86 => [.int .i64, .str, .sl 45, .sl 45, .int .i64, .str, .sl 76, .sl 9, .str, .str]
  | 88 => [.int .i64, .str, .sl 45, .sl 45, .int .i64, .str, .sl 76, .sl 9, .str, .str, .sl 9, .sl 9]
  | 97 => [.sl 5, .int .i64, .int .i64]
  | 108 => [.sl 154]
  | 110 => [.sl 154]
  | 111 => [.sl 164]
  | 113 => [.int .i64, .str, .sl 164, .sl 9, .str, .str]
  | 115 => [.int .i64, .str, .sl 154, .sl 154, .int .i64, .str, .sl 164, .sl 9, .str, .str]
  | 117 => [.int .i64, .str, .sl 154, .sl 154, .int .i64, .str, .sl 164, .sl 9, .str, .str, .sl 9, .sl 9]
  | 125 => [.int .u64]
  | 154 => [.int .i64, .int .i64, .str]
  | 164 => [.str, .int .i64, .bool, .bool, .int .i64, .int .i64, .str]
  | 174 => [.int .u32]
  | _ => []
theorem good2 : (ti 2).good Try.prog 2 := good_sc (v := .int .i64 0) rfl rfl rfl rfl (by decide) rfl (by intro _ _ h; cases h) (by kernel_rfl) (by kernel_rfl) (fun _ => rfl)
theorem good3 : (ti 3).good Try.prog 3 := good_sc (v := .int .i64 0) rfl rfl rfl rfl (by decide) rfl (by intro _ _ h; cases h) (by kernel_rfl) (by kernel_rfl) (fun _ => rfl)
theorem good4 : (ti 4).good Try.prog 4 := good_sc (v := .bool false) rfl rfl rfl rfl (by decide) rfl (by intro _ _ h; cases h) (by kernel_rfl) (by kernel_rfl) (fun _ => rfl)
theorem good5 : (ti 5).good Try.prog 5 := good_sc (v := .int .u8 0) rfl rfl rfl rfl (by decide) rfl (by intro _ _ h; cases h) (by kernel_rfl) (by kernel_rfl) (fun _ => rfl)
theorem good9 : (ti 9).good Try.prog 9 := good_sc (v := .string ⟨#[]⟩) rfl rfl rfl rfl (by decide) rfl (by intro _ _ h; cases h) (by kernel_rfl) (by kernel_rfl) (fun _ => rfl)
theorem good21 : (ti 21).good Try.prog 21 := good_sc (v := .int .i32 0) rfl rfl rfl rfl (by decide) rfl (by intro _ _ h; cases h) (by kernel_rfl) (by kernel_rfl) (fun _ => rfl)
theorem good22 : (ti 22).good Try.prog 22 := good_sl (zz := [.sc (.int .u8 0)]) rfl rfl rfl rfl (by decide) (by kernel_rfl) (by kernel_rfl)
theorem good23 : (ti 23).good Try.prog 23 := good_sl (zz := [.sc (.string ⟨#[]⟩), .sc (.int .i64 0)]) rfl rfl rfl rfl (by decide) (by kernel_rfl) (by kernel_rfl)
theorem good29 : (ti 29).good Try.prog 29 := good_st (fs := #[fld "Name" 9 0 0 "", fld "At" 3 1 16 ""]) (cs := #[.string ⟨#[]⟩, .int .i64 0]) rfl rfl rfl rfl (by decide) (by decide) (zOk_ok rfl) (by kernel_rfl) (by kernel_rfl) (by kernel_rfl)
theorem good33 : (ti 33).good Try.prog 33 := good_sl (zz := [.sc (.string ⟨#[]⟩)]) rfl rfl rfl rfl (by decide) (by kernel_rfl) (by kernel_rfl)
theorem good34 : (ti 34).good Try.prog 34 := good_sl (zz := [.sc (.string ⟨#[]⟩), .sc (.int .i64 0), .sc (.bool false), .sc (.bool false), .sc (.int .i64 0), .sc (.int .i64 0), .sc (.string ⟨#[]⟩)]) rfl rfl rfl rfl (by decide) (by kernel_rfl) (by kernel_rfl)
theorem good36 : (ti 36).good Try.prog 36 := good_st (fs := #[fld "Name" 9 0 0 "", fld "Cols" 34 1 16 "", fld "Keys" 33 2 40 ""]) (cs := #[.string ⟨#[]⟩, .slice none 0 0, .slice none 0 0]) rfl rfl rfl rfl (by decide) (by decide) (zOk_ok rfl) (by kernel_rfl) (by kernel_rfl) (by kernel_rfl)
theorem good37 : (ti 37).good Try.prog 37 := good_sl (zz := [.sc (.int .i64 0), .sc (.int .i64 0), .sc (.string ⟨#[]⟩)]) rfl rfl rfl rfl (by decide) (by kernel_rfl) (by kernel_rfl)
theorem good41 : (ti 41).good Try.prog 41 := good_st (fs := #[fld "Vals" 37 0 0 ""]) (cs := #[.slice none 0 0]) rfl rfl rfl rfl (by decide) (by decide) (zOk_ok rfl) (by kernel_rfl) (by kernel_rfl) (by kernel_rfl)
theorem good45 : (ti 45).good Try.prog 45 := good_st (fs := #[fld "Ty" 3 0 0 "", fld "N" 3 1 8 "", fld "S" 9 2 16 ""]) (cs := #[.int .i64 0, .int .i64 0, .string ⟨#[]⟩]) rfl rfl rfl rfl (by decide) (by decide) (zOk_ok rfl) (by kernel_rfl) (by kernel_rfl) (by kernel_rfl)
theorem good48 : (ti 48).good Try.prog 48 := good_sl (zz := [.sc (.int .i64 0), .sc (.string ⟨#[]⟩), .ls [.sc (.int .i64 0), .sc (.int .i64 0), .sc (.string ⟨#[]⟩)] [], .ls [.sc (.int .i64 0), .sc (.int .i64 0), .sc (.string ⟨#[]⟩)] [], .sc (.int .i64 0), .sc (.string ⟨#[]⟩), .ls [.sc (.string ⟨#[]⟩), .sc (.int .i64 0), .sc (.bool false), .sc (.bool false), .sc (.int .i64 0), .sc (.int .i64 0), .sc (.string ⟨#[]⟩)] [], .ls [.sc (.string ⟨#[]⟩)] [], .sc (.string ⟨#[]⟩), .sc (.string ⟨#[]⟩), .ls [.sc (.string ⟨#[]⟩)] [], .ls [.sc (.string ⟨#[]⟩)] []]) rfl rfl rfl rfl (by decide) (by kernel_rfl) (by kernel_rfl)
theorem good50 : (ti 50).good Try.prog 50 := good_st (fs := #[fld "Lsn" 3 0 0 "", fld "Prev" 3 1 8 "", fld "Parts" 48 2 16 ""]) (cs := #[.int .i64 0, .int .i64 0, .slice none 0 0]) rfl rfl rfl rfl (by decide) (by decide) (zOk_ok rfl) (by kernel_rfl) (by kernel_rfl) (by kernel_rfl)
theorem good53 : (ti 53).good Try.prog 53 := good_sl (zz := [.sc (.int .i64 0), .sc (.string ⟨#[]⟩), .ls [.sc (.int .i64 0), .sc (.int .i64 0), .sc (.string ⟨#[]⟩)] [], .ls [.sc (.int .i64 0), .sc (.int .i64 0), .sc (.string ⟨#[]⟩)] [], .sc (.int .i64 0), .sc (.string ⟨#[]⟩), .ls [.sc (.string ⟨#[]⟩), .sc (.int .i64 0), .sc (.bool false), .sc (.bool false), .sc (.int .i64 0), .sc (.int .i64 0), .sc (.string ⟨#[]⟩)] [], .ls [.sc (.string ⟨#[]⟩)] [], .sc (.string ⟨#[]⟩), .sc (.string ⟨#[]⟩), .ls [.sc (.string ⟨#[]⟩)] [], .ls [.sc (.string ⟨#[]⟩)] []]) rfl rfl rfl rfl (by decide) (by kernel_rfl) (by kernel_rfl)
theorem good55 : (ti 55).good Try.prog 55 := good_st (fs := #[fld "Lsn" 3 0 0 "", fld "Prev" 3 1 8 "", fld "Parts" 53 2 16 ""]) (cs := #[.int .i64 0, .int .i64 0, .slice none 0 0]) rfl rfl rfl rfl (by decide) (by decide) (zOk_ok rfl) (by kernel_rfl) (by kernel_rfl) (by kernel_rfl)
theorem good76 : (ti 76).good Try.prog 76 := good_st (fs := #[fld "Name" 9 0 0 "", fld "Ty" 3 1 16 "", fld "Not" 4 2 24 "", fld "Has" 4 3 25 "", fld "Def" 45 4 32 ""]) (cs := #[.string ⟨#[]⟩, .int .i64 0, .bool false, .bool false, .int .i64 0, .int .i64 0, .string ⟨#[]⟩]) rfl rfl rfl rfl (by decide) (by decide) (zOk_ok rfl) (by kernel_rfl) (by kernel_rfl) (by kernel_rfl)
theorem good84 : (ti 84).good Try.prog 84 := good_st (fs := #[fld "Kind" 3 0 0 "", fld "Table" 9 1 8 "", fld "Cols" 34 2 24 "", fld "Keys" 33 3 48 "", fld "Name" 9 4 72 "", fld "To" 9 5 88 ""]) (cs := #[.int .i64 0, .string ⟨#[]⟩, .slice none 0 0, .slice none 0 0, .string ⟨#[]⟩, .string ⟨#[]⟩]) rfl rfl rfl rfl (by decide) (by decide) (zOk_ok rfl) (by kernel_rfl) (by kernel_rfl) (by kernel_rfl)
theorem good86 : (ti 86).good Try.prog 86 := good_st (fs := #[fld "Kind" 3 0 0 "", fld "Table" 9 1 8 "", fld "Key" 37 2 24 "", fld "Row" 41 3 48 "", fld "Ddl" 84 4 72 ""]) (cs := #[.int .i64 0, .string ⟨#[]⟩, .slice none 0 0, .slice none 0 0, .int .i64 0, .string ⟨#[]⟩, .slice none 0 0, .slice none 0 0, .string ⟨#[]⟩, .string ⟨#[]⟩]) rfl rfl rfl rfl (by decide) (by decide) (zOk_ok rfl) (by kernel_rfl) (by kernel_rfl) (by kernel_rfl)
theorem good88 : (ti 88).good Try.prog 88 := good_st (fs := #[fld "Stmt" 86 0 0 "", fld "Cols" 33 10 176 "", fld "Keys" 33 11 200 ""]) (cs := #[.int .i64 0, .string ⟨#[]⟩, .slice none 0 0, .slice none 0 0, .int .i64 0, .string ⟨#[]⟩, .slice none 0 0, .slice none 0 0, .string ⟨#[]⟩, .string ⟨#[]⟩, .slice none 0 0, .slice none 0 0]) rfl rfl rfl rfl (by decide) (by decide) (zOk_ok rfl) (by kernel_rfl) (by kernel_rfl) (by kernel_rfl)
theorem good97 : (ti 97).good Try.prog 97 := good_st (fs := #[fld "b" 22 0 0 "loop.example/g00462/spec", fld "i" 3 1 24 "loop.example/g00462/spec", fld "h" 3 2 32 "loop.example/g00462/spec"]) (cs := #[.slice none 0 0, .int .i64 0, .int .i64 0]) rfl rfl rfl rfl (by decide) (by decide) (zOk_ok rfl) (by kernel_rfl) (by kernel_rfl) (by kernel_rfl)
theorem good108 : (ti 108).good Try.prog 108 := good_sl (zz := [.sc (.int .i64 0), .sc (.int .i64 0), .sc (.string ⟨#[]⟩)]) rfl rfl rfl rfl (by decide) (by kernel_rfl) (by kernel_rfl)
theorem good110 : (ti 110).good Try.prog 110 := good_st (fs := #[fld "Vals" 108 0 0 ""]) (cs := #[.slice none 0 0]) rfl rfl rfl rfl (by decide) (by decide) (zOk_ok rfl) (by kernel_rfl) (by kernel_rfl) (by kernel_rfl)
theorem good111 : (ti 111).good Try.prog 111 := good_sl (zz := [.sc (.string ⟨#[]⟩), .sc (.int .i64 0), .sc (.bool false), .sc (.bool false), .sc (.int .i64 0), .sc (.int .i64 0), .sc (.string ⟨#[]⟩)]) rfl rfl rfl rfl (by decide) (by kernel_rfl) (by kernel_rfl)
theorem good113 : (ti 113).good Try.prog 113 := good_st (fs := #[fld "Kind" 3 0 0 "", fld "Table" 9 1 8 "", fld "Cols" 111 2 24 "", fld "Keys" 33 3 48 "", fld "Name" 9 4 72 "", fld "To" 9 5 88 ""]) (cs := #[.int .i64 0, .string ⟨#[]⟩, .slice none 0 0, .slice none 0 0, .string ⟨#[]⟩, .string ⟨#[]⟩]) rfl rfl rfl rfl (by decide) (by decide) (zOk_ok rfl) (by kernel_rfl) (by kernel_rfl) (by kernel_rfl)
theorem good115 : (ti 115).good Try.prog 115 := good_st (fs := #[fld "Kind" 3 0 0 "", fld "Table" 9 1 8 "", fld "Key" 108 2 24 "", fld "Row" 110 3 48 "", fld "Ddl" 113 4 72 ""]) (cs := #[.int .i64 0, .string ⟨#[]⟩, .slice none 0 0, .slice none 0 0, .int .i64 0, .string ⟨#[]⟩, .slice none 0 0, .slice none 0 0, .string ⟨#[]⟩, .string ⟨#[]⟩]) rfl rfl rfl rfl (by decide) (by decide) (zOk_ok rfl) (by kernel_rfl) (by kernel_rfl) (by kernel_rfl)
theorem good117 : (ti 117).good Try.prog 117 := good_st (fs := #[fld "Stmt" 115 0 0 "", fld "Cols" 33 10 176 "", fld "Keys" 33 11 200 ""]) (cs := #[.int .i64 0, .string ⟨#[]⟩, .slice none 0 0, .slice none 0 0, .int .i64 0, .string ⟨#[]⟩, .slice none 0 0, .slice none 0 0, .string ⟨#[]⟩, .string ⟨#[]⟩, .slice none 0 0, .slice none 0 0]) rfl rfl rfl rfl (by decide) (by decide) (zOk_ok rfl) (by kernel_rfl) (by kernel_rfl) (by kernel_rfl)
theorem good125 : (ti 125).good Try.prog 125 := good_sc (v := .int .u64 0) rfl rfl rfl rfl (by decide) rfl (by intro _ _ h; cases h) (by kernel_rfl) (by kernel_rfl) (fun _ => rfl)
theorem good154 : (ti 154).good Try.prog 154 := good_st (fs := #[fld "Ty" 3 0 0 "", fld "N" 3 1 8 "", fld "S" 9 2 16 ""]) (cs := #[.int .i64 0, .int .i64 0, .string ⟨#[]⟩]) rfl rfl rfl rfl (by decide) (by decide) (zOk_ok rfl) (by kernel_rfl) (by kernel_rfl) (by kernel_rfl)
theorem good164 : (ti 164).good Try.prog 164 := good_st (fs := #[fld "Name" 9 0 0 "", fld "Ty" 3 1 16 "", fld "Not" 4 2 24 "", fld "Has" 4 3 25 "", fld "Def" 154 4 32 ""]) (cs := #[.string ⟨#[]⟩, .int .i64 0, .bool false, .bool false, .int .i64 0, .int .i64 0, .string ⟨#[]⟩]) rfl rfl rfl rfl (by decide) (by decide) (zOk_ok rfl) (by kernel_rfl) (by kernel_rfl) (by kernel_rfl)
theorem good174 : (ti 174).good Try.prog 174 := good_sc (v := .int .u32 0) rfl rfl rfl rfl (by decide) rfl (by intro _ _ h; cases h) (by kernel_rfl) (by kernel_rfl) (fun _ => rfl)
theorem eq9 : eqAt Try.prog (ti 9) 9 1 := eqAt_str (s := ⟨#[]⟩) rfl rfl (by kernel_rfl)
theorem eq3 : eqAt Try.prog (ti 3) 3 1 := eqAt_int (n := 0) rfl rfl (by kernel_rfl)
theorem eq29 : eqAt Try.prog (ti 29) 29 2 := eqAt_st (fs := [fld "Name" 9 0 0 "", fld "At" 3 1 16 ""]) (by kernel_rfl) (by kernel_rfl) (by kernel_rfl) rfl ⟨by decide, rfl, good9, rfl, rfl, eqAt_up eq9 (by decide), ⟨by decide, rfl, good3, rfl, rfl, eqAt_up eq3 (by decide), rfl⟩⟩
theorem eq45 : eqAt Try.prog (ti 45) 45 2 := eqAt_st (fs := [fld "Ty" 3 0 0 "", fld "N" 3 1 8 "", fld "S" 9 2 16 ""]) (by kernel_rfl) (by kernel_rfl) (by kernel_rfl) rfl ⟨by decide, rfl, good3, rfl, rfl, eqAt_up eq3 (by decide), ⟨by decide, rfl, good3, rfl, rfl, eqAt_up eq3 (by decide), ⟨by decide, rfl, good9, rfl, rfl, eqAt_up eq9 (by decide), rfl⟩⟩⟩
theorem eq4 : eqAt Try.prog (ti 4) 4 1 := eqAt_bool (s := false) rfl rfl (by kernel_rfl)
theorem eq76 : eqAt Try.prog (ti 76) 76 3 := eqAt_st (fs := [fld "Name" 9 0 0 "", fld "Ty" 3 1 16 "", fld "Not" 4 2 24 "", fld "Has" 4 3 25 "", fld "Def" 45 4 32 ""]) (by kernel_rfl) (by kernel_rfl) (by kernel_rfl) rfl ⟨by decide, rfl, good9, rfl, rfl, eqAt_up eq9 (by decide), ⟨by decide, rfl, good3, rfl, rfl, eqAt_up eq3 (by decide), ⟨by decide, rfl, good4, rfl, rfl, eqAt_up eq4 (by decide), ⟨by decide, rfl, good4, rfl, rfl, eqAt_up eq4 (by decide), ⟨by decide, rfl, good45, rfl, rfl, eqAt_up eq45 (by decide), rfl⟩⟩⟩⟩⟩
theorem good' : ∀ t, (ti t).ok = true → (ti t).good Try.prog t := by
  intro t h
  unfold ti at h
  split at h
  · exact good2
  · exact good3
  · exact good4
  · exact good5
  · exact good9
  · exact good21
  · exact good22
  · exact good23
  · exact good29
  · exact good33
  · exact good34
  · exact good36
  · exact good37
  · exact good41
  · exact good45
  · exact good48
  · exact good50
  · exact good53
  · exact good55
  · exact good76
  · exact good84
  · exact good86
  · exact good88
  · exact good97
  · exact good108
  · exact good110
  · exact good111
  · exact good113
  · exact good115
  · exact good117
  · exact good125
  · exact good154
  · exact good164
  · exact good174
  · cases h
theorem gooe : ∀ t, (ti t).eqb = true → eqAt Try.prog (ti t) t 5000 ∧ Try.prog.eqGuardType Try.prog.depth t = false := by
  intro t h
  have h0 := h
  unfold ti at h
  split at h
  · cases h
  · cases h
  · cases h
  · cases h
  · cases h
  · cases h
  · cases h
  · cases h
  · exact ⟨eqAt_up eq29 (by decide), by kernel_rfl⟩
  · cases h
  · cases h
  · cases h
  · cases h
  · cases h
  · exact ⟨eqAt_up eq45 (by decide), by kernel_rfl⟩
  · cases h
  · cases h
  · cases h
  · cases h
  · exact ⟨eqAt_up eq76 (by decide), by kernel_rfl⟩
  · cases h
  · cases h
  · cases h
  · cases h
  · cases h
  · cases h
  · cases h
  · cases h
  · cases h
  · cases h
  · cases h
  · cases h
  · cases h
  · cases h
  · cases h
theorem good : TGood Try.prog ti := ⟨good', gooe⟩
theorem cg2 : ckOk ti ck 2 := by simp [ckOk, ti, ck]
theorem cg3 : ckOk ti ck 3 := by simp [ckOk, ti, ck]
theorem cg4 : ckOk ti ck 4 := by simp [ckOk, ti, ck]
theorem cg5 : ckOk ti ck 5 := by simp [ckOk, ti, ck]
theorem cg9 : ckOk ti ck 9 := by simp [ckOk, ti, ck]
theorem cg21 : ckOk ti ck 21 := by simp [ckOk, ti, ck]
theorem cg22 : ckOk ti ck 22 := by simp [ckOk, ti, ck]
theorem cg23 : ckOk ti ck 23 := by simp [ckOk, ti, ck]
theorem cg29 : ckOk ti ck 29 := by simp [ckOk, ti, ck, contig]
theorem cg33 : ckOk ti ck 33 := by simp [ckOk, ti, ck]
theorem cg34 : ckOk ti ck 34 := by simp [ckOk, ti, ck]
theorem cg36 : ckOk ti ck 36 := by simp [ckOk, ti, ck, contig]
theorem cg37 : ckOk ti ck 37 := by simp [ckOk, ti, ck]
theorem cg41 : ckOk ti ck 41 := by simp [ckOk, ti, ck, contig]
theorem cg45 : ckOk ti ck 45 := by simp [ckOk, ti, ck, contig]
theorem cg48 : ckOk ti ck 48 := by simp [ckOk, ti, ck]
theorem cg50 : ckOk ti ck 50 := by simp [ckOk, ti, ck, contig]
theorem cg53 : ckOk ti ck 53 := by simp [ckOk, ti, ck]
theorem cg55 : ckOk ti ck 55 := by simp [ckOk, ti, ck, contig]
theorem cg76 : ckOk ti ck 76 := by simp [ckOk, ti, ck, contig]
theorem cg84 : ckOk ti ck 84 := by simp [ckOk, ti, ck, contig]
theorem cg86 : ckOk ti ck 86 := by simp [ckOk, ti, ck, contig]
theorem cg88 : ckOk ti ck 88 := by simp [ckOk, ti, ck, contig]
theorem cg97 : ckOk ti ck 97 := by simp [ckOk, ti, ck, contig]
theorem cg108 : ckOk ti ck 108 := by simp [ckOk, ti, ck]
theorem cg110 : ckOk ti ck 110 := by simp [ckOk, ti, ck, contig]
theorem cg111 : ckOk ti ck 111 := by simp [ckOk, ti, ck]
theorem cg113 : ckOk ti ck 113 := by simp [ckOk, ti, ck, contig]
theorem cg115 : ckOk ti ck 115 := by simp [ckOk, ti, ck, contig]
theorem cg117 : ckOk ti ck 117 := by simp [ckOk, ti, ck, contig]
theorem cg125 : ckOk ti ck 125 := by simp [ckOk, ti, ck]
theorem cg154 : ckOk ti ck 154 := by simp [ckOk, ti, ck, contig]
theorem cg164 : ckOk ti ck 164 := by simp [ckOk, ti, ck, contig]
theorem cg174 : ckOk ti ck 174 := by simp [ckOk, ti, ck]
theorem cgood : CGood ti ck := by
  intro t h
  unfold ti at h
  split at h
  · exact cg2
  · exact cg3
  · exact cg4
  · exact cg5
  · exact cg9
  · exact cg21
  · exact cg22
  · exact cg23
  · exact cg29
  · exact cg33
  · exact cg34
  · exact cg36
  · exact cg37
  · exact cg41
  · exact cg45
  · exact cg48
  · exact cg50
  · exact cg53
  · exact cg55
  · exact cg76
  · exact cg84
  · exact cg86
  · exact cg88
  · exact cg97
  · exact cg108
  · exact cg110
  · exact cg111
  · exact cg113
  · exact cg115
  · exact cg117
  · exact cg125
  · exact cg154
  · exact cg164
  · exact cg174
  · cases h
theorem hm : Try.prog.follows .mixedOrders = true := by kernel_rfl
end Go.Proofs.Yteeolohhmfjafaa

/-! YteeolohhmfjafaaTy -/
namespace Go.Proofs.Yteeolohhmfjafaa
open Go Go.Proofs Go.Sm
attribute [local simp] ti
set_option linter.unusedVariables false
set_option linter.unusedSimpArgs false

def wStr (s : ByteArray) : List Nat := [s.size]
def okStr (s : ByteArray) : Prop := okM s.size
theorem okw_Str (x : ByteArray) (h : okStr x) : ∀ n ∈ wStr x, okM n := by
  intro n hn
  rcases List.mem_singleton.1 hn with rfl
  exact h
theorem fit_Str (ls : List Lf) (h : Fit ti ck 9 ls) : ∃ x : ByteArray, ls = eStr x ∧ okStr x := by
  obtain ⟨x, r, rfl, h1, h2⟩ := All2.cons_inv h
  obtain rfl := All2.nil_inv h2
  obtain ⟨s, rfl, hs⟩ := h1.str_inv
  exact ⟨s, rfl, hs⟩

structure GVal where
  fTy : Int
  fN : Int
  fS : ByteArray
def eVal (x : GVal) : List Lf := [.sc (.int .i64 x.fTy), .sc (.int .i64 x.fN), .sc (.string x.fS)]
def cVal (x : GVal) : List LV := [.s (.sc (.int .i64 x.fTy)), .s (.sc (.int .i64 x.fN)), .s (.sc (.string x.fS))]
def vVal (x : GVal) : SV := .v true [.s (.sc (.int .i64 x.fTy)), .s (.sc (.int .i64 x.fN)), .s (.sc (.string x.fS))]
def dVal : GVal := ⟨0, 0, ⟨#[]⟩⟩
@[simp] theorem row_Val (l : List GVal) (i : Nat) : (Option.map eVal l[i]?).getD [.sc (.int .i64 0), .sc (.int .i64 0), .sc (.string ⟨#[]⟩)] = eVal (l[i]?.getD dVal) := by cases l[i]? <;> rfl
def wVal (x : GVal) : List Nat := x.fS.size :: ([])
def okVal (x : GVal) : Prop := okI x.fTy ∧ okI x.fN ∧ okM x.fS.size ∧ True
theorem okw_Val (x : GVal) (h : okVal x) : ∀ n ∈ wVal x, okM n := by
  obtain ⟨h0, h1, h2, _⟩ := h
  intro n hn
  simp only [wVal, List.mem_cons, List.mem_append, List.not_mem_nil, or_false, false_or] at hn
  rcases hn with rfl
  · exact h2
theorem fit_Val (ls : List Lf) (h : Fit ti ck 154 ls) : ∃ x : GVal, ls = eVal x ∧ okVal x := by
  obtain ⟨c0, r0, rfl, h0, g0⟩ := All2.cons_inv h
  obtain ⟨a0, rfl, b0⟩ := h0.int_inv
  obtain ⟨c1, r1, rfl, h1, g1⟩ := All2.cons_inv g0
  obtain ⟨a1, rfl, b1⟩ := h1.int_inv
  obtain ⟨c2, r2, rfl, h2, g2⟩ := All2.cons_inv g1
  obtain ⟨a2, rfl, b2⟩ := h2.str_inv
  obtain rfl := All2.nil_inv g2
  exact ⟨⟨a0, a1, a2⟩, rfl, ⟨okI_wf b0, okI_wf b1, b2, trivial⟩⟩
def mVal (x : GVal) : ML := [(.s, .sc (.int .i64 x.fTy)), (.s, .sc (.int .i64 x.fN)), (.s, .sc (.string x.fS))]
set_option maxHeartbeats 1000000 in
set_option maxRecDepth 8000 in
theorem szVal_ok (x : GVal) (left : Int) (h0 : 0 ≤ left) (h1 : left ≤ 1048576) (hs : ∀ n ∈ wVal x, okM n) : VC Try.prog 129 [vVal x, int .i64 left] [(false, [(.s, .sc (.int .i64 (szL (wVal x) left)))])] := by
  refine vc_of_ew good hm [0,1,2,4,11] Try.func129 rfl (by kernel_rfl) (by kernel_rfl) rfl ?_
  simp [Try.f129, vVal]
  have hb0 : x.fS.size ≤ 9223372036854775807 := hs _ (by simp [wVal])
  rw [wrapI (i := left - (x.fS.size : Nat)) (by omega) (by omega)]
  by_cases hn : (left - (x.fS.size : Nat)) < 0
  · have e : szL (wVal x) left = -1 := by rw [wVal, szL, if_pos hn]
    rw [e]
    try omega
  · have e : szL (wVal x) left = (left - (x.fS.size : Nat)) := by rw [wVal, szL, if_neg hn]; rfl
    rw [e]
    try omega
set_option maxHeartbeats 1000000 in
set_option maxRecDepth 8000 in
theorem toVal_ok (x : GVal) (hs : ∀ n ∈ wVal x, n ≤ 1048576) : VC Try.prog 132 [vVal x] [(true, mVal x)] := by
  refine vc_of_ew good hm [0,1,2,3] Try.func132 rfl (by kernel_rfl) (by kernel_rfl) rfl ?_
  simp [Try.f132, vVal, mVal]
set_option maxHeartbeats 1000000 in
set_option maxRecDepth 8000 in
theorem eqVal_ok (x : GVal) (hs : ∀ n ∈ wVal x, n ≤ 1048576) : VC Try.prog 136 [vVal x, vVal x] [(false, [(.s, .sc (.bool true))])] := by
  refine vc_of_ew good hm [0,1,2,3,4,9,14,19] Try.func136 rfl (by kernel_rfl) (by kernel_rfl) rfl ?_
  simp [Try.f136, vVal]

def vValS (l : List GVal) : SV := list [.sc (.int .i64 0), .sc (.int .i64 0), .sc (.string ⟨#[]⟩)] (l.map eVal)
def wValS (l : List GVal) : List Nat := l.length :: l.flatMap wVal
def okValS (l : List GVal) : Prop := okM l.length ∧ ∀ a ∈ l, okVal a
theorem okw_ValS (l : List GVal) (h : okValS l) : ∀ n ∈ wValS l, okM n := by
  intro n hn
  rcases List.mem_cons.1 hn with rfl | hn
  · exact h.1
  · obtain ⟨a, ha, hn⟩ := List.mem_flatMap.1 hn
    exact okw_Val a (h.2 a ha) n hn
def mValS (x : List GVal) : ML := [(.o 45 (fun _ => [.s, .s, .s]), .ls [.sc (.int .i64 0), .sc (.int .i64 0), .sc (.string ⟨#[]⟩)] (x.map eVal))]
@[simp] theorem ow_ValS (l : List GVal) : Ow (.o 45 (fun _ => [.s, .s, .s])) (.ls [.sc (.int .i64 0), .sc (.int .i64 0), .sc (.string ⟨#[]⟩)] (l.map eVal)) = True := eq_true (Ow_rows (fun x j hj => match j, hj with | 0, _ => .sc | 1, _ => .sc | 2, _ => .sc | n + 3, hj => absurd hj (by simp)) l)
@[simp] theorem full_ValS (l : List GVal) : Full (.o 45 (fun _ => [.s, .s, .s])) (.ls [.sc (.int .i64 0), .sc (.int .i64 0), .sc (.string ⟨#[]⟩)] (l.map eVal)) = True := eq_true (Full_rows (fun x j hj => match j, hj with | 0, _ => .s | 1, _ => .s | 2, _ => .s | n + 3, hj => absurd hj (by simp)) l)
set_option maxHeartbeats 1000000 in
set_option maxRecDepth 8000 in
theorem szValS_ok (x : List GVal) (left : Int) (h0 : 0 ≤ left) (h1 : left ≤ 1048576) (hs : ∀ n ∈ wValS x, okM n) : VC Try.prog 112 [vValS x, int .i64 left] [(false, [(.s, .sc (.int .i64 (szL (wValS x) left)))])] := by
  refine vc_of_ew good hm [0,1,4,11,5,15,25] Try.func112 rfl (by kernel_rfl) (by kernel_rfl) rfl ?_
  have hl : x.length ≤ 9223372036854775807 := hs _ (by simp [wValS])
  simp [Try.f112, vValS]
  rw [wrapI (i := left - x.length) (by omega) (by omega)]
  refine ⟨fun h => by simp [wValS, szL, h], fun hk => ?_⟩
  refine ew_loop (fun E => ∃ i : Nat, i ≤ x.length ∧ 0 ≤ szL ((x.take i).flatMap wVal) (left - x.length) ∧ E = { nt := 27, sl := [(0, vValS x), (1, int .i64 (szL ((x.take i).flatMap wVal) (left - x.length))), (5, int .i64 i)], bx := [], rt := [] }) (fun E => x.length - (E.num 5).toNat) _ (Gh.keep _ [0,1,5]) ⟨0, by omega, by simp [szL]; omega, by simp [szL, vValS]⟩ ?_
  rintro E1 ⟨i, hi, hr0, rfl⟩
  have hr1 := szL_le' (l := (x.take i).flatMap wVal) (left := left - x.length) (by omega)
  simp [vValS, eVal]
  refine ⟨fun h => ?_, fun h => ?_⟩
  · obtain ⟨q1, q2⟩ := szF_step wVal (dVal) h (by omega : 0 ≤ left - x.length) hr0
    have hm : ∀ n ∈ wVal (x[i]?.getD (dVal)), okM n := fun n hn => hs n (List.mem_cons_of_mem _ (mem_flat h hn))
    have hn1 := szL_neg (wVal (x[i]?.getD (dVal))) _ hr0
    refine ⟨h, .of (szVal_ok _ _ hr0 (by omega) hm) ?_⟩
    simp
    refine ⟨fun h2 => ?_, fun h2 => .of _ (Gh.keep _ [0,1,5]) ⟨i + 1, by omega, ?_, ?_⟩ ?_⟩
    · rw [wValS, szL, if_neg (by omega), q1 h2]
    · rw [q2]; exact h2
    · rw [q2]; simp [wrapS (show i < 9223372036854775807 by omega)]
    · simp [wrapS (show i < 9223372036854775807 by omega)]; omega
  · rw [wValS, szL, if_neg (by omega), List.take_of_length_le (by simpa using h)]
set_option maxHeartbeats 1000000 in
set_option maxRecDepth 8000 in
theorem toValS_ok (x : List GVal) (hs : ∀ n ∈ wValS x, n ≤ 1048576) : VC Try.prog 119 [vValS x] [(false, mValS x)] := by
  refine vc_of_ew good hm [0,2,3,4,11] Try.func119 rfl (by kernel_rfl) (by kernel_rfl) rfl ?_
  have hl : x.length ≤ 1048576 := hs _ (by simp [wValS])
  simp [Try.f119, vValS, mValS]
  refine ⟨by omega, ?_⟩
  refine ew_loop (fun E => ∃ i : Nat, i ≤ x.length ∧ E = { nt := 23, sl := [(0, vValS x), (3, .v false [.r [7]]), (4, int .i64 i)], bx := [], rt := [(7, .o 45 (fun _ => [.s, .s, .s]), .ls [.sc (.int .i64 0), .sc (.int .i64 0), .sc (.string ⟨#[]⟩)] (fillR [.sc (.int .i64 0), .sc (.int .i64 0), .sc (.string ⟨#[]⟩)] (x.map eVal) i))] }) (fun E => x.length - (E.num 4).toNat) _ (Gh.keep _ [0,3,4]) ⟨0, by omega, by simp [vValS, fillR]⟩ ?_
  rintro E1 ⟨i, hi, rfl⟩
  have hfl : (fillR [.sc (.int .i64 0), .sc (.int .i64 0), .sc (.string ⟨#[]⟩)] (x.map eVal) i).length = x.length := by rw [fillR_len _ _ (by simpa using hi)]; simp
  simp [vValS, eVal] at hfl ⊢
  try simp [hfl]
  refine ⟨fun h => ⟨h, .of (toVal_ok (x[i]?.getD dVal) (fun n hn => hs n (List.mem_cons_of_mem _ (mem_flat (wt := wVal) h hn)))) ?_⟩, fun h => fillR_all _ _ (by simpa using h)⟩
  simp [mVal]
  try simp [hfl, h]
  refine .of _ (Gh.keep _ [0,3,4]) ⟨i + 1, by omega, ?_⟩ ?_
  · have := fillR_set [.sc (.int .i64 0), .sc (.int .i64 0), .sc (.string ⟨#[]⟩)] (x.map eVal) (i := i) (by simpa using h)
    simp [wrapS (show i < 9223372036854775807 by omega), vValS, eVal, h] at this ⊢
    rw [← this]
  · simp [wrapS (show i < 9223372036854775807 by omega)]; omega
set_option maxHeartbeats 1000000 in
set_option maxRecDepth 8000 in
theorem eqValS_ok (x : List GVal) (hs : ∀ n ∈ wValS x, n ≤ 1048576) : VC Try.prog 125 [vValS x, vValS x] [(false, [(.s, .sc (.bool true))])] := by
  refine vc_of_ew good hm [0,1,4,10,5,14,26] Try.func125 rfl (by kernel_rfl) (by kernel_rfl) rfl ?_
  have hl : x.length ≤ 1048576 := hs _ (by simp [wValS])
  simp [Try.f125, vValS]
  refine ew_loop (fun E => ∃ i : Nat, i ≤ x.length ∧ E = { nt := 27, sl := [(0, vValS x), (1, vValS x), (5, int .i64 i)], bx := [], rt := [] }) (fun E => x.length - (E.num 5).toNat) _ (Gh.keep _ [0,1,5]) ⟨0, by omega, by simp [vValS]⟩ ?_
  rintro E1 ⟨i, hi, rfl⟩
  simp [vValS, eVal]
  intro h
  refine ⟨h, .of (eqVal_ok (x[i]?.getD dVal) (fun n hn => hs n (List.mem_cons_of_mem _ (mem_flat (wt := wVal) h hn)))) ?_⟩
  simp
  refine .of _ (Gh.keep _ [0,1,5]) ⟨i + 1, by omega, ?_⟩ ?_
  · simp [wrapS (show i < 9223372036854775807 by omega), vValS]
  · simp [wrapS (show i < 9223372036854775807 by omega)]; omega

structure GRow where
  fVals : List GVal
def vRow (x : GRow) : SV := .v true [.s (.ls [.sc (.int .i64 0), .sc (.int .i64 0), .sc (.string ⟨#[]⟩)] (x.fVals.map eVal))]
def wRow (x : GRow) : List Nat := wValS x.fVals ++ ([])
def okRow (x : GRow) : Prop := okValS x.fVals ∧ True
theorem okw_Row (x : GRow) (h : okRow x) : ∀ n ∈ wRow x, okM n := by
  obtain ⟨h0, _⟩ := h
  intro n hn
  simp only [wRow, List.mem_cons, List.mem_append, List.not_mem_nil, or_false, false_or] at hn
  rcases hn with hn
  · exact okw_ValS _ h0 n hn
def mRow (x : GRow) : ML := [(.o 45 (fun _ => [.s, .s, .s]), .ls [.sc (.int .i64 0), .sc (.int .i64 0), .sc (.string ⟨#[]⟩)] (x.fVals.map eVal))]
set_option maxHeartbeats 1000000 in
set_option maxRecDepth 8000 in
theorem szRow_ok (x : GRow) (left : Int) (h0 : 0 ≤ left) (h1 : left ≤ 1048576) (hs : ∀ n ∈ wRow x, okM n) : VC Try.prog 113 [vRow x, int .i64 left] [(false, [(.s, .sc (.int .i64 (szL (wRow x) left)))])] := by
  refine vc_of_ew good hm [0,1,2,4,10] Try.func113 rfl (by kernel_rfl) (by kernel_rfl) rfl ?_
  simp [Try.f113, vRow]
  refine .of (szValS_ok x.fVals left (by omega) (by omega) (fun n hn => hs n (by simp [wRow, hn]))) ?_
  simp
  have hb0 := szL_le' (l := wValS x.fVals) (left := left) (by omega)
  have hc0 := szL_neg (wValS x.fVals) left (by omega)
  by_cases hn : (szL (wValS x.fVals) left) < 0
  · have e : szL (wRow x) left = -1 := by rw [wRow, szL_app _ _ _ h0, if_pos hn]
    rw [e]
    try omega
  · have e : szL (wRow x) left = (szL (wValS x.fVals) left) := by rw [wRow, szL_app _ _ _ h0, if_neg hn]; rfl
    rw [e]
    try omega
set_option maxHeartbeats 1000000 in
set_option maxRecDepth 8000 in
theorem toRow_ok (x : GRow) (hs : ∀ n ∈ wRow x, n ≤ 1048576) : VC Try.prog 120 [vRow x] [(true, mRow x)] := by
  refine vc_of_ew good hm [0,1,2,3] Try.func120 rfl (by kernel_rfl) (by kernel_rfl) rfl ?_
  simp [Try.f120, vRow, mRow]
  refine .of (toValS_ok x.fVals (fun n hn => hs n (by simp [wRow, hn]))) ?_
  simp [mValS]
set_option maxHeartbeats 1000000 in
set_option maxRecDepth 8000 in
theorem eqRow_ok (x : GRow) (hs : ∀ n ∈ wRow x, n ≤ 1048576) : VC Try.prog 126 [vRow x, vRow x] [(false, [(.s, .sc (.bool true))])] := by
  refine vc_of_ew good hm [0,1,2,3,4,10] Try.func126 rfl (by kernel_rfl) (by kernel_rfl) rfl ?_
  simp [Try.f126, vRow]
  refine .of (eqValS_ok x.fVals (fun n hn => hs n (by simp [wRow, hn]))) ?_
  simp

structure GCol where
  fName : ByteArray
  fTy : Int
  fNot : Bool
  fHas : Bool
  fDef : GVal
def eCol (x : GCol) : List Lf := [.sc (.string x.fName), .sc (.int .i64 x.fTy), .sc (.bool x.fNot), .sc (.bool x.fHas), .sc (.int .i64 x.fDef.fTy), .sc (.int .i64 x.fDef.fN), .sc (.string x.fDef.fS)]
def vCol (x : GCol) : SV := .v true [.s (.sc (.string x.fName)), .s (.sc (.int .i64 x.fTy)), .s (.sc (.bool x.fNot)), .s (.sc (.bool x.fHas)), .s (.sc (.int .i64 x.fDef.fTy)), .s (.sc (.int .i64 x.fDef.fN)), .s (.sc (.string x.fDef.fS))]
def dCol : GCol := ⟨⟨#[]⟩, 0, false, false, ⟨0, 0, ⟨#[]⟩⟩⟩
@[simp] theorem row_Col (l : List GCol) (i : Nat) : (Option.map eCol l[i]?).getD [.sc (.string ⟨#[]⟩), .sc (.int .i64 0), .sc (.bool false), .sc (.bool false), .sc (.int .i64 0), .sc (.int .i64 0), .sc (.string ⟨#[]⟩)] = eCol (l[i]?.getD dCol) := by cases l[i]? <;> rfl
def wCol (x : GCol) : List Nat := x.fName.size :: (wVal x.fDef ++ ([]))
def okCol (x : GCol) : Prop := okM x.fName.size ∧ okI x.fTy ∧ okVal x.fDef ∧ True
theorem okw_Col (x : GCol) (h : okCol x) : ∀ n ∈ wCol x, okM n := by
  obtain ⟨h0, h1, h4, _⟩ := h
  intro n hn
  simp only [wCol, List.mem_cons, List.mem_append, List.not_mem_nil, or_false, false_or] at hn
  rcases hn with rfl | hn
  · exact h0
  · exact okw_Val _ h4 n hn
theorem fit_Col (ls : List Lf) (h : Fit ti ck 164 ls) : ∃ x : GCol, ls = eCol x ∧ okCol x := by
  obtain ⟨c0, r0, rfl, h0, g0⟩ := All2.cons_inv h
  obtain ⟨a0, rfl, b0⟩ := h0.str_inv
  obtain ⟨c1, r1, rfl, h1, g1⟩ := All2.cons_inv g0
  obtain ⟨a1, rfl, b1⟩ := h1.int_inv
  obtain ⟨c2, r2, rfl, h2, g2⟩ := All2.cons_inv g1
  obtain ⟨a2, rfl⟩ := h2.bool_inv
  obtain ⟨c3, r3, rfl, h3, g3⟩ := All2.cons_inv g2
  obtain ⟨a3, rfl⟩ := h3.bool_inv
  obtain ⟨c4, r4, rfl, h4, g4⟩ := All2.cons_inv g3
  obtain ⟨a4, rfl, b4⟩ := h4.int_inv
  obtain ⟨c5, r5, rfl, h5, g5⟩ := All2.cons_inv g4
  obtain ⟨a5, rfl, b5⟩ := h5.int_inv
  obtain ⟨c6, r6, rfl, h6, g6⟩ := All2.cons_inv g5
  obtain ⟨a6, rfl, b6⟩ := h6.str_inv
  obtain rfl := All2.nil_inv g6
  exact ⟨⟨a0, a1, a2, a3, ⟨a4, a5, a6⟩⟩, rfl, ⟨b0, okI_wf b1, ⟨okI_wf b4, okI_wf b5, b6, trivial⟩, trivial⟩⟩
def mCol (x : GCol) : ML := [(.s, .sc (.string x.fName)), (.s, .sc (.int .i64 x.fTy)), (.s, .sc (.bool x.fNot)), (.s, .sc (.bool x.fHas)), (.s, .sc (.int .i64 x.fDef.fTy)), (.s, .sc (.int .i64 x.fDef.fN)), (.s, .sc (.string x.fDef.fS))]
set_option maxHeartbeats 1000000 in
set_option maxRecDepth 8000 in
theorem szCol_ok (x : GCol) (left : Int) (h0 : 0 ≤ left) (h1 : left ≤ 1048576) (hs : ∀ n ∈ wCol x, okM n) : VC Try.prog 138 [vCol x, int .i64 left] [(false, [(.s, .sc (.int .i64 (szL (wCol x) left)))])] := by
  refine vc_of_ew good hm [0,1,2,4,11,17] Try.func138 rfl (by kernel_rfl) (by kernel_rfl) rfl ?_
  simp [Try.f138, vCol]
  have hb0 : x.fName.size ≤ 9223372036854775807 := hs _ (by simp [wCol])
  rw [wrapI (i := left - (x.fName.size : Nat)) (by omega) (by omega)]
  refine ⟨fun hn => ?_, fun hk0 => ?_⟩
  · have e : szL (wCol x) left = -1 := by rw [wCol, szL, if_pos (by omega)]
    rw [e]
    try omega
  have hq0 : ¬ (left - (x.fName.size : Nat)) < 0 := by omega
  have hz0 : 0 ≤ (left - (x.fName.size : Nat)) := by omega
  refine .of (szVal_ok x.fDef (left - (x.fName.size : Nat)) (by omega) (by omega) (fun n hn => hs n (by simp [wCol, hn]))) ?_
  simp
  have hb1 := szL_le' (l := wVal x.fDef) (left := (left - (x.fName.size : Nat))) (by omega)
  have hc1 := szL_neg (wVal x.fDef) (left - (x.fName.size : Nat)) (by omega)
  by_cases hn : (szL (wVal x.fDef) (left - (x.fName.size : Nat))) < 0
  · have e : szL (wCol x) left = -1 := by rw [wCol, szL, if_neg hq0, szL_app _ _ _ hz0, if_pos hn]
    rw [e]
    try omega
  · have e : szL (wCol x) left = (szL (wVal x.fDef) (left - (x.fName.size : Nat))) := by rw [wCol, szL, if_neg hq0, szL_app _ _ _ hz0, if_neg hn]; rfl
    rw [e]
    try omega
set_option maxHeartbeats 1000000 in
set_option maxRecDepth 8000 in
theorem toCol_ok (x : GCol) (hs : ∀ n ∈ wCol x, n ≤ 1048576) : VC Try.prog 139 [vCol x] [(true, mCol x)] := by
  refine vc_of_ew good hm [0,1,2,3] Try.func139 rfl (by kernel_rfl) (by kernel_rfl) rfl ?_
  simp [Try.f139, vCol, mCol]
  refine .of (toVal_ok x.fDef (fun n hn => hs n (by simp [wCol, hn]))) ?_
  simp [mVal]
set_option maxHeartbeats 1000000 in
set_option maxRecDepth 8000 in
theorem eqCol_ok (x : GCol) (hs : ∀ n ∈ wCol x, n ≤ 1048576) : VC Try.prog 141 [vCol x, vCol x] [(false, [(.s, .sc (.bool true))])] := by
  refine vc_of_ew good hm [0,1,2,3,4,9,14,19,24,30] Try.func141 rfl (by kernel_rfl) (by kernel_rfl) rfl ?_
  simp [Try.f141, vCol]
  refine .of (eqVal_ok x.fDef (fun n hn => hs n (by simp [wCol, hn]))) ?_
  simp

def vColS (l : List GCol) : SV := list [.sc (.string ⟨#[]⟩), .sc (.int .i64 0), .sc (.bool false), .sc (.bool false), .sc (.int .i64 0), .sc (.int .i64 0), .sc (.string ⟨#[]⟩)] (l.map eCol)
def wColS (l : List GCol) : List Nat := l.length :: l.flatMap wCol
def okColS (l : List GCol) : Prop := okM l.length ∧ ∀ a ∈ l, okCol a
theorem okw_ColS (l : List GCol) (h : okColS l) : ∀ n ∈ wColS l, okM n := by
  intro n hn
  rcases List.mem_cons.1 hn with rfl | hn
  · exact h.1
  · obtain ⟨a, ha, hn⟩ := List.mem_flatMap.1 hn
    exact okw_Col a (h.2 a ha) n hn
def mColS (x : List GCol) : ML := [(.o 76 (fun _ => [.s, .s, .s, .s, .s, .s, .s]), .ls [.sc (.string ⟨#[]⟩), .sc (.int .i64 0), .sc (.bool false), .sc (.bool false), .sc (.int .i64 0), .sc (.int .i64 0), .sc (.string ⟨#[]⟩)] (x.map eCol))]
@[simp] theorem ow_ColS (l : List GCol) : Ow (.o 76 (fun _ => [.s, .s, .s, .s, .s, .s, .s])) (.ls [.sc (.string ⟨#[]⟩), .sc (.int .i64 0), .sc (.bool false), .sc (.bool false), .sc (.int .i64 0), .sc (.int .i64 0), .sc (.string ⟨#[]⟩)] (l.map eCol)) = True := eq_true (Ow_rows (fun x j hj => match j, hj with | 0, _ => .sc | 1, _ => .sc | 2, _ => .sc | 3, _ => .sc | 4, _ => .sc | 5, _ => .sc | 6, _ => .sc | n + 7, hj => absurd hj (by simp)) l)
@[simp] theorem full_ColS (l : List GCol) : Full (.o 76 (fun _ => [.s, .s, .s, .s, .s, .s, .s])) (.ls [.sc (.string ⟨#[]⟩), .sc (.int .i64 0), .sc (.bool false), .sc (.bool false), .sc (.int .i64 0), .sc (.int .i64 0), .sc (.string ⟨#[]⟩)] (l.map eCol)) = True := eq_true (Full_rows (fun x j hj => match j, hj with | 0, _ => .s | 1, _ => .s | 2, _ => .s | 3, _ => .s | 4, _ => .s | 5, _ => .s | 6, _ => .s | n + 7, hj => absurd hj (by simp)) l)
set_option maxHeartbeats 1000000 in
set_option maxRecDepth 8000 in
theorem szColS_ok (x : List GCol) (left : Int) (h0 : 0 ≤ left) (h1 : left ≤ 1048576) (hs : ∀ n ∈ wColS x, okM n) : VC Try.prog 130 [vColS x, int .i64 left] [(false, [(.s, .sc (.int .i64 (szL (wColS x) left)))])] := by
  refine vc_of_ew good hm [0,1,4,11,5,15,25] Try.func130 rfl (by kernel_rfl) (by kernel_rfl) rfl ?_
  have hl : x.length ≤ 9223372036854775807 := hs _ (by simp [wColS])
  simp [Try.f130, vColS]
  rw [wrapI (i := left - x.length) (by omega) (by omega)]
  refine ⟨fun h => by simp [wColS, szL, h], fun hk => ?_⟩
  refine ew_loop (fun E => ∃ i : Nat, i ≤ x.length ∧ 0 ≤ szL ((x.take i).flatMap wCol) (left - x.length) ∧ E = { nt := 27, sl := [(0, vColS x), (1, int .i64 (szL ((x.take i).flatMap wCol) (left - x.length))), (5, int .i64 i)], bx := [], rt := [] }) (fun E => x.length - (E.num 5).toNat) _ (Gh.keep _ [0,1,5]) ⟨0, by omega, by simp [szL]; omega, by simp [szL, vColS]⟩ ?_
  rintro E1 ⟨i, hi, hr0, rfl⟩
  have hr1 := szL_le' (l := (x.take i).flatMap wCol) (left := left - x.length) (by omega)
  simp [vColS, eCol]
  refine ⟨fun h => ?_, fun h => ?_⟩
  · obtain ⟨q1, q2⟩ := szF_step wCol (dCol) h (by omega : 0 ≤ left - x.length) hr0
    have hm : ∀ n ∈ wCol (x[i]?.getD (dCol)), okM n := fun n hn => hs n (List.mem_cons_of_mem _ (mem_flat h hn))
    have hn1 := szL_neg (wCol (x[i]?.getD (dCol))) _ hr0
    refine ⟨h, .of (szCol_ok _ _ hr0 (by omega) hm) ?_⟩
    simp
    refine ⟨fun h2 => ?_, fun h2 => .of _ (Gh.keep _ [0,1,5]) ⟨i + 1, by omega, ?_, ?_⟩ ?_⟩
    · rw [wColS, szL, if_neg (by omega), q1 h2]
    · rw [q2]; exact h2
    · rw [q2]; simp [wrapS (show i < 9223372036854775807 by omega)]
    · simp [wrapS (show i < 9223372036854775807 by omega)]; omega
  · rw [wColS, szL, if_neg (by omega), List.take_of_length_le (by simpa using h)]
set_option maxHeartbeats 1000000 in
set_option maxRecDepth 8000 in
theorem toColS_ok (x : List GCol) (hs : ∀ n ∈ wColS x, n ≤ 1048576) : VC Try.prog 133 [vColS x] [(false, mColS x)] := by
  refine vc_of_ew good hm [0,2,3,4,11] Try.func133 rfl (by kernel_rfl) (by kernel_rfl) rfl ?_
  have hl : x.length ≤ 1048576 := hs _ (by simp [wColS])
  simp [Try.f133, vColS, mColS]
  refine ⟨by omega, ?_⟩
  refine ew_loop (fun E => ∃ i : Nat, i ≤ x.length ∧ E = { nt := 23, sl := [(0, vColS x), (3, .v false [.r [7]]), (4, int .i64 i)], bx := [], rt := [(7, .o 76 (fun _ => [.s, .s, .s, .s, .s, .s, .s]), .ls [.sc (.string ⟨#[]⟩), .sc (.int .i64 0), .sc (.bool false), .sc (.bool false), .sc (.int .i64 0), .sc (.int .i64 0), .sc (.string ⟨#[]⟩)] (fillR [.sc (.string ⟨#[]⟩), .sc (.int .i64 0), .sc (.bool false), .sc (.bool false), .sc (.int .i64 0), .sc (.int .i64 0), .sc (.string ⟨#[]⟩)] (x.map eCol) i))] }) (fun E => x.length - (E.num 4).toNat) _ (Gh.keep _ [0,3,4]) ⟨0, by omega, by simp [vColS, fillR]⟩ ?_
  rintro E1 ⟨i, hi, rfl⟩
  have hfl : (fillR [.sc (.string ⟨#[]⟩), .sc (.int .i64 0), .sc (.bool false), .sc (.bool false), .sc (.int .i64 0), .sc (.int .i64 0), .sc (.string ⟨#[]⟩)] (x.map eCol) i).length = x.length := by rw [fillR_len _ _ (by simpa using hi)]; simp
  simp [vColS, eCol] at hfl ⊢
  try simp [hfl]
  refine ⟨fun h => ⟨h, .of (toCol_ok (x[i]?.getD dCol) (fun n hn => hs n (List.mem_cons_of_mem _ (mem_flat (wt := wCol) h hn)))) ?_⟩, fun h => fillR_all _ _ (by simpa using h)⟩
  simp [mCol]
  try simp [hfl, h]
  refine .of _ (Gh.keep _ [0,3,4]) ⟨i + 1, by omega, ?_⟩ ?_
  · have := fillR_set [.sc (.string ⟨#[]⟩), .sc (.int .i64 0), .sc (.bool false), .sc (.bool false), .sc (.int .i64 0), .sc (.int .i64 0), .sc (.string ⟨#[]⟩)] (x.map eCol) (i := i) (by simpa using h)
    simp [wrapS (show i < 9223372036854775807 by omega), vColS, eCol, h] at this ⊢
    rw [← this]
  · simp [wrapS (show i < 9223372036854775807 by omega)]; omega
set_option maxHeartbeats 1000000 in
set_option maxRecDepth 8000 in
theorem eqColS_ok (x : List GCol) (hs : ∀ n ∈ wColS x, n ≤ 1048576) : VC Try.prog 137 [vColS x, vColS x] [(false, [(.s, .sc (.bool true))])] := by
  refine vc_of_ew good hm [0,1,4,10,5,14,26] Try.func137 rfl (by kernel_rfl) (by kernel_rfl) rfl ?_
  have hl : x.length ≤ 1048576 := hs _ (by simp [wColS])
  simp [Try.f137, vColS]
  refine ew_loop (fun E => ∃ i : Nat, i ≤ x.length ∧ E = { nt := 27, sl := [(0, vColS x), (1, vColS x), (5, int .i64 i)], bx := [], rt := [] }) (fun E => x.length - (E.num 5).toNat) _ (Gh.keep _ [0,1,5]) ⟨0, by omega, by simp [vColS]⟩ ?_
  rintro E1 ⟨i, hi, rfl⟩
  simp [vColS, eCol]
  intro h
  refine ⟨h, .of (eqCol_ok (x[i]?.getD dCol) (fun n hn => hs n (List.mem_cons_of_mem _ (mem_flat (wt := wCol) h hn)))) ?_⟩
  simp
  refine .of _ (Gh.keep _ [0,1,5]) ⟨i + 1, by omega, ?_⟩ ?_
  · simp [wrapS (show i < 9223372036854775807 by omega), vColS]
  · simp [wrapS (show i < 9223372036854775807 by omega)]; omega

def vStrS (l : List ByteArray) : SV := list [.sc (.string ⟨#[]⟩)] (l.map eStr)
def wStrS (l : List ByteArray) : List Nat := l.length :: l.flatMap wStr
def okStrS (l : List ByteArray) : Prop := okM l.length ∧ ∀ a ∈ l, okStr a
theorem okw_StrS (l : List ByteArray) (h : okStrS l) : ∀ n ∈ wStrS l, okM n := by
  intro n hn
  rcases List.mem_cons.1 hn with rfl | hn
  · exact h.1
  · obtain ⟨a, ha, hn⟩ := List.mem_flatMap.1 hn
    exact okw_Str a (h.2 a ha) n hn
def mStrS (x : List ByteArray) : ML := [(.o 9 (fun _ => [.s]), .ls [.sc (.string ⟨#[]⟩)] (x.map eStr))]
@[simp] theorem ow_StrS (l : List ByteArray) : Ow (.o 9 (fun _ => [.s])) (.ls [.sc (.string ⟨#[]⟩)] (l.map eStr)) = True := eq_true (Ow_rows (fun x j hj => match j, hj with | 0, _ => .sc | n + 1, hj => absurd hj (by simp)) l)
@[simp] theorem full_StrS (l : List ByteArray) : Full (.o 9 (fun _ => [.s])) (.ls [.sc (.string ⟨#[]⟩)] (l.map eStr)) = True := eq_true (Full_rows (fun x j hj => match j, hj with | 0, _ => .s | n + 1, hj => absurd hj (by simp)) l)
set_option maxHeartbeats 1000000 in
set_option maxRecDepth 8000 in
theorem szStrS_ok (x : List ByteArray) (left : Int) (h0 : 0 ≤ left) (h1 : left ≤ 1048576) (hs : ∀ n ∈ wStrS x, okM n) : VC Try.prog 95 [vStrS x, int .i64 left] [(false, [(.s, .sc (.int .i64 (szL (wStrS x) left)))])] := by
  refine vc_of_ew good hm [0,1,4,11,5,15,26] Try.func95 rfl (by kernel_rfl) (by kernel_rfl) rfl ?_
  have hl : x.length ≤ 9223372036854775807 := hs _ (by simp [wStrS])
  simp [Try.f95, vStrS]
  rw [wrapI (i := left - x.length) (by omega) (by omega)]
  refine ⟨fun h => by simp [wStrS, szL, h], fun hk => ?_⟩
  refine ew_loop (fun E => ∃ i : Nat, i ≤ x.length ∧ 0 ≤ szL ((x.take i).flatMap wStr) (left - x.length) ∧ E = { nt := 28, sl := [(0, vStrS x), (1, int .i64 (szL ((x.take i).flatMap wStr) (left - x.length))), (5, int .i64 i)], bx := [], rt := [] }) (fun E => x.length - (E.num 5).toNat) _ (Gh.keep _ [0,1,5]) ⟨0, by omega, by simp [szL]; omega, by simp [szL, vStrS]⟩ ?_
  rintro E1 ⟨i, hi, hr0, rfl⟩
  have hr1 := szL_le' (l := (x.take i).flatMap wStr) (left := left - x.length) (by omega)
  simp [vStrS, eStr]
  refine ⟨fun h => ?_, fun h => ?_⟩
  · obtain ⟨q1, q2⟩ := szF_step wStr (⟨#[]⟩) h (by omega : 0 ≤ left - x.length) hr0
    have hm : ∀ n ∈ wStr (x[i]?.getD (⟨#[]⟩)), okM n := fun n hn => hs n (List.mem_cons_of_mem _ (mem_flat h hn))
    have hb : (x[i]?.getD (⟨#[]⟩ : ByteArray)).size ≤ 9223372036854775807 := hm _ (by simp [wStr])
    simp only [wStr, szL] at q1 q2
    try simp [eStr]
    rw [wrapI (i := szL ((x.take i).flatMap wStr) (left - x.length) - ((x[i]?.getD (⟨#[]⟩ : ByteArray)).size : Nat)) (by omega) (by omega)]
    refine ⟨h, fun h2 => ?_, fun h2 => .of _ (Gh.keep _ [0,1,5]) ⟨i + 1, by omega, ?_, ?_⟩ ?_⟩
    · simp [h2] at q1; rw [wStrS, szL, if_neg (by omega), q1]
    · rw [q2, if_neg (by omega)]; exact h2
    · rw [q2, if_neg (by omega)]; simp [wrapS (show i < 9223372036854775807 by omega)]
    · simp [wrapS (show i < 9223372036854775807 by omega)]; omega
  · rw [wStrS, szL, if_neg (by omega), List.take_of_length_le (by simpa using h)]
set_option maxHeartbeats 1000000 in
set_option maxRecDepth 8000 in
theorem toStrS_ok (x : List ByteArray) (hs : ∀ n ∈ wStrS x, n ≤ 1048576) : VC Try.prog 102 [vStrS x] [(false, mStrS x)] := by
  refine vc_of_ew good hm [0,2,3,4,11] Try.func102 rfl (by kernel_rfl) (by kernel_rfl) rfl ?_
  have hl : x.length ≤ 1048576 := hs _ (by simp [wStrS])
  simp [Try.f102, vStrS, mStrS]
  refine ⟨by omega, ?_⟩
  refine ew_loop (fun E => ∃ i : Nat, i ≤ x.length ∧ E = { nt := 22, sl := [(0, vStrS x), (3, .v false [.r [7]]), (4, int .i64 i)], bx := [], rt := [(7, .o 9 (fun _ => [.s]), .ls [.sc (.string ⟨#[]⟩)] (fillR [.sc (.string ⟨#[]⟩)] (x.map eStr) i))] }) (fun E => x.length - (E.num 4).toNat) _ (Gh.keep _ [0,3,4]) ⟨0, by omega, by simp [vStrS, fillR]⟩ ?_
  rintro E1 ⟨i, hi, rfl⟩
  have hfl : (fillR [.sc (.string ⟨#[]⟩)] (x.map eStr) i).length = x.length := by rw [fillR_len _ _ (by simpa using hi)]; simp
  simp [vStrS, eStr] at hfl ⊢
  try simp [hfl]
  refine ⟨fun h => ?_, fun h => fillR_all _ _ (by simpa using h)⟩
  simp [eStr, hfl, h]
  refine .of _ (Gh.keep _ [0,3,4]) ⟨i + 1, by omega, ?_⟩ ?_
  · have := fillR_set [.sc (.string ⟨#[]⟩)] (x.map eStr) (i := i) (by simpa using h)
    simp [wrapS (show i < 9223372036854775807 by omega), vStrS, eStr, h] at this ⊢
    rw [← this]
  · simp [wrapS (show i < 9223372036854775807 by omega)]; omega
set_option maxHeartbeats 1000000 in
set_option maxRecDepth 8000 in
theorem eqStrS_ok (x : List ByteArray) (hs : ∀ n ∈ wStrS x, n ≤ 1048576) : VC Try.prog 108 [vStrS x, vStrS x] [(false, [(.s, .sc (.bool true))])] := by
  refine vc_of_ew good hm [0,1,4,10,5,14,25] Try.func108 rfl (by kernel_rfl) (by kernel_rfl) rfl ?_
  have hl : x.length ≤ 1048576 := hs _ (by simp [wStrS])
  simp [Try.f108, vStrS]
  refine ew_loop (fun E => ∃ i : Nat, i ≤ x.length ∧ E = { nt := 26, sl := [(0, vStrS x), (1, vStrS x), (5, int .i64 i)], bx := [], rt := [] }) (fun E => x.length - (E.num 5).toNat) _ (Gh.keep _ [0,1,5]) ⟨0, by omega, by simp [vStrS]⟩ ?_
  rintro E1 ⟨i, hi, rfl⟩
  simp [vStrS, eStr]
  intro h
  simp [eStr, h]
  refine .of _ (Gh.keep _ [0,1,5]) ⟨i + 1, by omega, ?_⟩ ?_
  · simp [wrapS (show i < 9223372036854775807 by omega), vStrS]
  · simp [wrapS (show i < 9223372036854775807 by omega)]; omega

structure GDdl where
  fKind : Int
  fTable : ByteArray
  fCols : List GCol
  fKeys : List ByteArray
  fName : ByteArray
  fTo : ByteArray
def cDdl (x : GDdl) : List LV := [.s (.sc (.int .i64 x.fKind)), .s (.sc (.string x.fTable)), .s (.ls [.sc (.string ⟨#[]⟩), .sc (.int .i64 0), .sc (.bool false), .sc (.bool false), .sc (.int .i64 0), .sc (.int .i64 0), .sc (.string ⟨#[]⟩)] (x.fCols.map eCol)), .s (.ls [.sc (.string ⟨#[]⟩)] (x.fKeys.map eStr)), .s (.sc (.string x.fName)), .s (.sc (.string x.fTo))]
def vDdl (x : GDdl) : SV := .v true [.s (.sc (.int .i64 x.fKind)), .s (.sc (.string x.fTable)), .s (.ls [.sc (.string ⟨#[]⟩), .sc (.int .i64 0), .sc (.bool false), .sc (.bool false), .sc (.int .i64 0), .sc (.int .i64 0), .sc (.string ⟨#[]⟩)] (x.fCols.map eCol)), .s (.ls [.sc (.string ⟨#[]⟩)] (x.fKeys.map eStr)), .s (.sc (.string x.fName)), .s (.sc (.string x.fTo))]
def dDdl : GDdl := ⟨0, ⟨#[]⟩, [], [], ⟨#[]⟩, ⟨#[]⟩⟩
def wDdl (x : GDdl) : List Nat := x.fTable.size :: (wColS x.fCols ++ (wStrS x.fKeys ++ (x.fName.size :: (x.fTo.size :: ([])))))
def okDdl (x : GDdl) : Prop := okI x.fKind ∧ okM x.fTable.size ∧ okColS x.fCols ∧ okStrS x.fKeys ∧ okM x.fName.size ∧ okM x.fTo.size ∧ True
theorem okw_Ddl (x : GDdl) (h : okDdl x) : ∀ n ∈ wDdl x, okM n := by
  obtain ⟨h0, h1, h2, h3, h4, h5, _⟩ := h
  intro n hn
  simp only [wDdl, List.mem_cons, List.mem_append, List.not_mem_nil, or_false, false_or] at hn
  rcases hn with rfl | hn | hn | rfl | rfl
  · exact h1
  · exact okw_ColS _ h2 n hn
  · exact okw_StrS _ h3 n hn
  · exact h4
  · exact h5
def mDdl (x : GDdl) : ML := [(.s, .sc (.int .i64 x.fKind)), (.s, .sc (.string x.fTable)), (.o 76 (fun _ => [.s, .s, .s, .s, .s, .s, .s]), .ls [.sc (.string ⟨#[]⟩), .sc (.int .i64 0), .sc (.bool false), .sc (.bool false), .sc (.int .i64 0), .sc (.int .i64 0), .sc (.string ⟨#[]⟩)] (x.fCols.map eCol)), (.o 9 (fun _ => [.s]), .ls [.sc (.string ⟨#[]⟩)] (x.fKeys.map eStr)), (.s, .sc (.string x.fName)), (.s, .sc (.string x.fTo))]
set_option maxHeartbeats 1000000 in
set_option maxRecDepth 8000 in
theorem szDdl_ok (x : GDdl) (left : Int) (h0 : 0 ≤ left) (h1 : left ≤ 1048576) (hs : ∀ n ∈ wDdl x, okM n) : VC Try.prog 114 [vDdl x, int .i64 left] [(false, [(.s, .sc (.int .i64 (szL (wDdl x) left)))])] := by
  refine vc_of_ew good hm [0,1,2,4,11,17,23,30,37] Try.func114 rfl (by kernel_rfl) (by kernel_rfl) rfl ?_
  simp [Try.f114, vDdl]
  have hb0 : x.fTable.size ≤ 9223372036854775807 := hs _ (by simp [wDdl])
  rw [wrapI (i := left - (x.fTable.size : Nat)) (by omega) (by omega)]
  refine ⟨fun hn => ?_, fun hk0 => ?_⟩
  · have e : szL (wDdl x) left = -1 := by rw [wDdl, szL, if_pos (by omega)]
    rw [e]
    try omega
  have hq0 : ¬ (left - (x.fTable.size : Nat)) < 0 := by omega
  have hz0 : 0 ≤ (left - (x.fTable.size : Nat)) := by omega
  refine .of (szColS_ok x.fCols (left - (x.fTable.size : Nat)) (by omega) (by omega) (fun n hn => hs n (by simp [wDdl, hn]))) ?_
  simp
  have hb1 := szL_le' (l := wColS x.fCols) (left := (left - (x.fTable.size : Nat))) (by omega)
  have hc1 := szL_neg (wColS x.fCols) (left - (x.fTable.size : Nat)) (by omega)
  refine ⟨fun hn => ?_, fun hk1 => ?_⟩
  · have e : szL (wDdl x) left = -1 := by rw [wDdl, szL, if_neg hq0, szL_app _ _ _ hz0, if_pos (by omega)]
    rw [e]
    try omega
  have hq1 : ¬ (szL (wColS x.fCols) (left - (x.fTable.size : Nat))) < 0 := by omega
  have hz1 : 0 ≤ (szL (wColS x.fCols) (left - (x.fTable.size : Nat))) := by omega
  refine .of (szStrS_ok x.fKeys (szL (wColS x.fCols) (left - (x.fTable.size : Nat))) (by omega) (by omega) (fun n hn => hs n (by simp [wDdl, hn]))) ?_
  simp
  have hb2 := szL_le' (l := wStrS x.fKeys) (left := (szL (wColS x.fCols) (left - (x.fTable.size : Nat)))) (by omega)
  have hc2 := szL_neg (wStrS x.fKeys) (szL (wColS x.fCols) (left - (x.fTable.size : Nat))) (by omega)
  refine ⟨fun hn => ?_, fun hk2 => ?_⟩
  · have e : szL (wDdl x) left = -1 := by rw [wDdl, szL, if_neg hq0, szL_app _ _ _ hz0, if_neg hq1, szL_app _ _ _ hz1, if_pos (by omega)]
    rw [e]
    try omega
  have hq2 : ¬ (szL (wStrS x.fKeys) (szL (wColS x.fCols) (left - (x.fTable.size : Nat)))) < 0 := by omega
  have hz2 : 0 ≤ (szL (wStrS x.fKeys) (szL (wColS x.fCols) (left - (x.fTable.size : Nat)))) := by omega
  have hb3 : x.fName.size ≤ 9223372036854775807 := hs _ (by simp [wDdl])
  rw [wrapI (i := (szL (wStrS x.fKeys) (szL (wColS x.fCols) (left - (x.fTable.size : Nat)))) - (x.fName.size : Nat)) (by omega) (by omega)]
  refine ⟨fun hn => ?_, fun hk3 => ?_⟩
  · have e : szL (wDdl x) left = -1 := by rw [wDdl, szL, if_neg hq0, szL_app _ _ _ hz0, if_neg hq1, szL_app _ _ _ hz1, if_neg hq2, szL, if_pos (by omega)]
    rw [e]
    try omega
  have hq3 : ¬ ((szL (wStrS x.fKeys) (szL (wColS x.fCols) (left - (x.fTable.size : Nat)))) - (x.fName.size : Nat)) < 0 := by omega
  have hz3 : 0 ≤ ((szL (wStrS x.fKeys) (szL (wColS x.fCols) (left - (x.fTable.size : Nat)))) - (x.fName.size : Nat)) := by omega
  have hb4 : x.fTo.size ≤ 9223372036854775807 := hs _ (by simp [wDdl])
  rw [wrapI (i := ((szL (wStrS x.fKeys) (szL (wColS x.fCols) (left - (x.fTable.size : Nat)))) - (x.fName.size : Nat)) - (x.fTo.size : Nat)) (by omega) (by omega)]
  by_cases hn : (((szL (wStrS x.fKeys) (szL (wColS x.fCols) (left - (x.fTable.size : Nat)))) - (x.fName.size : Nat)) - (x.fTo.size : Nat)) < 0
  · have e : szL (wDdl x) left = -1 := by rw [wDdl, szL, if_neg hq0, szL_app _ _ _ hz0, if_neg hq1, szL_app _ _ _ hz1, if_neg hq2, szL, if_neg hq3, szL, if_pos hn]
    rw [e]
    try omega
  · have e : szL (wDdl x) left = (((szL (wStrS x.fKeys) (szL (wColS x.fCols) (left - (x.fTable.size : Nat)))) - (x.fName.size : Nat)) - (x.fTo.size : Nat)) := by rw [wDdl, szL, if_neg hq0, szL_app _ _ _ hz0, if_neg hq1, szL_app _ _ _ hz1, if_neg hq2, szL, if_neg hq3, szL, if_neg hn]; rfl
    rw [e]
    try omega
set_option maxHeartbeats 1000000 in
set_option maxRecDepth 8000 in
theorem toDdl_ok (x : GDdl) (hs : ∀ n ∈ wDdl x, n ≤ 1048576) : VC Try.prog 121 [vDdl x] [(true, mDdl x)] := by
  refine vc_of_ew good hm [0,1,2,3] Try.func121 rfl (by kernel_rfl) (by kernel_rfl) rfl ?_
  simp [Try.f121, vDdl, mDdl]
  refine .of (toColS_ok x.fCols (fun n hn => hs n (by simp [wDdl, hn]))) ?_
  simp [mColS]
  refine .of (toStrS_ok x.fKeys (fun n hn => hs n (by simp [wDdl, hn]))) ?_
  simp [mStrS]
set_option maxHeartbeats 1000000 in
set_option maxRecDepth 8000 in
theorem eqDdl_ok (x : GDdl) (hs : ∀ n ∈ wDdl x, n ≤ 1048576) : VC Try.prog 127 [vDdl x, vDdl x] [(false, [(.s, .sc (.bool true))])] := by
  refine vc_of_ew good hm [0,1,2,3,4,9,14,20,26,31,36] Try.func127 rfl (by kernel_rfl) (by kernel_rfl) rfl ?_
  simp [Try.f127, vDdl]
  refine .of (eqColS_ok x.fCols (fun n hn => hs n (by simp [wDdl, hn]))) ?_
  simp
  refine .of (eqStrS_ok x.fKeys (fun n hn => hs n (by simp [wDdl, hn]))) ?_
  simp

structure GStmt where
  fKind : Int
  fTable : ByteArray
  fKey : List GVal
  fRow : GRow
  fDdl : GDdl
def vStmt (x : GStmt) : SV := .v true [.s (.sc (.int .i64 x.fKind)), .s (.sc (.string x.fTable)), .s (.ls [.sc (.int .i64 0), .sc (.int .i64 0), .sc (.string ⟨#[]⟩)] (x.fKey.map eVal)), .s (.ls [.sc (.int .i64 0), .sc (.int .i64 0), .sc (.string ⟨#[]⟩)] (x.fRow.fVals.map eVal)), .s (.sc (.int .i64 x.fDdl.fKind)), .s (.sc (.string x.fDdl.fTable)), .s (.ls [.sc (.string ⟨#[]⟩), .sc (.int .i64 0), .sc (.bool false), .sc (.bool false), .sc (.int .i64 0), .sc (.int .i64 0), .sc (.string ⟨#[]⟩)] (x.fDdl.fCols.map eCol)), .s (.ls [.sc (.string ⟨#[]⟩)] (x.fDdl.fKeys.map eStr)), .s (.sc (.string x.fDdl.fName)), .s (.sc (.string x.fDdl.fTo))]
def wStmt (x : GStmt) : List Nat := x.fTable.size :: (wValS x.fKey ++ (wRow x.fRow ++ (wDdl x.fDdl ++ ([]))))
def okStmt (x : GStmt) : Prop := okI x.fKind ∧ okM x.fTable.size ∧ okValS x.fKey ∧ okRow x.fRow ∧ okDdl x.fDdl ∧ True
theorem okw_Stmt (x : GStmt) (h : okStmt x) : ∀ n ∈ wStmt x, okM n := by
  obtain ⟨h0, h1, h2, h3, h4, _⟩ := h
  intro n hn
  simp only [wStmt, List.mem_cons, List.mem_append, List.not_mem_nil, or_false, false_or] at hn
  rcases hn with rfl | hn | hn | hn
  · exact h1
  · exact okw_ValS _ h2 n hn
  · exact okw_Row _ h3 n hn
  · exact okw_Ddl _ h4 n hn
def mStmt (x : GStmt) : ML := [(.s, .sc (.int .i64 x.fKind)), (.s, .sc (.string x.fTable)), (.o 45 (fun _ => [.s, .s, .s]), .ls [.sc (.int .i64 0), .sc (.int .i64 0), .sc (.string ⟨#[]⟩)] (x.fKey.map eVal)), (.o 45 (fun _ => [.s, .s, .s]), .ls [.sc (.int .i64 0), .sc (.int .i64 0), .sc (.string ⟨#[]⟩)] (x.fRow.fVals.map eVal)), (.s, .sc (.int .i64 x.fDdl.fKind)), (.s, .sc (.string x.fDdl.fTable)), (.o 76 (fun _ => [.s, .s, .s, .s, .s, .s, .s]), .ls [.sc (.string ⟨#[]⟩), .sc (.int .i64 0), .sc (.bool false), .sc (.bool false), .sc (.int .i64 0), .sc (.int .i64 0), .sc (.string ⟨#[]⟩)] (x.fDdl.fCols.map eCol)), (.o 9 (fun _ => [.s]), .ls [.sc (.string ⟨#[]⟩)] (x.fDdl.fKeys.map eStr)), (.s, .sc (.string x.fDdl.fName)), (.s, .sc (.string x.fDdl.fTo))]
set_option maxHeartbeats 1000000 in
set_option maxRecDepth 8000 in
theorem szStmt_ok (x : GStmt) (left : Int) (h0 : 0 ≤ left) (h1 : left ≤ 1048576) (hs : ∀ n ∈ wStmt x, okM n) : VC Try.prog 94 [vStmt x, int .i64 left] [(false, [(.s, .sc (.int .i64 (szL (wStmt x) left)))])] := by
  refine vc_of_ew good hm [0,1,2,4,11,17,23,29] Try.func94 rfl (by kernel_rfl) (by kernel_rfl) rfl ?_
  simp [Try.f94, vStmt]
  have hb0 : x.fTable.size ≤ 9223372036854775807 := hs _ (by simp [wStmt])
  rw [wrapI (i := left - (x.fTable.size : Nat)) (by omega) (by omega)]
  refine ⟨fun hn => ?_, fun hk0 => ?_⟩
  · have e : szL (wStmt x) left = -1 := by rw [wStmt, szL, if_pos (by omega)]
    rw [e]
    try omega
  have hq0 : ¬ (left - (x.fTable.size : Nat)) < 0 := by omega
  have hz0 : 0 ≤ (left - (x.fTable.size : Nat)) := by omega
  refine .of (szValS_ok x.fKey (left - (x.fTable.size : Nat)) (by omega) (by omega) (fun n hn => hs n (by simp [wStmt, hn]))) ?_
  simp
  have hb1 := szL_le' (l := wValS x.fKey) (left := (left - (x.fTable.size : Nat))) (by omega)
  have hc1 := szL_neg (wValS x.fKey) (left - (x.fTable.size : Nat)) (by omega)
  refine ⟨fun hn => ?_, fun hk1 => ?_⟩
  · have e : szL (wStmt x) left = -1 := by rw [wStmt, szL, if_neg hq0, szL_app _ _ _ hz0, if_pos (by omega)]
    rw [e]
    try omega
  have hq1 : ¬ (szL (wValS x.fKey) (left - (x.fTable.size : Nat))) < 0 := by omega
  have hz1 : 0 ≤ (szL (wValS x.fKey) (left - (x.fTable.size : Nat))) := by omega
  refine .of (szRow_ok x.fRow (szL (wValS x.fKey) (left - (x.fTable.size : Nat))) (by omega) (by omega) (fun n hn => hs n (by simp [wStmt, hn]))) ?_
  simp
  have hb2 := szL_le' (l := wRow x.fRow) (left := (szL (wValS x.fKey) (left - (x.fTable.size : Nat)))) (by omega)
  have hc2 := szL_neg (wRow x.fRow) (szL (wValS x.fKey) (left - (x.fTable.size : Nat))) (by omega)
  refine ⟨fun hn => ?_, fun hk2 => ?_⟩
  · have e : szL (wStmt x) left = -1 := by rw [wStmt, szL, if_neg hq0, szL_app _ _ _ hz0, if_neg hq1, szL_app _ _ _ hz1, if_pos (by omega)]
    rw [e]
    try omega
  have hq2 : ¬ (szL (wRow x.fRow) (szL (wValS x.fKey) (left - (x.fTable.size : Nat)))) < 0 := by omega
  have hz2 : 0 ≤ (szL (wRow x.fRow) (szL (wValS x.fKey) (left - (x.fTable.size : Nat)))) := by omega
  refine .of (szDdl_ok x.fDdl (szL (wRow x.fRow) (szL (wValS x.fKey) (left - (x.fTable.size : Nat)))) (by omega) (by omega) (fun n hn => hs n (by simp [wStmt, hn]))) ?_
  simp
  have hb3 := szL_le' (l := wDdl x.fDdl) (left := (szL (wRow x.fRow) (szL (wValS x.fKey) (left - (x.fTable.size : Nat))))) (by omega)
  have hc3 := szL_neg (wDdl x.fDdl) (szL (wRow x.fRow) (szL (wValS x.fKey) (left - (x.fTable.size : Nat)))) (by omega)
  by_cases hn : (szL (wDdl x.fDdl) (szL (wRow x.fRow) (szL (wValS x.fKey) (left - (x.fTable.size : Nat))))) < 0
  · have e : szL (wStmt x) left = -1 := by rw [wStmt, szL, if_neg hq0, szL_app _ _ _ hz0, if_neg hq1, szL_app _ _ _ hz1, if_neg hq2, szL_app _ _ _ hz2, if_pos hn]
    rw [e]
    try omega
  · have e : szL (wStmt x) left = (szL (wDdl x.fDdl) (szL (wRow x.fRow) (szL (wValS x.fKey) (left - (x.fTable.size : Nat))))) := by rw [wStmt, szL, if_neg hq0, szL_app _ _ _ hz0, if_neg hq1, szL_app _ _ _ hz1, if_neg hq2, szL_app _ _ _ hz2, if_neg hn]; rfl
    rw [e]
    try omega
set_option maxHeartbeats 1000000 in
set_option maxRecDepth 8000 in
theorem toStmt_ok (x : GStmt) (hs : ∀ n ∈ wStmt x, n ≤ 1048576) : VC Try.prog 101 [vStmt x] [(true, mStmt x)] := by
  refine vc_of_ew good hm [0,1,2,3] Try.func101 rfl (by kernel_rfl) (by kernel_rfl) rfl ?_
  simp [Try.f101, vStmt, mStmt]
  refine .of (toValS_ok x.fKey (fun n hn => hs n (by simp [wStmt, hn]))) ?_
  simp [mValS]
  refine .of (toRow_ok x.fRow (fun n hn => hs n (by simp [wStmt, hn]))) ?_
  simp [mRow]
  refine .of (toDdl_ok x.fDdl (fun n hn => hs n (by simp [wStmt, hn]))) ?_
  simp [mDdl]
set_option maxHeartbeats 1000000 in
set_option maxRecDepth 8000 in
theorem eqStmt_ok (x : GStmt) (hs : ∀ n ∈ wStmt x, n ≤ 1048576) : VC Try.prog 107 [vStmt x, vStmt x] [(false, [(.s, .sc (.bool true))])] := by
  refine vc_of_ew good hm [0,1,2,3,4,9,14,20,26,32] Try.func107 rfl (by kernel_rfl) (by kernel_rfl) rfl ?_
  simp [Try.f107, vStmt]
  refine .of (eqValS_ok x.fKey (fun n hn => hs n (by simp [wStmt, hn]))) ?_
  simp
  refine .of (eqRow_ok x.fRow (fun n hn => hs n (by simp [wStmt, hn]))) ?_
  simp
  refine .of (eqDdl_ok x.fDdl (fun n hn => hs n (by simp [wStmt, hn]))) ?_
  simp

structure GPart where
  fStmt : GStmt
  fCols : List ByteArray
  fKeys : List ByteArray
def ePart (x : GPart) : List Lf := [.sc (.int .i64 x.fStmt.fKind), .sc (.string x.fStmt.fTable), .ls [.sc (.int .i64 0), .sc (.int .i64 0), .sc (.string ⟨#[]⟩)] (x.fStmt.fKey.map eVal), .ls [.sc (.int .i64 0), .sc (.int .i64 0), .sc (.string ⟨#[]⟩)] (x.fStmt.fRow.fVals.map eVal), .sc (.int .i64 x.fStmt.fDdl.fKind), .sc (.string x.fStmt.fDdl.fTable), .ls [.sc (.string ⟨#[]⟩), .sc (.int .i64 0), .sc (.bool false), .sc (.bool false), .sc (.int .i64 0), .sc (.int .i64 0), .sc (.string ⟨#[]⟩)] (x.fStmt.fDdl.fCols.map eCol), .ls [.sc (.string ⟨#[]⟩)] (x.fStmt.fDdl.fKeys.map eStr), .sc (.string x.fStmt.fDdl.fName), .sc (.string x.fStmt.fDdl.fTo), .ls [.sc (.string ⟨#[]⟩)] (x.fCols.map eStr), .ls [.sc (.string ⟨#[]⟩)] (x.fKeys.map eStr)]
def vPart (x : GPart) : SV := .v true [.s (.sc (.int .i64 x.fStmt.fKind)), .s (.sc (.string x.fStmt.fTable)), .s (.ls [.sc (.int .i64 0), .sc (.int .i64 0), .sc (.string ⟨#[]⟩)] (x.fStmt.fKey.map eVal)), .s (.ls [.sc (.int .i64 0), .sc (.int .i64 0), .sc (.string ⟨#[]⟩)] (x.fStmt.fRow.fVals.map eVal)), .s (.sc (.int .i64 x.fStmt.fDdl.fKind)), .s (.sc (.string x.fStmt.fDdl.fTable)), .s (.ls [.sc (.string ⟨#[]⟩), .sc (.int .i64 0), .sc (.bool false), .sc (.bool false), .sc (.int .i64 0), .sc (.int .i64 0), .sc (.string ⟨#[]⟩)] (x.fStmt.fDdl.fCols.map eCol)), .s (.ls [.sc (.string ⟨#[]⟩)] (x.fStmt.fDdl.fKeys.map eStr)), .s (.sc (.string x.fStmt.fDdl.fName)), .s (.sc (.string x.fStmt.fDdl.fTo)), .s (.ls [.sc (.string ⟨#[]⟩)] (x.fCols.map eStr)), .s (.ls [.sc (.string ⟨#[]⟩)] (x.fKeys.map eStr))]
def dPart : GPart := ⟨⟨0, ⟨#[]⟩, [], ⟨[]⟩, ⟨0, ⟨#[]⟩, [], [], ⟨#[]⟩, ⟨#[]⟩⟩⟩, [], []⟩
@[simp] theorem row_Part (l : List GPart) (i : Nat) : (Option.map ePart l[i]?).getD [.sc (.int .i64 0), .sc (.string ⟨#[]⟩), .ls [.sc (.int .i64 0), .sc (.int .i64 0), .sc (.string ⟨#[]⟩)] [], .ls [.sc (.int .i64 0), .sc (.int .i64 0), .sc (.string ⟨#[]⟩)] [], .sc (.int .i64 0), .sc (.string ⟨#[]⟩), .ls [.sc (.string ⟨#[]⟩), .sc (.int .i64 0), .sc (.bool false), .sc (.bool false), .sc (.int .i64 0), .sc (.int .i64 0), .sc (.string ⟨#[]⟩)] [], .ls [.sc (.string ⟨#[]⟩)] [], .sc (.string ⟨#[]⟩), .sc (.string ⟨#[]⟩), .ls [.sc (.string ⟨#[]⟩)] [], .ls [.sc (.string ⟨#[]⟩)] []] = ePart (l[i]?.getD dPart) := by cases l[i]? <;> rfl
def wPart (x : GPart) : List Nat := wStmt x.fStmt ++ (wStrS x.fCols ++ (wStrS x.fKeys ++ ([])))
def okPart (x : GPart) : Prop := okStmt x.fStmt ∧ okStrS x.fCols ∧ okStrS x.fKeys ∧ True
theorem okw_Part (x : GPart) (h : okPart x) : ∀ n ∈ wPart x, okM n := by
  obtain ⟨h0, h1, h2, _⟩ := h
  intro n hn
  simp only [wPart, List.mem_cons, List.mem_append, List.not_mem_nil, or_false, false_or] at hn
  rcases hn with hn | hn | hn
  · exact okw_Stmt _ h0 n hn
  · exact okw_StrS _ h1 n hn
  · exact okw_StrS _ h2 n hn
theorem fit_Part (ls : List Lf) (h : Fit ti ck 117 ls) : ∃ x : GPart, ls = ePart x ∧ okPart x := by
  obtain ⟨c0, r0, rfl, h0, g0⟩ := All2.cons_inv h
  obtain ⟨a0, rfl, b0⟩ := h0.int_inv
  obtain ⟨c1, r1, rfl, h1, g1⟩ := All2.cons_inv g0
  obtain ⟨a1, rfl, b1⟩ := h1.str_inv
  obtain ⟨c2, r2, rfl, h2, g2⟩ := All2.cons_inv g1
  obtain ⟨a2, rfl, b2, b2'⟩ := h2.list eVal okVal fit_Val
  obtain ⟨c3, r3, rfl, h3, g3⟩ := All2.cons_inv g2
  obtain ⟨a3, rfl, b3, b3'⟩ := h3.list eVal okVal fit_Val
  obtain ⟨c4, r4, rfl, h4, g4⟩ := All2.cons_inv g3
  obtain ⟨a4, rfl, b4⟩ := h4.int_inv
  obtain ⟨c5, r5, rfl, h5, g5⟩ := All2.cons_inv g4
  obtain ⟨a5, rfl, b5⟩ := h5.str_inv
  obtain ⟨c6, r6, rfl, h6, g6⟩ := All2.cons_inv g5
  obtain ⟨a6, rfl, b6, b6'⟩ := h6.list eCol okCol fit_Col
  obtain ⟨c7, r7, rfl, h7, g7⟩ := All2.cons_inv g6
  obtain ⟨a7, rfl, b7, b7'⟩ := h7.list eStr okStr fit_Str
  obtain ⟨c8, r8, rfl, h8, g8⟩ := All2.cons_inv g7
  obtain ⟨a8, rfl, b8⟩ := h8.str_inv
  obtain ⟨c9, r9, rfl, h9, g9⟩ := All2.cons_inv g8
  obtain ⟨a9, rfl, b9⟩ := h9.str_inv
  obtain ⟨c10, r10, rfl, h10, g10⟩ := All2.cons_inv g9
  obtain ⟨a10, rfl, b10, b10'⟩ := h10.list eStr okStr fit_Str
  obtain ⟨c11, r11, rfl, h11, g11⟩ := All2.cons_inv g10
  obtain ⟨a11, rfl, b11, b11'⟩ := h11.list eStr okStr fit_Str
  obtain rfl := All2.nil_inv g11
  exact ⟨⟨⟨a0, a1, a2, ⟨a3⟩, ⟨a4, a5, a6, a7, a8, a9⟩⟩, a10, a11⟩, rfl, ⟨⟨okI_wf b0, b1, ⟨b2, b2'⟩, ⟨⟨b3, b3'⟩, trivial⟩, ⟨okI_wf b4, b5, ⟨b6, b6'⟩, ⟨b7, b7'⟩, b8, b9, trivial⟩, trivial⟩, ⟨b10, b10'⟩, ⟨b11, b11'⟩, trivial⟩⟩
def mPart (x : GPart) : ML := [(.s, .sc (.int .i64 x.fStmt.fKind)), (.s, .sc (.string x.fStmt.fTable)), (.o 45 (fun _ => [.s, .s, .s]), .ls [.sc (.int .i64 0), .sc (.int .i64 0), .sc (.string ⟨#[]⟩)] (x.fStmt.fKey.map eVal)), (.o 45 (fun _ => [.s, .s, .s]), .ls [.sc (.int .i64 0), .sc (.int .i64 0), .sc (.string ⟨#[]⟩)] (x.fStmt.fRow.fVals.map eVal)), (.s, .sc (.int .i64 x.fStmt.fDdl.fKind)), (.s, .sc (.string x.fStmt.fDdl.fTable)), (.o 76 (fun _ => [.s, .s, .s, .s, .s, .s, .s]), .ls [.sc (.string ⟨#[]⟩), .sc (.int .i64 0), .sc (.bool false), .sc (.bool false), .sc (.int .i64 0), .sc (.int .i64 0), .sc (.string ⟨#[]⟩)] (x.fStmt.fDdl.fCols.map eCol)), (.o 9 (fun _ => [.s]), .ls [.sc (.string ⟨#[]⟩)] (x.fStmt.fDdl.fKeys.map eStr)), (.s, .sc (.string x.fStmt.fDdl.fName)), (.s, .sc (.string x.fStmt.fDdl.fTo)), (.o 9 (fun _ => [.s]), .ls [.sc (.string ⟨#[]⟩)] (x.fCols.map eStr)), (.o 9 (fun _ => [.s]), .ls [.sc (.string ⟨#[]⟩)] (x.fKeys.map eStr))]
set_option maxHeartbeats 1000000 in
set_option maxRecDepth 8000 in
theorem szPart_ok (x : GPart) (left : Int) (h0 : 0 ≤ left) (h1 : left ≤ 1048576) (hs : ∀ n ∈ wPart x, okM n) : VC Try.prog 71 [vPart x, int .i64 left] [(false, [(.s, .sc (.int .i64 (szL (wPart x) left)))])] := by
  refine vc_of_ew good hm [0,1,2,4,10,16,22] Try.func71 rfl (by kernel_rfl) (by kernel_rfl) rfl ?_
  simp [Try.f71, vPart]
  refine .of (szStmt_ok x.fStmt left (by omega) (by omega) (fun n hn => hs n (by simp [wPart, hn]))) ?_
  simp
  have hb0 := szL_le' (l := wStmt x.fStmt) (left := left) (by omega)
  have hc0 := szL_neg (wStmt x.fStmt) left (by omega)
  refine ⟨fun hn => ?_, fun hk0 => ?_⟩
  · have e : szL (wPart x) left = -1 := by rw [wPart, szL_app _ _ _ h0, if_pos (by omega)]
    rw [e]
    try omega
  have hq0 : ¬ (szL (wStmt x.fStmt) left) < 0 := by omega
  have hz0 : 0 ≤ (szL (wStmt x.fStmt) left) := by omega
  refine .of (szStrS_ok x.fCols (szL (wStmt x.fStmt) left) (by omega) (by omega) (fun n hn => hs n (by simp [wPart, hn]))) ?_
  simp
  have hb1 := szL_le' (l := wStrS x.fCols) (left := (szL (wStmt x.fStmt) left)) (by omega)
  have hc1 := szL_neg (wStrS x.fCols) (szL (wStmt x.fStmt) left) (by omega)
  refine ⟨fun hn => ?_, fun hk1 => ?_⟩
  · have e : szL (wPart x) left = -1 := by rw [wPart, szL_app _ _ _ h0, if_neg hq0, szL_app _ _ _ hz0, if_pos (by omega)]
    rw [e]
    try omega
  have hq1 : ¬ (szL (wStrS x.fCols) (szL (wStmt x.fStmt) left)) < 0 := by omega
  have hz1 : 0 ≤ (szL (wStrS x.fCols) (szL (wStmt x.fStmt) left)) := by omega
  refine .of (szStrS_ok x.fKeys (szL (wStrS x.fCols) (szL (wStmt x.fStmt) left)) (by omega) (by omega) (fun n hn => hs n (by simp [wPart, hn]))) ?_
  simp
  have hb2 := szL_le' (l := wStrS x.fKeys) (left := (szL (wStrS x.fCols) (szL (wStmt x.fStmt) left))) (by omega)
  have hc2 := szL_neg (wStrS x.fKeys) (szL (wStrS x.fCols) (szL (wStmt x.fStmt) left)) (by omega)
  by_cases hn : (szL (wStrS x.fKeys) (szL (wStrS x.fCols) (szL (wStmt x.fStmt) left))) < 0
  · have e : szL (wPart x) left = -1 := by rw [wPart, szL_app _ _ _ h0, if_neg hq0, szL_app _ _ _ hz0, if_neg hq1, szL_app _ _ _ hz1, if_pos hn]
    rw [e]
    try omega
  · have e : szL (wPart x) left = (szL (wStrS x.fKeys) (szL (wStrS x.fCols) (szL (wStmt x.fStmt) left))) := by rw [wPart, szL_app _ _ _ h0, if_neg hq0, szL_app _ _ _ hz0, if_neg hq1, szL_app _ _ _ hz1, if_neg hn]; rfl
    rw [e]
    try omega
set_option maxHeartbeats 1000000 in
set_option maxRecDepth 8000 in
theorem toPart_ok (x : GPart) (hs : ∀ n ∈ wPart x, n ≤ 1048576) : VC Try.prog 77 [vPart x] [(true, mPart x)] := by
  refine vc_of_ew good hm [0,1,2,3] Try.func77 rfl (by kernel_rfl) (by kernel_rfl) rfl ?_
  simp [Try.f77, vPart, mPart]
  refine .of (toStmt_ok x.fStmt (fun n hn => hs n (by simp [wPart, hn]))) ?_
  simp [mStmt]
  refine .of (toStrS_ok x.fCols (fun n hn => hs n (by simp [wPart, hn]))) ?_
  simp [mStrS]
  refine .of (toStrS_ok x.fKeys (fun n hn => hs n (by simp [wPart, hn]))) ?_
  simp [mStrS]
set_option maxHeartbeats 1000000 in
set_option maxRecDepth 8000 in
theorem eqPart_ok (x : GPart) (hs : ∀ n ∈ wPart x, n ≤ 1048576) : VC Try.prog 82 [vPart x, vPart x] [(false, [(.s, .sc (.bool true))])] := by
  refine vc_of_ew good hm [0,1,2,3,4,10,16,22] Try.func82 rfl (by kernel_rfl) (by kernel_rfl) rfl ?_
  simp [Try.f82, vPart]
  refine .of (eqStmt_ok x.fStmt (fun n hn => hs n (by simp [wPart, hn]))) ?_
  simp
  refine .of (eqStrS_ok x.fCols (fun n hn => hs n (by simp [wPart, hn]))) ?_
  simp
  refine .of (eqStrS_ok x.fKeys (fun n hn => hs n (by simp [wPart, hn]))) ?_
  simp

def vPartS (l : List GPart) : SV := list [.sc (.int .i64 0), .sc (.string ⟨#[]⟩), .ls [.sc (.int .i64 0), .sc (.int .i64 0), .sc (.string ⟨#[]⟩)] [], .ls [.sc (.int .i64 0), .sc (.int .i64 0), .sc (.string ⟨#[]⟩)] [], .sc (.int .i64 0), .sc (.string ⟨#[]⟩), .ls [.sc (.string ⟨#[]⟩), .sc (.int .i64 0), .sc (.bool false), .sc (.bool false), .sc (.int .i64 0), .sc (.int .i64 0), .sc (.string ⟨#[]⟩)] [], .ls [.sc (.string ⟨#[]⟩)] [], .sc (.string ⟨#[]⟩), .sc (.string ⟨#[]⟩), .ls [.sc (.string ⟨#[]⟩)] [], .ls [.sc (.string ⟨#[]⟩)] []] (l.map ePart)
def wPartS (l : List GPart) : List Nat := l.length :: l.flatMap wPart
def okPartS (l : List GPart) : Prop := okM l.length ∧ ∀ a ∈ l, okPart a
theorem okw_PartS (l : List GPart) (h : okPartS l) : ∀ n ∈ wPartS l, okM n := by
  intro n hn
  rcases List.mem_cons.1 hn with rfl | hn
  · exact h.1
  · obtain ⟨a, ha, hn⟩ := List.mem_flatMap.1 hn
    exact okw_Part a (h.2 a ha) n hn
def mPartS (x : List GPart) : ML := [(.o 88 (fun _ => [.s, .s, .o 45 (fun _ => [.s, .s, .s]), .o 45 (fun _ => [.s, .s, .s]), .s, .s, .o 76 (fun _ => [.s, .s, .s, .s, .s, .s, .s]), .o 9 (fun _ => [.s]), .s, .s, .o 9 (fun _ => [.s]), .o 9 (fun _ => [.s])]), .ls [.sc (.int .i64 0), .sc (.string ⟨#[]⟩), .ls [.sc (.int .i64 0), .sc (.int .i64 0), .sc (.string ⟨#[]⟩)] [], .ls [.sc (.int .i64 0), .sc (.int .i64 0), .sc (.string ⟨#[]⟩)] [], .sc (.int .i64 0), .sc (.string ⟨#[]⟩), .ls [.sc (.string ⟨#[]⟩), .sc (.int .i64 0), .sc (.bool false), .sc (.bool false), .sc (.int .i64 0), .sc (.int .i64 0), .sc (.string ⟨#[]⟩)] [], .ls [.sc (.string ⟨#[]⟩)] [], .sc (.string ⟨#[]⟩), .sc (.string ⟨#[]⟩), .ls [.sc (.string ⟨#[]⟩)] [], .ls [.sc (.string ⟨#[]⟩)] []] (x.map ePart))]
@[simp] theorem ow_PartS (l : List GPart) : Ow (.o 88 (fun _ => [.s, .s, .o 45 (fun _ => [.s, .s, .s]), .o 45 (fun _ => [.s, .s, .s]), .s, .s, .o 76 (fun _ => [.s, .s, .s, .s, .s, .s, .s]), .o 9 (fun _ => [.s]), .s, .s, .o 9 (fun _ => [.s]), .o 9 (fun _ => [.s])])) (.ls [.sc (.int .i64 0), .sc (.string ⟨#[]⟩), .ls [.sc (.int .i64 0), .sc (.int .i64 0), .sc (.string ⟨#[]⟩)] [], .ls [.sc (.int .i64 0), .sc (.int .i64 0), .sc (.string ⟨#[]⟩)] [], .sc (.int .i64 0), .sc (.string ⟨#[]⟩), .ls [.sc (.string ⟨#[]⟩), .sc (.int .i64 0), .sc (.bool false), .sc (.bool false), .sc (.int .i64 0), .sc (.int .i64 0), .sc (.string ⟨#[]⟩)] [], .ls [.sc (.string ⟨#[]⟩)] [], .sc (.string ⟨#[]⟩), .sc (.string ⟨#[]⟩), .ls [.sc (.string ⟨#[]⟩)] [], .ls [.sc (.string ⟨#[]⟩)] []] (l.map ePart)) = True := eq_true (Ow_rows (fun x j hj => match j, hj with | 0, _ => .sc | 1, _ => .sc | 2, _ => of_eq_true (ow_ValS x.fStmt.fKey) | 3, _ => of_eq_true (ow_ValS x.fStmt.fRow.fVals) | 4, _ => .sc | 5, _ => .sc | 6, _ => of_eq_true (ow_ColS x.fStmt.fDdl.fCols) | 7, _ => of_eq_true (ow_StrS x.fStmt.fDdl.fKeys) | 8, _ => .sc | 9, _ => .sc | 10, _ => of_eq_true (ow_StrS x.fCols) | 11, _ => of_eq_true (ow_StrS x.fKeys) | n + 12, hj => absurd hj (by simp)) l)
@[simp] theorem full_PartS (l : List GPart) : Full (.o 88 (fun _ => [.s, .s, .o 45 (fun _ => [.s, .s, .s]), .o 45 (fun _ => [.s, .s, .s]), .s, .s, .o 76 (fun _ => [.s, .s, .s, .s, .s, .s, .s]), .o 9 (fun _ => [.s]), .s, .s, .o 9 (fun _ => [.s]), .o 9 (fun _ => [.s])])) (.ls [.sc (.int .i64 0), .sc (.string ⟨#[]⟩), .ls [.sc (.int .i64 0), .sc (.int .i64 0), .sc (.string ⟨#[]⟩)] [], .ls [.sc (.int .i64 0), .sc (.int .i64 0), .sc (.string ⟨#[]⟩)] [], .sc (.int .i64 0), .sc (.string ⟨#[]⟩), .ls [.sc (.string ⟨#[]⟩), .sc (.int .i64 0), .sc (.bool false), .sc (.bool false), .sc (.int .i64 0), .sc (.int .i64 0), .sc (.string ⟨#[]⟩)] [], .ls [.sc (.string ⟨#[]⟩)] [], .sc (.string ⟨#[]⟩), .sc (.string ⟨#[]⟩), .ls [.sc (.string ⟨#[]⟩)] [], .ls [.sc (.string ⟨#[]⟩)] []] (l.map ePart)) = True := eq_true (Full_rows (fun x j hj => match j, hj with | 0, _ => .s | 1, _ => .s | 2, _ => of_eq_true (full_ValS x.fStmt.fKey) | 3, _ => of_eq_true (full_ValS x.fStmt.fRow.fVals) | 4, _ => .s | 5, _ => .s | 6, _ => of_eq_true (full_ColS x.fStmt.fDdl.fCols) | 7, _ => of_eq_true (full_StrS x.fStmt.fDdl.fKeys) | 8, _ => .s | 9, _ => .s | 10, _ => of_eq_true (full_StrS x.fCols) | 11, _ => of_eq_true (full_StrS x.fKeys) | n + 12, hj => absurd hj (by simp)) l)
set_option maxHeartbeats 1000000 in
set_option maxRecDepth 8000 in
theorem szPartS_ok (x : List GPart) (left : Int) (h0 : 0 ≤ left) (h1 : left ≤ 1048576) (hs : ∀ n ∈ wPartS x, okM n) : VC Try.prog 43 [vPartS x, int .i64 left] [(false, [(.s, .sc (.int .i64 (szL (wPartS x) left)))])] := by
  refine vc_of_ew good hm [0,1,4,11,5,15,25] Try.func43 rfl (by kernel_rfl) (by kernel_rfl) rfl ?_
  have hl : x.length ≤ 9223372036854775807 := hs _ (by simp [wPartS])
  simp [Try.f43, vPartS]
  rw [wrapI (i := left - x.length) (by omega) (by omega)]
  refine ⟨fun h => by simp [wPartS, szL, h], fun hk => ?_⟩
  refine ew_loop (fun E => ∃ i : Nat, i ≤ x.length ∧ 0 ≤ szL ((x.take i).flatMap wPart) (left - x.length) ∧ E = { nt := 27, sl := [(0, vPartS x), (1, int .i64 (szL ((x.take i).flatMap wPart) (left - x.length))), (5, int .i64 i)], bx := [], rt := [] }) (fun E => x.length - (E.num 5).toNat) _ (Gh.keep _ [0,1,5]) ⟨0, by omega, by simp [szL]; omega, by simp [szL, vPartS]⟩ ?_
  rintro E1 ⟨i, hi, hr0, rfl⟩
  have hr1 := szL_le' (l := (x.take i).flatMap wPart) (left := left - x.length) (by omega)
  simp [vPartS, ePart]
  refine ⟨fun h => ?_, fun h => ?_⟩
  · obtain ⟨q1, q2⟩ := szF_step wPart (dPart) h (by omega : 0 ≤ left - x.length) hr0
    have hm : ∀ n ∈ wPart (x[i]?.getD (dPart)), okM n := fun n hn => hs n (List.mem_cons_of_mem _ (mem_flat h hn))
    have hn1 := szL_neg (wPart (x[i]?.getD (dPart))) _ hr0
    refine ⟨h, .of (szPart_ok _ _ hr0 (by omega) hm) ?_⟩
    simp
    refine ⟨fun h2 => ?_, fun h2 => .of _ (Gh.keep _ [0,1,5]) ⟨i + 1, by omega, ?_, ?_⟩ ?_⟩
    · rw [wPartS, szL, if_neg (by omega), q1 h2]
    · rw [q2]; exact h2
    · rw [q2]; simp [wrapS (show i < 9223372036854775807 by omega)]
    · simp [wrapS (show i < 9223372036854775807 by omega)]; omega
  · rw [wPartS, szL, if_neg (by omega), List.take_of_length_le (by simpa using h)]
set_option maxHeartbeats 1000000 in
set_option maxRecDepth 8000 in
theorem toPartS_ok (x : List GPart) (hs : ∀ n ∈ wPartS x, n ≤ 1048576) : VC Try.prog 47 [vPartS x] [(false, mPartS x)] := by
  refine vc_of_ew good hm [0,2,3,4,11] Try.func47 rfl (by kernel_rfl) (by kernel_rfl) rfl ?_
  have hl : x.length ≤ 1048576 := hs _ (by simp [wPartS])
  simp [Try.f47, vPartS, mPartS]
  refine ⟨by omega, ?_⟩
  refine ew_loop (fun E => ∃ i : Nat, i ≤ x.length ∧ E = { nt := 23, sl := [(0, vPartS x), (3, .v false [.r [7]]), (4, int .i64 i)], bx := [], rt := [(7, .o 88 (fun _ => [.s, .s, .o 45 (fun _ => [.s, .s, .s]), .o 45 (fun _ => [.s, .s, .s]), .s, .s, .o 76 (fun _ => [.s, .s, .s, .s, .s, .s, .s]), .o 9 (fun _ => [.s]), .s, .s, .o 9 (fun _ => [.s]), .o 9 (fun _ => [.s])]), .ls [.sc (.int .i64 0), .sc (.string ⟨#[]⟩), .ls [.sc (.int .i64 0), .sc (.int .i64 0), .sc (.string ⟨#[]⟩)] [], .ls [.sc (.int .i64 0), .sc (.int .i64 0), .sc (.string ⟨#[]⟩)] [], .sc (.int .i64 0), .sc (.string ⟨#[]⟩), .ls [.sc (.string ⟨#[]⟩), .sc (.int .i64 0), .sc (.bool false), .sc (.bool false), .sc (.int .i64 0), .sc (.int .i64 0), .sc (.string ⟨#[]⟩)] [], .ls [.sc (.string ⟨#[]⟩)] [], .sc (.string ⟨#[]⟩), .sc (.string ⟨#[]⟩), .ls [.sc (.string ⟨#[]⟩)] [], .ls [.sc (.string ⟨#[]⟩)] []] (fillR [.sc (.int .i64 0), .sc (.string ⟨#[]⟩), .ls [.sc (.int .i64 0), .sc (.int .i64 0), .sc (.string ⟨#[]⟩)] [], .ls [.sc (.int .i64 0), .sc (.int .i64 0), .sc (.string ⟨#[]⟩)] [], .sc (.int .i64 0), .sc (.string ⟨#[]⟩), .ls [.sc (.string ⟨#[]⟩), .sc (.int .i64 0), .sc (.bool false), .sc (.bool false), .sc (.int .i64 0), .sc (.int .i64 0), .sc (.string ⟨#[]⟩)] [], .ls [.sc (.string ⟨#[]⟩)] [], .sc (.string ⟨#[]⟩), .sc (.string ⟨#[]⟩), .ls [.sc (.string ⟨#[]⟩)] [], .ls [.sc (.string ⟨#[]⟩)] []] (x.map ePart) i))] }) (fun E => x.length - (E.num 4).toNat) _ (Gh.keep _ [0,3,4]) ⟨0, by omega, by simp [vPartS, fillR]⟩ ?_
  rintro E1 ⟨i, hi, rfl⟩
  have hfl : (fillR [.sc (.int .i64 0), .sc (.string ⟨#[]⟩), .ls [.sc (.int .i64 0), .sc (.int .i64 0), .sc (.string ⟨#[]⟩)] [], .ls [.sc (.int .i64 0), .sc (.int .i64 0), .sc (.string ⟨#[]⟩)] [], .sc (.int .i64 0), .sc (.string ⟨#[]⟩), .ls [.sc (.string ⟨#[]⟩), .sc (.int .i64 0), .sc (.bool false), .sc (.bool false), .sc (.int .i64 0), .sc (.int .i64 0), .sc (.string ⟨#[]⟩)] [], .ls [.sc (.string ⟨#[]⟩)] [], .sc (.string ⟨#[]⟩), .sc (.string ⟨#[]⟩), .ls [.sc (.string ⟨#[]⟩)] [], .ls [.sc (.string ⟨#[]⟩)] []] (x.map ePart) i).length = x.length := by rw [fillR_len _ _ (by simpa using hi)]; simp
  simp [vPartS, ePart] at hfl ⊢
  try simp [hfl]
  refine ⟨fun h => ⟨h, .of (toPart_ok (x[i]?.getD dPart) (fun n hn => hs n (List.mem_cons_of_mem _ (mem_flat (wt := wPart) h hn)))) ?_⟩, fun h => fillR_all _ _ (by simpa using h)⟩
  simp [mPart]
  try simp [hfl, h]
  refine .of _ (Gh.keep _ [0,3,4]) ⟨i + 1, by omega, ?_⟩ ?_
  · have := fillR_set [.sc (.int .i64 0), .sc (.string ⟨#[]⟩), .ls [.sc (.int .i64 0), .sc (.int .i64 0), .sc (.string ⟨#[]⟩)] [], .ls [.sc (.int .i64 0), .sc (.int .i64 0), .sc (.string ⟨#[]⟩)] [], .sc (.int .i64 0), .sc (.string ⟨#[]⟩), .ls [.sc (.string ⟨#[]⟩), .sc (.int .i64 0), .sc (.bool false), .sc (.bool false), .sc (.int .i64 0), .sc (.int .i64 0), .sc (.string ⟨#[]⟩)] [], .ls [.sc (.string ⟨#[]⟩)] [], .sc (.string ⟨#[]⟩), .sc (.string ⟨#[]⟩), .ls [.sc (.string ⟨#[]⟩)] [], .ls [.sc (.string ⟨#[]⟩)] []] (x.map ePart) (i := i) (by simpa using h)
    simp [wrapS (show i < 9223372036854775807 by omega), vPartS, ePart, h] at this ⊢
    rw [← this]
  · simp [wrapS (show i < 9223372036854775807 by omega)]; omega
set_option maxHeartbeats 1000000 in
set_option maxRecDepth 8000 in
theorem eqPartS_ok (x : List GPart) (hs : ∀ n ∈ wPartS x, n ≤ 1048576) : VC Try.prog 53 [vPartS x, vPartS x] [(false, [(.s, .sc (.bool true))])] := by
  refine vc_of_ew good hm [0,1,4,10,5,14,26] Try.func53 rfl (by kernel_rfl) (by kernel_rfl) rfl ?_
  have hl : x.length ≤ 1048576 := hs _ (by simp [wPartS])
  simp [Try.f53, vPartS]
  refine ew_loop (fun E => ∃ i : Nat, i ≤ x.length ∧ E = { nt := 27, sl := [(0, vPartS x), (1, vPartS x), (5, int .i64 i)], bx := [], rt := [] }) (fun E => x.length - (E.num 5).toNat) _ (Gh.keep _ [0,1,5]) ⟨0, by omega, by simp [vPartS]⟩ ?_
  rintro E1 ⟨i, hi, rfl⟩
  simp [vPartS, ePart]
  intro h
  refine ⟨h, .of (eqPart_ok (x[i]?.getD dPart) (fun n hn => hs n (List.mem_cons_of_mem _ (mem_flat (wt := wPart) h hn)))) ?_⟩
  simp
  refine .of _ (Gh.keep _ [0,1,5]) ⟨i + 1, by omega, ?_⟩ ?_
  · simp [wrapS (show i < 9223372036854775807 by omega), vPartS]
  · simp [wrapS (show i < 9223372036854775807 by omega)]; omega

structure GBatch where
  fLsn : Int
  fPrev : Int
  fParts : List GPart
def eBatch (x : GBatch) : List Lf := [.sc (.int .i64 x.fLsn), .sc (.int .i64 x.fPrev), .ls [.sc (.int .i64 0), .sc (.string ⟨#[]⟩), .ls [.sc (.int .i64 0), .sc (.int .i64 0), .sc (.string ⟨#[]⟩)] [], .ls [.sc (.int .i64 0), .sc (.int .i64 0), .sc (.string ⟨#[]⟩)] [], .sc (.int .i64 0), .sc (.string ⟨#[]⟩), .ls [.sc (.string ⟨#[]⟩), .sc (.int .i64 0), .sc (.bool false), .sc (.bool false), .sc (.int .i64 0), .sc (.int .i64 0), .sc (.string ⟨#[]⟩)] [], .ls [.sc (.string ⟨#[]⟩)] [], .sc (.string ⟨#[]⟩), .sc (.string ⟨#[]⟩), .ls [.sc (.string ⟨#[]⟩)] [], .ls [.sc (.string ⟨#[]⟩)] []] (x.fParts.map ePart)]
def cBatch (x : GBatch) : List LV := [.s (.sc (.int .i64 x.fLsn)), .s (.sc (.int .i64 x.fPrev)), .s (.ls [.sc (.int .i64 0), .sc (.string ⟨#[]⟩), .ls [.sc (.int .i64 0), .sc (.int .i64 0), .sc (.string ⟨#[]⟩)] [], .ls [.sc (.int .i64 0), .sc (.int .i64 0), .sc (.string ⟨#[]⟩)] [], .sc (.int .i64 0), .sc (.string ⟨#[]⟩), .ls [.sc (.string ⟨#[]⟩), .sc (.int .i64 0), .sc (.bool false), .sc (.bool false), .sc (.int .i64 0), .sc (.int .i64 0), .sc (.string ⟨#[]⟩)] [], .ls [.sc (.string ⟨#[]⟩)] [], .sc (.string ⟨#[]⟩), .sc (.string ⟨#[]⟩), .ls [.sc (.string ⟨#[]⟩)] [], .ls [.sc (.string ⟨#[]⟩)] []] (x.fParts.map ePart))]
def vBatch (x : GBatch) : SV := .v true [.s (.sc (.int .i64 x.fLsn)), .s (.sc (.int .i64 x.fPrev)), .s (.ls [.sc (.int .i64 0), .sc (.string ⟨#[]⟩), .ls [.sc (.int .i64 0), .sc (.int .i64 0), .sc (.string ⟨#[]⟩)] [], .ls [.sc (.int .i64 0), .sc (.int .i64 0), .sc (.string ⟨#[]⟩)] [], .sc (.int .i64 0), .sc (.string ⟨#[]⟩), .ls [.sc (.string ⟨#[]⟩), .sc (.int .i64 0), .sc (.bool false), .sc (.bool false), .sc (.int .i64 0), .sc (.int .i64 0), .sc (.string ⟨#[]⟩)] [], .ls [.sc (.string ⟨#[]⟩)] [], .sc (.string ⟨#[]⟩), .sc (.string ⟨#[]⟩), .ls [.sc (.string ⟨#[]⟩)] [], .ls [.sc (.string ⟨#[]⟩)] []] (x.fParts.map ePart))]
def dBatch : GBatch := ⟨0, 0, []⟩
@[simp] theorem row_Batch (l : List GBatch) (i : Nat) : (Option.map eBatch l[i]?).getD [.sc (.int .i64 0), .sc (.int .i64 0), .ls [.sc (.int .i64 0), .sc (.string ⟨#[]⟩), .ls [.sc (.int .i64 0), .sc (.int .i64 0), .sc (.string ⟨#[]⟩)] [], .ls [.sc (.int .i64 0), .sc (.int .i64 0), .sc (.string ⟨#[]⟩)] [], .sc (.int .i64 0), .sc (.string ⟨#[]⟩), .ls [.sc (.string ⟨#[]⟩), .sc (.int .i64 0), .sc (.bool false), .sc (.bool false), .sc (.int .i64 0), .sc (.int .i64 0), .sc (.string ⟨#[]⟩)] [], .ls [.sc (.string ⟨#[]⟩)] [], .sc (.string ⟨#[]⟩), .sc (.string ⟨#[]⟩), .ls [.sc (.string ⟨#[]⟩)] [], .ls [.sc (.string ⟨#[]⟩)] []] []] = eBatch (l[i]?.getD dBatch) := by cases l[i]? <;> rfl
def wBatch (x : GBatch) : List Nat := wPartS x.fParts ++ ([])
def okBatch (x : GBatch) : Prop := okI x.fLsn ∧ okI x.fPrev ∧ okPartS x.fParts ∧ True
theorem okw_Batch (x : GBatch) (h : okBatch x) : ∀ n ∈ wBatch x, okM n := by
  obtain ⟨h0, h1, h2, _⟩ := h
  intro n hn
  simp only [wBatch, List.mem_cons, List.mem_append, List.not_mem_nil, or_false, false_or] at hn
  rcases hn with hn
  · exact okw_PartS _ h2 n hn
theorem fit_Batch (ls : List Lf) (h : Fit ti ck 50 ls) : ∃ x : GBatch, ls = eBatch x ∧ okBatch x := by
  obtain ⟨c0, r0, rfl, h0, g0⟩ := All2.cons_inv h
  obtain ⟨a0, rfl, b0⟩ := h0.int_inv
  obtain ⟨c1, r1, rfl, h1, g1⟩ := All2.cons_inv g0
  obtain ⟨a1, rfl, b1⟩ := h1.int_inv
  obtain ⟨c2, r2, rfl, h2, g2⟩ := All2.cons_inv g1
  obtain ⟨a2, rfl, b2, b2'⟩ := h2.list ePart okPart fit_Part
  obtain rfl := All2.nil_inv g2
  exact ⟨⟨a0, a1, a2⟩, rfl, ⟨okI_wf b0, okI_wf b1, ⟨b2, b2'⟩, trivial⟩⟩
def mBatch (x : GBatch) : ML := [(.s, .sc (.int .i64 x.fLsn)), (.s, .sc (.int .i64 x.fPrev)), (.o 88 (fun _ => [.s, .s, .o 45 (fun _ => [.s, .s, .s]), .o 45 (fun _ => [.s, .s, .s]), .s, .s, .o 76 (fun _ => [.s, .s, .s, .s, .s, .s, .s]), .o 9 (fun _ => [.s]), .s, .s, .o 9 (fun _ => [.s]), .o 9 (fun _ => [.s])]), .ls [.sc (.int .i64 0), .sc (.string ⟨#[]⟩), .ls [.sc (.int .i64 0), .sc (.int .i64 0), .sc (.string ⟨#[]⟩)] [], .ls [.sc (.int .i64 0), .sc (.int .i64 0), .sc (.string ⟨#[]⟩)] [], .sc (.int .i64 0), .sc (.string ⟨#[]⟩), .ls [.sc (.string ⟨#[]⟩), .sc (.int .i64 0), .sc (.bool false), .sc (.bool false), .sc (.int .i64 0), .sc (.int .i64 0), .sc (.string ⟨#[]⟩)] [], .ls [.sc (.string ⟨#[]⟩)] [], .sc (.string ⟨#[]⟩), .sc (.string ⟨#[]⟩), .ls [.sc (.string ⟨#[]⟩)] [], .ls [.sc (.string ⟨#[]⟩)] []] (x.fParts.map ePart))]
set_option maxHeartbeats 1000000 in
set_option maxRecDepth 8000 in
theorem szBatch_ok (x : GBatch) (left : Int) (h0 : 0 ≤ left) (h1 : left ≤ 1048576) (hs : ∀ n ∈ wBatch x, okM n) : VC Try.prog 16 [vBatch x, int .i64 left] [(false, [(.s, .sc (.int .i64 (szL (wBatch x) left)))])] := by
  refine vc_of_ew good hm [0,1,2,4,10] Try.func16 rfl (by kernel_rfl) (by kernel_rfl) rfl ?_
  simp [Try.f16, vBatch]
  refine .of (szPartS_ok x.fParts left (by omega) (by omega) (fun n hn => hs n (by simp [wBatch, hn]))) ?_
  simp
  have hb0 := szL_le' (l := wPartS x.fParts) (left := left) (by omega)
  have hc0 := szL_neg (wPartS x.fParts) left (by omega)
  by_cases hn : (szL (wPartS x.fParts) left) < 0
  · have e : szL (wBatch x) left = -1 := by rw [wBatch, szL_app _ _ _ h0, if_pos hn]
    rw [e]
    try omega
  · have e : szL (wBatch x) left = (szL (wPartS x.fParts) left) := by rw [wBatch, szL_app _ _ _ h0, if_neg hn]; rfl
    rw [e]
    try omega
set_option maxHeartbeats 1000000 in
set_option maxRecDepth 8000 in
theorem toBatch_ok (x : GBatch) (hs : ∀ n ∈ wBatch x, n ≤ 1048576) : VC Try.prog 18 [vBatch x] [(true, mBatch x)] := by
  refine vc_of_ew good hm [0,1,2,3] Try.func18 rfl (by kernel_rfl) (by kernel_rfl) rfl ?_
  simp [Try.f18, vBatch, mBatch]
  refine .of (toPartS_ok x.fParts (fun n hn => hs n (by simp [wBatch, hn]))) ?_
  simp [mPartS]
set_option maxHeartbeats 1000000 in
set_option maxRecDepth 8000 in
theorem eqBatch_ok (x : GBatch) (hs : ∀ n ∈ wBatch x, n ≤ 1048576) : VC Try.prog 20 [vBatch x, vBatch x] [(false, [(.s, .sc (.bool true))])] := by
  refine vc_of_ew good hm [0,1,2,3,4,9,14,20] Try.func20 rfl (by kernel_rfl) (by kernel_rfl) rfl ?_
  simp [Try.f20, vBatch]
  refine .of (eqPartS_ok x.fParts (fun n hn => hs n (by simp [wBatch, hn]))) ?_
  simp

structure GTable where
  fName : ByteArray
  fCols : List GCol
  fKeys : List ByteArray
def cTable (x : GTable) : List LV := [.s (.sc (.string x.fName)), .s (.ls [.sc (.string ⟨#[]⟩), .sc (.int .i64 0), .sc (.bool false), .sc (.bool false), .sc (.int .i64 0), .sc (.int .i64 0), .sc (.string ⟨#[]⟩)] (x.fCols.map eCol)), .s (.ls [.sc (.string ⟨#[]⟩)] (x.fKeys.map eStr))]
def vTable (x : GTable) : SV := .v true [.s (.sc (.string x.fName)), .s (.ls [.sc (.string ⟨#[]⟩), .sc (.int .i64 0), .sc (.bool false), .sc (.bool false), .sc (.int .i64 0), .sc (.int .i64 0), .sc (.string ⟨#[]⟩)] (x.fCols.map eCol)), .s (.ls [.sc (.string ⟨#[]⟩)] (x.fKeys.map eStr))]
def okTable (x : GTable) : Prop := okM x.fName.size ∧ okColS x.fCols ∧ okStrS x.fKeys ∧ True
def mTable (x : GTable) : ML := [(.s, .sc (.string x.fName)), (.o 76 (fun _ => [.s, .s, .s, .s, .s, .s, .s]), .ls [.sc (.string ⟨#[]⟩), .sc (.int .i64 0), .sc (.bool false), .sc (.bool false), .sc (.int .i64 0), .sc (.int .i64 0), .sc (.string ⟨#[]⟩)] (x.fCols.map eCol)), (.o 9 (fun _ => [.s]), .ls [.sc (.string ⟨#[]⟩)] (x.fKeys.map eStr))]

end Go.Proofs.Yteeolohhmfjafaa

/-! YteeolohhmfjafaaBase -/
namespace Go.Proofs.Yteeolohhmfjafaa
open Go Go.Proofs Go.Sm
attribute [local simp] ti eStr eInt eByte eVal cVal vVal vValS vRow eCol vCol vColS vStrS cDdl vDdl vStmt ePart vPart vPartS eBatch cBatch vBatch cTable vTable
set_option linter.unusedVariables false
set_option linter.unusedSimpArgs false
set_option maxRecDepth 8000


def within (x lo hi : Int) : Bool := decide (x ≥ lo) && decide (x ≤ hi)
theorem within_ok (x lo hi : Int) : VC Try.prog 28 [int .i64 x, int .i64 lo, int .i64 hi] [(false, [(.s, .sc (.bool (within x lo hi)))])] := by
  refine vc_of_ew good hm [0,1,2,6] Try.func28 rfl (by kernel_rfl) (by kernel_rfl) rfl ?_
  simp [Try.f28, within]

def byteAt (s : ByteArray) (i : Nat) : Int := ((s.data[i]?.getD 0).toNat : Int)
def letter (c : Int) : Bool := decide (97 ≤ c) && decide (c ≤ 122)
theorem letter_iff (c : Int) : letter c = true ↔ 97 ≤ c ∧ c ≤ 122 := by simp [letter]
def lettersTo (s : ByteArray) (n : Nat) : Bool := (List.range n).all (fun i => letter (byteAt s i))
def wordOk (s : ByteArray) : Bool := lettersTo s s.size && within s.size 1 8
theorem lettersTo_succ (s : ByteArray) (n : Nat) : lettersTo s (n + 1) = (lettersTo s n && letter (byteAt s n)) := by
  simp [lettersTo, List.range_succ, List.all_append]
theorem lettersTo_le {s : ByteArray} {n m : Nat} (h : lettersTo s m = true) (hnm : n ≤ m) : lettersTo s n = true := by
  simp only [lettersTo, List.all_eq_true, List.mem_range] at h ⊢
  exact fun x hx => h x (by omega)
theorem wordOk_no {s : ByteArray} {i : Nat} (hi : i < s.size) (h : letter (byteAt s i) = false) : wordOk s = false := by
  unfold wordOk
  cases hl : lettersTo s s.size with
  | false => rfl
  | true =>
    have := lettersTo_le hl (show i + 1 ≤ s.size by omega)
    rw [lettersTo_succ, h] at this
    simp at this
set_option maxHeartbeats 1000000 in
theorem wordOkI_ok (s : ByteArray) (hs : okM s.size) : VC Try.prog 27 [str s] [(false, [(.s, .sc (.bool (wordOk s)))])] := by
  unfold okM at hs
  refine vc_of_ew good hm [0,2,3,7,19] Try.func27 rfl (by kernel_rfl) (by kernel_rfl) rfl ?_
  simp [Try.f27]
  refine ew_loop (fun E => ∃ i : Nat, i ≤ s.size ∧ lettersTo s i = true ∧ E = { nt := 23, sl := [(0, str s), (3, int .i64 i)], bx := [], rt := [] }) (fun E => s.size - (E.num 3).toNat) _ (Gh.kb _ [0,3] [] []) ⟨0, by omega, by simp [lettersTo], by simp⟩ ?_
  rintro E1 ⟨i, hi, hall, rfl⟩
  simp
  refine ⟨fun h => ⟨h, fun h1 => ⟨h1, h⟩, fun h1 => wordOk_no h ?_, fun h1 h2 => .of _ (Gh.kb _ [0,3] [] []) ⟨i + 1, by omega, ?_, ?_⟩ ?_⟩, fun h => .of (within_ok _ _ _) ?_⟩
  · rw [Bool.eq_false_iff]; intro h; rw [letter_iff] at h; unfold byteAt at h; omega
  · rw [lettersTo_succ, hall, Bool.true_and, letter_iff]; unfold byteAt; omega
  · simp [wrapS (show i < 9223372036854775807 by omega)]
  · simp [wrapS (show i < 9223372036854775807 by omega)]; omega
  · have : i = s.size := by omega
    subst this
    simp [wordOk, hall]
set_option maxHeartbeats 1000000 in
theorem wordOkS_ok (s : ByteArray) (hs : okM s.size) : VC Try.prog 31 [str s] [(false, [(.s, .sc (.bool (wordOk s)))])] := by
  unfold okM at hs
  refine vc_of_ew good hm [0,2,3,7,19] Try.func31 rfl (by kernel_rfl) (by kernel_rfl) rfl ?_
  simp [Try.f31]
  refine ew_loop (fun E => ∃ i : Nat, i ≤ s.size ∧ lettersTo s i = true ∧ E = { nt := 28, sl := [(0, str s), (3, int .i64 i)], bx := [], rt := [] }) (fun E => s.size - (E.num 3).toNat) _ (Gh.kb _ [0,3] [] []) ⟨0, by omega, by simp [lettersTo], by simp⟩ ?_
  rintro E1 ⟨i, hi, hall, rfl⟩
  simp
  refine ⟨fun h => ⟨h, fun h1 => ⟨h1, h⟩, fun h1 => wordOk_no h ?_, fun h1 h2 => .of _ (Gh.kb _ [0,3] [] []) ⟨i + 1, by omega, ?_, ?_⟩ ?_⟩, fun h => ?_⟩
  · rw [Bool.eq_false_iff]; intro h; rw [letter_iff] at h; unfold byteAt at h; omega
  · rw [lettersTo_succ, hall, Bool.true_and, letter_iff]; unfold byteAt; omega
  · simp [wrapS (show i < 9223372036854775807 by omega)]
  · simp [wrapS (show i < 9223372036854775807 by omega)]; omega
  · have : i = s.size := by omega
    subst this
    simp [wordOk, hall, within]
def geq (a b : ByteArray) : Bool := !Op.bytesLess a.toList b.toList
theorem rangeAll_succ (p : Nat → Bool) (n : Nat) : (List.range (n + 1)).all p = ((List.range n).all p && p n) := by
  simp [List.range_succ, List.all_append]
theorem rangeAll_no {p : Nat → Bool} {n i : Nat} (hi : i < n) (h : p i = false) : (List.range n).all p = false := by
  rw [Bool.eq_false_iff]
  intro ht
  simp only [List.all_eq_true, List.mem_range] at ht
  rw [ht i hi] at h
  cases h

end Go.Proofs.Yteeolohhmfjafaa

/-! YteeolohhmfjafaaVal -/
namespace Go.Proofs.Yteeolohhmfjafaa
open Go Go.Proofs Go.Sm
attribute [local simp] ti eStr eInt eByte eVal cVal vVal vValS vRow eCol vCol vColS vStrS cDdl vDdl vStmt ePart vPart vPartS eBatch cBatch vBatch cTable vTable
set_option linter.unusedVariables false
set_option linter.unusedSimpArgs false
set_option maxRecDepth 8000


def em (s : ByteArray) : Bool := s.toList.isEmpty
def valOk (v : GVal) : Bool := (decide (v.fTy = 0) && (decide (v.fN = 0) && em v.fS)) || (decide (v.fTy = 1) && ((decide (v.fN = 0) || decide (v.fN = 1)) && em v.fS)) || (decide (v.fTy = 2) && (within v.fN (-1099511627775) 1099511627775 && em v.fS)) || (decide (v.fTy = 3) && (decide (v.fN = 0) && decide ((v.fS.size : Int) ≤ 30)))
def nullV (v : GVal) : Bool := decide (v.fTy = 0) && (decide (v.fN = 0) && em v.fS)
theorem within01 (n : Int) : within n 0 1 = (decide (n = 0) || decide (n = 1)) := by
  unfold within
  rw [Bool.eq_iff_iff]
  simp
  omega
theorem beqI (a b : Int) : (a == b) = decide (a = b) := rfl
theorem l01Num_ok (n : Int) : VC Try.prog 128 [int .i64 n] [(false, [(.s, .sc (.bool (within n (-1099511627775) 1099511627775)))])] := by
  refine vc_of_ew good hm [0,2] Try.func128 rfl (by kernel_rfl) (by kernel_rfl) rfl ?_
  simp [Try.f128, within]
set_option maxHeartbeats 4000000 in
theorem valOkS_ok (v : GVal) : VC Try.prog 111 [vVal v] [(false, [(.s, .sc (.bool (valOk v)))])] := by
  refine vc_of_ew good hm [0,1,2,4,5,15,30,40] Try.func111 rfl (by kernel_rfl) (by kernel_rfl) rfl ?_
  simp [Try.f111]
  refine ⟨fun h => by simp [valOk, h, em], fun h0 => ⟨fun h => by simp [valOk, h, em], fun h1 => ⟨fun h => .of (l01Num_ok _) ?_, fun h2 => ⟨fun h => by simp [valOk, h], fun h3 => by simp [valOk, h0, h1, h2, h3]⟩⟩⟩⟩
  simp [valOk, h, em]
set_option maxHeartbeats 4000000 in
theorem valOkI_ok (v : GVal) : VC Try.prog 89 [vVal v] [(false, [(.s, .sc (.bool (valOk v)))])] := by
  refine vc_of_ew good hm [0,1,2,4,5,10,20,30] Try.func89 rfl (by kernel_rfl) (by kernel_rfl) rfl ?_
  simp [Try.f89]
  refine ⟨fun h => by simp [valOk, h, em, beqI], fun h0 => ⟨fun h => .of (within_ok _ _ _) ?_, fun h1 => ⟨fun h => .of (within_ok _ _ _) ?_, fun h2 => ⟨fun h => by simp [valOk, h], fun h3 => by simp [valOk, h0, h1, h2, h3]⟩⟩⟩⟩
  · simp [valOk, h, em, within01]
  · simp [valOk, h, em]
end Go.Proofs.Yteeolohhmfjafaa

/-! YteeolohhmfjafaaNum -/
namespace Go.Proofs.Yteeolohhmfjafaa
open Go Go.Proofs Go.Sm
attribute [local simp] ti eStr eInt eByte eVal cVal vVal vValS vRow eCol vCol vColS vStrS cDdl vDdl vStmt ePart vPart vPartS eBatch cBatch vBatch cTable vTable
set_option linter.unusedVariables false
set_option linter.unusedSimpArgs false
set_option maxRecDepth 8000


def ofT (l : List UInt8) : ByteArray := ⟨l.toArray⟩
def tx (s : ByteArray) : List UInt8 := s.data.toList
theorem ofT_tx (s : ByteArray) : ofT (tx s) = s := by simp [ofT, tx]
@[simp] theorem tx_ofT (l : List UInt8) : tx (ofT l) = l := by simp [ofT, tx]
@[simp] theorem tx_mk (a : Array UInt8) : tx ⟨a⟩ = a.toList := rfl
@[simp] theorem tx_app (a b : ByteArray) : tx (a ++ b) = tx a ++ tx b := by simp [tx]
theorem tx_ext {a b : ByteArray} (h : tx a = tx b) : a = b := by rw [← ofT_tx a, h, ofT_tx]
@[simp] theorem ofT_size (l : List UInt8) : (ofT l).size = l.length := List.size_toArray ..
theorem tx_len (s : ByteArray) : (tx s).length = s.size := Array.length_toList
def digs (n : Nat) : List UInt8 := if n < 10 then [UInt8.ofNat (48 + n)] else digs (n / 10) ++ [UInt8.ofNat (48 + n % 10)]
termination_by n
decreasing_by omega
theorem digs_lt {n : Nat} (h : n < 10) : digs n = [UInt8.ofNat (48 + n)] := by rw [digs, if_pos h]
theorem digs_ge {n : Nat} (h : 10 ≤ n) : digs n = digs (n / 10) ++ [UInt8.ofNat (48 + n % 10)] := by rw [digs, if_neg (by omega)]
theorem digs_len (n : Nat) : (digs n).length ≤ n + 1 := by
  induction n using Nat.strongRecOn with
  | _ n ih =>
    by_cases h : n < 10
    · rw [digs_lt h]; simp
    · rw [digs_ge (by omega)]
      have := ih (n / 10) (by omega)
      simp
      omega
def inN (n : Int) : Bool := within n (-1099511627775) 1099511627775
def numT (n : Int) : List UInt8 := if inN n = true then (if n < 0 then 45 :: digs n.natAbs else digs n.natAbs) else []
theorem wrapD {n : Nat} (h : n < 10) : IntKind.u8.wrap (IntKind.i64.wrap (48 + (n : Int))) = ((UInt8.ofNat (48 + n)).toNat : Int) := by
  rw [wrapI (by omega) (by omega), show (48 : Int) + (n : Int) = ((48 + n : Nat) : Int) by omega, wrapU8]
theorem tmod10 (n : Nat) : (n : Int).tmod 10 = ((n % 10 : Nat) : Int) := by
  rw [show (10 : Int) = ((10 : Nat) : Int) from rfl, ← Int.ofNat_tmod]
theorem wrapM (n : Nat) : IntKind.u8.wrap (IntKind.i64.wrap (48 + (n : Int).tmod 10)) = ((UInt8.ofNat (48 + n % 10)).toNat : Int) := by
  rw [tmod10, wrapD (by omega)]
set_option maxHeartbeats 4000000 in
theorem numTextS_pos : ∀ (n : Nat), n ≤ 1099511627775 → VC Try.prog 116 [int .i64 n] [(false, [(.s, .sc (.string (ofT (digs n))))])] := by
  intro n
  induction n using Nat.strongRecOn with
  | _ n ih =>
  intro hn
  refine vc_of_ew good hm [0,2,5,7,13] Try.func116 rfl (by kernel_rfl) (by kernel_rfl) rfl ?_
  simp [Try.f116]
  refine .of (l01Num_ok _) ?_
  have hin : within (n : Int) (-1099511627775) 1099511627775 = true := by simp [within]; omega
  simp [hin]
  have hq : IntKind.i64.wrap ((n : Int) / 10) = ((n / 10 : Nat) : Int) := by rw [wrapI (by omega) (by omega)]; omega
  refine ⟨fun h => by omega, fun h => ?_, fun h => ?_⟩
  · have h' : n < 10 := by omega
    rw [wrapD h', digs_lt h']
    refine ⟨⟨fun _ => rfl, isByteRow_l _⟩, ?_⟩
    rw [rowByte_l]
    rfl
  · rw [hq]
    refine .of (ih (n / 10) (by omega) (by omega)) ?_
    rw [digs_ge (by omega)]
    simp
    have hl := digs_len (n / 10)
    rw [wrapM]
    refine ⟨⟨fun _ => rfl, isByteRow_l _⟩, ?_, ?_⟩
    · show _ + 1 ≤ _
      omega
    · rw [rowByte_l]
      exact tx_ext (by simp [UInt8.ofNat_add])
theorem within_no {n : Int} (h : inN n = false) : numT n = [] := by simp [numT, h]
theorem numTextS_ok (n : Int) : VC Try.prog 116 [int .i64 n] [(false, [(.s, .sc (.string (ofT (numT n))))])] := by
  by_cases hp : 0 ≤ n ∧ n ≤ 1099511627775
  · obtain ⟨k, rfl⟩ := Int.eq_ofNat_of_zero_le hp.1
    have h1 : inN (k : Int) = true := by simp [inN, within]; omega
    have := numTextS_pos k (by omega)
    simpa [numT, h1, show ¬ ((k : Int) < 0) by omega] using this
  refine vc_of_ew good hm [0,2,5,7,13] Try.func116 rfl (by kernel_rfl) (by kernel_rfl) rfl ?_
  simp [Try.f116]
  refine .of (l01Num_ok _) ?_
  simp
  refine ⟨fun h => by rw [within_no h]; rfl, fun h => ?_⟩
  have hr : -1099511627775 ≤ n ∧ n ≤ 1099511627775 := by simpa [within] using h
  refine ⟨fun hneg => ?_, fun h0 => absurd ⟨h0, hr.2⟩ hp⟩
  rw [show IntKind.i64.wrap (-n) = ((n.natAbs : Nat) : Int) by rw [wrapI (by omega) (by omega)]; omega]
  refine .of (numTextS_pos n.natAbs (by omega)) ?_
  simp
  have hl := digs_len n.natAbs
  refine ⟨by show 1 + _ ≤ _; omega, ?_⟩
  exact tx_ext (by simp [numT, inN, h, hneg])
end Go.Proofs.Yteeolohhmfjafaa

/-! YteeolohhmfjafaaTxt -/
namespace Go.Proofs.Yteeolohhmfjafaa
open Go Go.Proofs Go.Sm
attribute [local simp] ti eStr eInt eByte eVal cVal vVal vValS vRow eCol vCol vColS vStrS cDdl vDdl vStmt ePart vPart vPartS eBatch cBatch vBatch cTable vTable
set_option linter.unusedVariables false
set_option linter.unusedSimpArgs false
set_option maxRecDepth 8000


def hexT : ByteArray := ⟨#[48, 49, 50, 51, 52, 53, 54, 55, 56, 57, 97, 98, 99, 100, 101, 102]⟩
def hexB (k : Nat) : UInt8 := hexT.data.getD k 0
def plainB (b : UInt8) : Bool := decide (33 ≤ b.toNat) && decide (b.toNat ≤ 126) && !decide (b.toNat = 39) && !decide (b.toNat = 37)
def escB (b : UInt8) : List UInt8 := if plainB b = true then [b] else [37, hexB (b.toNat / 16), hexB (b.toNat % 16)]
def escT (l : List UInt8) : List UInt8 := l.flatMap escB
def boolT (n : Int) : List UInt8 := if n = 1 then [116, 114, 117, 101] else [102, 97, 108, 115, 101]
def valT (v : GVal) : List UInt8 := if valOk v = false then [] else if v.fTy = 0 then [110, 117, 108, 108] else if v.fTy = 1 then boolT v.fN else if v.fTy = 2 then numT v.fN else 39 :: (escT (tx v.fS) ++ [39])
theorem boolTextS_ok (n : Int) : VC Try.prog 115 [int .i64 n] [(false, [(.s, .sc (.string (ofT (boolT n))))])] := by
  refine vc_of_ew good hm [0,2,4] Try.func115 rfl (by kernel_rfl) (by kernel_rfl) rfl ?_
  simp [Try.f115]
  refine ⟨fun h => by simp [boolT, h, ofT], fun h => by simp [boolT, h, ofT]⟩
theorem l01Hex_ok (d : Nat) (hd : d < 16) : VC Try.prog 117 [int .i64 d] [(false, [(.s, .sc (.int .u8 ((hexB d).toNat : Int)))])] := by
  refine vc_of_ew good hm [0,2] Try.func117 rfl (by kernel_rfl) (by kernel_rfl) rfl ?_
  simp [Try.f117]
  have hm : (d : Int).tmod 16 = (d : Int) := by rw [show (16 : Int) = ((16 : Nat) : Int) from rfl, ← Int.ofNat_tmod, Nat.mod_eq_of_lt hd]
  rw [hm]
  refine ⟨⟨by omega, ?_⟩, ?_⟩
  · show (d : Int) < 16
    omega
  · simp [hexB, hexT]
theorem escB_len (b : UInt8) : (escB b).length ≤ 3 := by unfold escB; split <;> simp
theorem escT_len (l : List UInt8) : (escT l).length ≤ l.length * 3 := by
  induction l with
  | nil => simp [escT]
  | cons b l ih =>
    have := escB_len b
    simp only [escT, List.flatMap_cons, List.length_append, List.length_cons] at ih ⊢
    omega
theorem escT_succ {l : List UInt8} {i : Nat} (h : i < l.length) : escT (l.take (i + 1)) = escT (l.take i) ++ escB l[i] := by
  unfold escT
  rw [List.take_succ_eq_append_getElem h, List.flatMap_append]
  simp only [List.flatMap_cons, List.flatMap_nil, List.append_nil]
theorem escT_at {s : ByteArray} {i : Nat} (h : i < s.size) : escT ((tx s).take (i + 1)) = escT ((tx s).take i) ++ escB (s.data[i]?.getD 0) := by
  have h' : i < (tx s).length := by rw [tx_len]; exact h
  have h2 : i < s.data.size := h
  rw [escT_succ h', Array.getElem?_eq_getElem h2, Option.getD_some]
  rfl
theorem byte39 : isByteRow [.sc (.int .u8 39)] := ⟨39, rfl⟩
theorem rb39 : rowByte [.sc (.int .u8 39)] = 39 := rowByte_l 39
theorem u8div (b : UInt8) : IntKind.i64.wrap ((IntKind.i64.wrap (b.toNat : Int)).tdiv 16) = ((b.toNat / 16 : Nat) : Int) := by
  have hb := b.toNat_lt
  rw [wrapI (i := (b.toNat : Int)) (by omega) (by omega), show (16 : Int) = ((16 : Nat) : Int) from rfl, ← Int.ofNat_tdiv, wrapI (by omega) (by omega)]
theorem u8mod (b : UInt8) : (IntKind.i64.wrap (b.toNat : Int)).tmod 16 = ((b.toNat % 16 : Nat) : Int) := by
  have hb := b.toNat_lt
  rw [wrapI (i := (b.toNat : Int)) (by omega) (by omega), show (16 : Int) = ((16 : Nat) : Int) from rfl, ← Int.ofNat_tmod]
theorem plainB_iff (b : UInt8) : plainB b = true ↔ 33 ≤ b.toNat ∧ b.toNat ≤ 126 ∧ b.toNat ≠ 39 ∧ b.toNat ≠ 37 := by
  simp [plainB, and_assoc]
theorem valT_text {v : GVal} (h : valOk v = true) (h0 : ¬ v.fTy = 0) (h1 : ¬ v.fTy = 1) (h2 : ¬ v.fTy = 2) : ofT (valT v) = ⟨(39 :: (escT (tx v.fS) ++ [39])).toArray⟩ := by
  simp only [valT, h, h0, h1, h2, if_false, Bool.true_eq_false]
  rfl
set_option maxHeartbeats 8000000 in
theorem valTextS_ok (v : GVal) : VC Try.prog 99 [vVal v] [(false, [(.s, .sc (.string (ofT (valT v))))])] := by
  refine vc_of_ew good hm [0,1,2,8,10,11,13,18,3,4,28,5,48] Try.func99 rfl (by kernel_rfl) (by kernel_rfl) rfl ?_
  simp [Try.f99]
  refine .of (valOkS_ok v) ?_
  simp
  refine ⟨fun h => by simp [valT, h, ofT], fun h => ⟨fun h0 => by simp [valT, h, h0, ofT], fun h0 => ⟨fun h1 => ?_, fun h1 => ⟨fun h2 => ?_, fun h2 => ?_⟩⟩⟩⟩
  · refine .of (boolTextS_ok _) ?_
    simp [valT, h, h0, h1]
  · refine .of (numTextS_ok _) ?_
    simp [valT, h, h0, h1, h2]
  have hv := h
  have hsz : v.fS.size ≤ 30 := by
    simp [valOk, h0, h1, h2] at hv
    omega
  replace hv := h
  refine ew_loop (fun E => ∃ i : Nat, i ≤ v.fS.size ∧ E = { nt := 68, sl := [(1, .p (.bx 1 0)), (3, .v false [.r [23]]), (4, int .i64 i)], bx := [(1, cVal v)], rt := [(23, .o 5 (fun _ => [.s]), .ls [.sc (.int .u8 0)] ((39 :: escT ((tx v.fS).take i)).map eByte))] }) (fun E => v.fS.size - (E.num 4).toNat) _ (Gh.kb _ [1,3,4] [1] [23]) ⟨0, by omega, by simp [escT]⟩ ?_
  rintro E1 ⟨i, hi, rfl⟩
  simp
  have hel := escT_len ((tx v.fS).take i)
  rw [List.length_take] at hel
  obtain ⟨b, hb⟩ : ∃ b, v.fS.data[i]?.getD 0 = b := ⟨_, rfl⟩
  rw [hb]
  refine ⟨fun h => ⟨h, fun p1 p2 p3 p4 => ⟨by omega, .of _ ((Gh.kb _ [1,3,4] [1] [52]).trans (Gh.rn _ 52 23)) ⟨i + 1, by omega, ?_⟩ ?_⟩, fun hp => ?_⟩, fun h => ?_⟩
  · rw [escT_at h, hb, escB, if_pos ((plainB_iff b).2 (by omega))]
    simp [wrapS (show i < 9223372036854775807 by omega), eByte]
  · simp [wrapS (show i < 9223372036854775807 by omega)]; omega
  · have hb8 := b.toNat_lt
    rw [u8div]
    refine .of (l01Hex_ok (b.toNat / 16) (by omega)) ?_
    simp
    rw [u8mod]
    refine .of (l01Hex_ok (b.toNat % 16) (by omega)) ?_
    simp
    refine ⟨by omega, .of _ ((Gh.kb _ [1,3,4] [1] [63]).trans (Gh.rn _ 63 23)) ⟨i + 1, by omega, ?_⟩ ?_⟩
    · rw [escT_at h, hb, escB, if_neg (fun hc => by have := (plainB_iff b).1 hc; omega)]
      simp [wrapS (show i < 9223372036854775807 by omega), eByte]
    · simp [wrapS (show i < 9223372036854775807 by omega)]; omega
  · have hi' : i = v.fS.size := by omega
    subst hi'
    refine ⟨by omega, ⟨fun _ => rfl, byte39, fun a ha => ?_⟩, ?_⟩
    · rcases ha with ⟨x, _, rfl⟩ | rfl
      · exact isByteRow_l x
      · exact byte39
    · rw [valT_text hv h0 h1 h2, rb39, List.take_of_length_le (by rw [tx_len]; omega)]
      simp [Function.comp_def]
end Go.Proofs.Yteeolohhmfjafaa

/-! YteeolohhmfjafaaSlices -/
namespace Go.Proofs.Yteeolohhmfjafaa
open Go Go.Proofs Go.Sm
attribute [local simp] ti eStr eInt eByte eVal cVal vVal vValS vRow eCol vCol vColS vStrS cDdl vDdl vStmt ePart vPart vPartS eBatch cBatch vBatch cTable vTable
set_option linter.unusedVariables false
set_option linter.unusedSimpArgs false
set_option maxRecDepth 8000


def idxF {α : Type} (p : α → Bool) (l : List α) : Int := if l.any p then (l.findIdx p : Int) else -1
def anyT {α : Type} (p : α → Bool) (l : List α) (i : Nat) : Bool := (l.take i).any p
theorem anyT_zero {α : Type} (p : α → Bool) (l : List α) : anyT p l 0 = false := by simp [anyT]
theorem anyT_all {α : Type} (p : α → Bool) (l : List α) : anyT p l l.length = l.any p := by simp [anyT]
theorem anyT_succ {α : Type} (p : α → Bool) (d : α) {l : List α} {i : Nat} (h : i < l.length) : anyT p l (i + 1) = (anyT p l i || p (l[i]?.getD d)) := by
  unfold anyT
  rw [List.take_succ_eq_append_getElem h, List.any_append, List.getElem?_eq_getElem h]
  simp
theorem idxF_at {α : Type} (p : α → Bool) (d : α) {l : List α} {i : Nat} (h : i < l.length) (h0 : anyT p l i = false) (hp : p (l[i]?.getD d) = true) : idxF p l = i := by
  rw [List.getElem?_eq_getElem h, Option.getD_some] at hp
  have ha : l.any p = true := List.any_eq_true.2 ⟨_, List.getElem_mem h, hp⟩
  rw [idxF, if_pos ha, (List.findIdx_eq h).2 ⟨hp, fun j hj => ?_⟩]
  rw [anyT, List.any_eq_false] at h0
  have := h0 l[j] (List.mem_take_iff_getElem.2 ⟨j, by omega, rfl⟩)
  simpa using this
theorem idxF_no {α : Type} (p : α → Bool) {l : List α} (h0 : l.any p = false) : idxF p l = -1 := by simp [idxF, h0]
theorem idxF_ge {α : Type} (p : α → Bool) (l : List α) : decide (0 ≤ idxF p l) = l.any p := by
  unfold idxF
  split
  · rename_i h; simp [h]
  · rename_i h; simp only [Bool.not_eq_true] at h; rw [h]; rfl
theorem idxF_bd {α : Type} (p : α → Bool) (l : List α) : -1 ≤ idxF p l ∧ idxF p l < l.length := by
  unfold idxF
  split
  · rename_i h
    have := List.findIdx_lt_length.2 (List.any_eq_true.1 h)
    omega
  · omega
set_option maxHeartbeats 4000000 in
theorem idxCol1_ok (l : List GCol) (k : Nat) (ds : List Lf) (p : GCol → Bool) (hl : okM l.length) (hk : ∀ x ∈ l, VC Try.prog k [vCol x, .p (.ps ds)] [(false, [(.s, .sc (.bool (p x)))])]) :
    VC Try.prog 41 [vColS l, .fn k [.ps ds]] [(false, [(.s, .sc (.int .i64 (idxF p l)))])] := by
  unfold okM at hl
  refine vc_of_ew good hm [0,1,4,7,8,9,5,16] Try.func41 rfl (by kernel_rfl) (by kernel_rfl) rfl ?_
  simp [Try.f41]
  refine ew_loop (fun E => ∃ i : Nat, i ≤ l.length ∧ anyT p l i = false ∧ E = { nt := 19, sl := [(0, vColS l), (1, .fn k [.ps ds]), (7, int .i64 l.length), (8, int .i64 i)], bx := [], rt := [] }) (fun E => l.length - (E.num 8).toNat) _ (Gh.kb _ [0,1,7,8] [] []) ⟨0, by omega, anyT_zero _ _, by simp⟩ ?_
  rintro E1 ⟨i, hi, hall, rfl⟩
  simp
  refine ⟨fun h => ⟨h, .of (hk _ (getD_mem dCol h)) ?_⟩, fun h => ?_⟩
  · simp
    refine ⟨fun hp => (idxF_at p dCol h hall hp).symm, fun hp => .of _ (Gh.kb _ [0,1,7,8] [] []) ⟨i + 1, by omega, by rw [anyT_succ p dCol h, hall, hp]; rfl, ?_⟩ ?_⟩
    · simp [wrapS (show i < 9223372036854775807 by omega)]
    · simp [wrapS (show i < 9223372036854775807 by omega)]; omega
  · have : i = l.length := by omega
    subst this
    rw [anyT_all] at hall
    exact (idxF_no p hall).symm
set_option maxHeartbeats 4000000 in
theorem idxStr0_ok (l : List ByteArray) (k : Nat)  (p : ByteArray → Bool) (hl : okM l.length) (hk : ∀ x ∈ l, VC Try.prog k [str x] [(false, [(.s, .sc (.bool (p x)))])]) :
    VC Try.prog 90 [vStrS l, .fn k []] [(false, [(.s, .sc (.int .i64 (idxF p l)))])] := by
  unfold okM at hl
  refine vc_of_ew good hm [0,1,4,7,8,9,5,16] Try.func90 rfl (by kernel_rfl) (by kernel_rfl) rfl ?_
  simp [Try.f90]
  refine ew_loop (fun E => ∃ i : Nat, i ≤ l.length ∧ anyT p l i = false ∧ E = { nt := 19, sl := [(0, vStrS l), (1, .fn k []), (7, int .i64 l.length), (8, int .i64 i)], bx := [], rt := [] }) (fun E => l.length - (E.num 8).toNat) _ (Gh.kb _ [0,1,7,8] [] []) ⟨0, by omega, anyT_zero _ _, by simp⟩ ?_
  rintro E1 ⟨i, hi, hall, rfl⟩
  simp
  refine ⟨fun h => ⟨h, .of (hk _ (getD_mem (⟨#[]⟩ : ByteArray) h)) ?_⟩, fun h => ?_⟩
  · simp
    refine ⟨fun hp => (idxF_at p (⟨#[]⟩ : ByteArray) h hall hp).symm, fun hp => .of _ (Gh.kb _ [0,1,7,8] [] []) ⟨i + 1, by omega, by rw [anyT_succ p (⟨#[]⟩ : ByteArray) h, hall, hp]; rfl, ?_⟩ ?_⟩
    · simp [wrapS (show i < 9223372036854775807 by omega)]
    · simp [wrapS (show i < 9223372036854775807 by omega)]; omega
  · have : i = l.length := by omega
    subst this
    rw [anyT_all] at hall
    exact (idxF_no p hall).symm
set_option maxHeartbeats 4000000 in
theorem idxVal0_ok (l : List GVal) (k : Nat)  (p : GVal → Bool) (hl : okM l.length) (hk : ∀ x ∈ l, VC Try.prog k [vVal x] [(false, [(.s, .sc (.bool (p x)))])]) :
    VC Try.prog 135 [vValS l, .fn k []] [(false, [(.s, .sc (.int .i64 (idxF p l)))])] := by
  unfold okM at hl
  refine vc_of_ew good hm [0,1,4,7,8,9,5,16] Try.func135 rfl (by kernel_rfl) (by kernel_rfl) rfl ?_
  simp [Try.f135]
  refine ew_loop (fun E => ∃ i : Nat, i ≤ l.length ∧ anyT p l i = false ∧ E = { nt := 19, sl := [(0, vValS l), (1, .fn k []), (7, int .i64 l.length), (8, int .i64 i)], bx := [], rt := [] }) (fun E => l.length - (E.num 8).toNat) _ (Gh.kb _ [0,1,7,8] [] []) ⟨0, by omega, anyT_zero _ _, by simp⟩ ?_
  rintro E1 ⟨i, hi, hall, rfl⟩
  simp
  refine ⟨fun h => ⟨h, .of (hk _ (getD_mem dVal h)) ?_⟩, fun h => ?_⟩
  · simp
    refine ⟨fun hp => (idxF_at p dVal h hall hp).symm, fun hp => .of _ (Gh.kb _ [0,1,7,8] [] []) ⟨i + 1, by omega, by rw [anyT_succ p dVal h, hall, hp]; rfl, ?_⟩ ?_⟩
    · simp [wrapS (show i < 9223372036854775807 by omega)]
    · simp [wrapS (show i < 9223372036854775807 by omega)]; omega
  · have : i = l.length := by omega
    subst this
    rw [anyT_all] at hall
    exact (idxF_no p hall).symm
theorem hasStr0_ok (l : List ByteArray) (k : Nat)  (p : ByteArray → Bool) (hl : okM l.length) (hk : ∀ x ∈ l, VC Try.prog k [str x] [(false, [(.s, .sc (.bool (p x)))])]) :
    VC Try.prog 63 [vStrS l, .fn k []] [(false, [(.s, .sc (.bool (l.any p)))])] := by
  refine vc_of_ew good hm [0,1,4] Try.func63 rfl (by kernel_rfl) (by kernel_rfl) rfl ?_
  simp [Try.f63]
  refine .of (idxStr0_ok l k p hl hk) ?_
  simp
  exact idxF_ge p l
theorem hasVal0_ok (l : List GVal) (k : Nat)  (p : GVal → Bool) (hl : okM l.length) (hk : ∀ x ∈ l, VC Try.prog k [vVal x] [(false, [(.s, .sc (.bool (p x)))])]) :
    VC Try.prog 123 [vValS l, .fn k []] [(false, [(.s, .sc (.bool (l.any p)))])] := by
  refine vc_of_ew good hm [0,1,4] Try.func123 rfl (by kernel_rfl) (by kernel_rfl) rfl ?_
  simp [Try.f123]
  refine .of (idxVal0_ok l k p hl hk) ?_
  simp
  exact idxF_ge p l
end Go.Proofs.Yteeolohhmfjafaa

/-! YteeolohhmfjafaaCat -/
namespace Go.Proofs.Yteeolohhmfjafaa
open Go Go.Proofs Go.Sm
attribute [local simp] ti eStr eInt eByte eVal cVal vVal vValS vRow eCol vCol vColS vStrS cDdl vDdl vStmt ePart vPart vPartS eBatch cBatch vBatch cTable vTable
set_option linter.unusedVariables false
set_option linter.unusedSimpArgs false
set_option maxRecDepth 8000


def colOk (c : GCol) : Bool := wordOk c.fName && within c.fTy 1 3 && (if c.fHas then valOk c.fDef && (decide (c.fDef.fTy = c.fTy) || (decide (c.fDef.fTy = 0) && !c.fNot)) else nullV c.fDef)
set_option maxHeartbeats 4000000 in
set_option maxRecDepth 4000 in
theorem colOkS_ok (c : GCol) (hc : okCol c) : VC Try.prog 91 [vCol c] [(false, [(.s, .sc (.bool (colOk c)))])] := by
  refine vc_of_ew good hm [0,1,2,3,21,24] Try.func91 rfl (by kernel_rfl) (by kernel_rfl) rfl ?_
  simp [Try.f91]
  refine .of (wordOkS_ok _ hc.1) ?_
  simp [beqI]
  refine ⟨fun h => by grind [colOk, within], fun h1 h2 h3 => ⟨fun h4 => by grind [colOk, nullV, em, within], fun h4 => .of (valOkS_ok _) ?_⟩⟩
  simp
  grind [colOk, nullV, em, within, valOk]
set_option maxHeartbeats 4000000 in
set_option maxRecDepth 4000 in
theorem colOkI_ok (c : GCol) (hc : okCol c) : VC Try.prog 61 [vCol c] [(false, [(.s, .sc (.bool (colOk c)))])] := by
  refine vc_of_ew good hm [0,1,2,18,21] Try.func61 rfl (by kernel_rfl) (by kernel_rfl) rfl ?_
  simp [Try.f61]
  refine .of (wordOkI_ok _ hc.1) ?_
  simp [beqI]
  refine .of (fun h => ⟨h, within_ok _ _ _⟩) ?_
  simp [beqI]
  refine .of (fun h => ⟨h, valOkI_ok _⟩) ?_
  simp [beqI]
  grind [colOk, nullV, em, within, valOk]
def colAt (t : GTable) (s : ByteArray) : Int := idxF (fun c : GCol => c.fName.toList == s.toList) t.fCols
set_option maxHeartbeats 4000000 in
theorem colAtS_ok (t : GTable) (s : ByteArray) (hl : okM t.fCols.length) : VC Try.prog 68 [vTable t, str s] [(false, [(.s, .sc (.int .i64 (colAt t s)))])] := by
  unfold okM at hl
  refine vc_of_ew good hm [0,1,2,4,8,9,10,11,6,5,18] Try.func68 rfl (by kernel_rfl) (by kernel_rfl) rfl ?_
  simp [Try.f68]
  refine ew_loop (fun E => ∃ i : Nat, i ≤ t.fCols.length ∧ anyT (fun c : GCol => c.fName.toList == s.toList) t.fCols i = false ∧ E = { nt := 21, sl := [(1, str s), (8, vColS t.fCols), (9, int .i64 t.fCols.length), (10, int .i64 i)], bx := [], rt := [] }) (fun E => t.fCols.length - (E.num 10).toNat) _ (Gh.kb _ [1,8,9,10] [] []) ⟨0, by omega, anyT_zero _ _, by simp⟩ ?_
  rintro E1 ⟨i, hi, hall, rfl⟩
  simp
  refine ⟨fun h => ⟨h, fun hp => (idxF_at _ dCol h hall (by simpa using hp)).symm, fun hp => .of _ (Gh.kb _ [1,8,9,10] [] []) ⟨i + 1, by omega, by rw [anyT_succ _ dCol h, hall]; simpa using hp, ?_⟩ ?_⟩, fun h => ?_⟩
  · simp [wrapS (show i < 9223372036854775807 by omega)]
  · simp [wrapS (show i < 9223372036854775807 by omega)]; omega
  · have : i = t.fCols.length := by omega
    subst this
    rw [anyT_all] at hall
    exact (idxF_no _ hall).symm
theorem colAt1_ok (c : GCol) (s : ByteArray) : VC Try.prog 42 [vCol c, .p (.ps [.sc (.string s)])] [(false, [(.s, .sc (.bool (c.fName.toList == s.toList)))])] := by
  refine vc_of_ew good hm [0,1,2,3] Try.func42 rfl (by kernel_rfl) (by kernel_rfl) rfl ?_
  simp [Try.f42]
theorem colAtI_ok (t : GTable) (s : ByteArray) (hl : okM t.fCols.length) : VC Try.prog 14 [vTable t, str s] [(false, [(.s, .sc (.int .i64 (colAt t s)))])] := by
  refine vc_of_ew good hm [0,1,2,3,4] Try.func14 rfl (by kernel_rfl) (by kernel_rfl) rfl ?_
  simp [Try.f14]
  refine .of (idxCol1_ok t.fCols _ _ (fun c : GCol => c.fName.toList == s.toList) hl (fun x _ => colAt1_ok x s)) ?_
  simp [colAt]

end Go.Proofs.Yteeolohhmfjafaa

/-! YteeolohhmfjafaaWords -/
namespace Go.Proofs.Yteeolohhmfjafaa
open Go Go.Proofs Go.Sm
attribute [local simp] ti eStr eInt eByte eVal cVal vVal vValS vRow eCol vCol vColS vStrS cDdl vDdl vStmt ePart vPart vPartS eBatch cBatch vBatch cTable vTable
set_option linter.unusedVariables false
set_option linter.unusedSimpArgs false
set_option maxRecDepth 8000


def joinT : List (List UInt8) → List UInt8
  | [] => []
  | w :: r => w ++ r.flatMap (fun x => 32 :: x)
theorem joinT_snoc (l : List (List UInt8)) (w : List UInt8) : joinT (l ++ [w]) = (if l = [] then [] else joinT l ++ [32]) ++ w := by
  cases l with
  | nil => simp [joinT]
  | cons a r => simp [joinT]
theorem joinT_pre (l r : List (List UInt8)) : (joinT l).length ≤ (joinT (l ++ r)).length := by
  cases l with
  | nil => simp [joinT]
  | cons a l => simp [joinT]
def wsT (l : List ByteArray) : List UInt8 := joinT (l.map tx)
theorem wsT_snoc (l : List ByteArray) (w : ByteArray) : wsT (l ++ [w]) = (if l = [] then [] else wsT l ++ [32]) ++ tx w := by
  simp only [wsT, List.map_append, List.map_cons, List.map_nil, joinT_snoc, List.map_eq_nil_iff]
theorem wsT_take {l : List ByteArray} {i : Nat} (h : i < l.length) : wsT (l.take (i + 1)) = (if i = 0 then [] else wsT (l.take i) ++ [32]) ++ tx (l[i]?.getD ⟨#[]⟩) := by
  rw [List.take_succ_eq_append_getElem h, wsT_snoc, List.getElem?_eq_getElem h, Option.getD_some]
  congr 1
  by_cases h0 : i = 0
  · subst h0; simp
  · rw [if_neg h0, if_neg (fun e => by
      rcases List.take_eq_nil_iff.1 e with e | e
      · exact h0 e
      · subst e; simp at h)]
theorem wsT_pre (l : List ByteArray) (i : Nat) : (wsT (l.take i)).length ≤ (wsT l).length := by
  have := joinT_pre ((l.take i).map tx) ((l.drop i).map tx)
  rw [← List.map_append, List.take_append_drop] at this
  exact this
set_option maxHeartbeats 4000000 in
theorem joinS_ok (l : List ByteArray) (hl : l.length ≤ 1099511627776) (hs : (wsT l).length ≤ 4611686018427387904) : VC Try.prog 74 [vStrS l] [(false, [(.s, .sc (.string (ofT (wsT l))))])] := by
  refine vc_of_ew good hm [0,2,3,6,7,8,9,4,5,14] Try.func74 rfl (by kernel_rfl) (by kernel_rfl) rfl ?_
  simp [Try.f74]
  refine ew_loop (fun E => ∃ i : Nat, i ≤ l.length ∧ E = { nt := 22, sl := [(3, str (ofT (wsT (l.take i)))), (6, vStrS l), (7, int .i64 l.length), (8, int .i64 i)], bx := [], rt := [] }) (fun E => l.length - (E.num 8).toNat) _ (Gh.kb _ [3,6,7,8] [] []) ⟨0, by omega, by simp [wsT, joinT, ofT]⟩ ?_
  rintro E1 ⟨i, hi, rfl⟩
  simp
  have h1 := wsT_pre l i
  refine ⟨fun h => ⟨h, fun h0 => ?_, fun h0 => ?_⟩, fun h => ?_⟩
  · have hp := wsT_pre l (i + 1)
    rw [wsT_take h, if_neg (by omega)] at hp
    simp only [List.length_append, tx_len, List.length_cons, List.length_nil] at hp
    refine ⟨?_, ?_, .of _ (Gh.kb _ [3,6,7,8] [] []) ⟨i + 1, by omega, ?_⟩ ?_⟩
    · show _ + 1 ≤ _
      omega
    · show _ + 1 + _ ≤ _
      omega
    · rw [wsT_take h, if_neg (by omega)]
      simp [wrapS (show i < 9223372036854775807 by omega)]
      exact tx_ext (by simp)
    · simp [wrapS (show i < 9223372036854775807 by omega)]; omega
  · have hp := wsT_pre l (i + 1)
    rw [wsT_take h, if_pos h0] at hp
    simp only [List.length_append, tx_len, List.length_nil] at hp
    have hz : wsT (l.take i) = [] := by subst h0; rfl
    refine ⟨?_, .of _ (Gh.kb _ [3,6,7,8] [] []) ⟨i + 1, by omega, ?_⟩ ?_⟩
    · rw [hz, List.length_nil]; omega
    · rw [wsT_take h, if_pos h0, hz]
      simp [wrapS (show i < 9223372036854775807 by omega)]
      exact tx_ext (by simp)
    · simp [wrapS (show i < 9223372036854775807 by omega)]; omega
  · have hi' : i = l.length := by omega
    subst hi'
    simp
def tyT (t : Int) : ByteArray := if t = 1 then ⟨#[98, 111, 111, 108]⟩ else if t = 2 then ⟨#[105, 110, 116]⟩ else if t = 3 then ⟨#[116, 101, 120, 116]⟩ else ⟨#[]⟩
def tyL : List ByteArray := [⟨#[]⟩, ⟨#[98, 111, 111, 108]⟩, ⟨#[105, 110, 116]⟩, ⟨#[116, 101, 120, 116]⟩]
theorem typesS_ok : VC Try.prog 131 [] [(false, mStrS tyL)] := by
  refine vc_of_ew good hm [0] Try.func131 rfl (by kernel_rfl) (by kernel_rfl) rfl ?_
  simp [Try.f131, mStrS, tyL]
theorem tyL_at (t : Int) (h : 0 ≤ t ∧ t ≤ 3) : tyL[t.toNat]?.getD ⟨#[]⟩ = tyT t := by
  have ht : t = 0 ∨ t = 1 ∨ t = 2 ∨ t = 3 := by omega
  rcases ht with rfl | rfl | rfl | rfl <;> simp [tyL, tyT]
theorem colTy {c : GCol} (h : colOk c = true) : 0 ≤ c.fTy ∧ c.fTy ≤ 3 := by
  simp [colOk, within] at h
  omega
theorem colNm {c : GCol} (h : colOk c = true) : wordOk c.fName = true := by
  simp [colOk] at h
  exact h.1.1
theorem wordLen {s : ByteArray} (h : wordOk s = true) : s.size ≤ 12 := by
  simp only [wordOk, Bool.and_eq_true] at h
  have := h.2
  simp [within] at this
  omega
theorem szMk (a : Array UInt8) : (⟨a⟩ : ByteArray).size = a.size := rfl
theorem tyT_len (t : Int) : (tyT t).size ≤ 4 := by
  unfold tyT
  split
  · decide
  split
  · decide
  split <;> decide
theorem digs_len2 : ∀ (k n : Nat), n < 10 ^ (k + 1) → (digs n).length ≤ k + 1 := by
  intro k
  induction k with
  | zero => intro n h; rw [digs_lt (by simpa using h)]; simp
  | succ k ih =>
    intro n h
    by_cases h10 : n < 10
    · rw [digs_lt h10]; simp
    · rw [digs_ge (by omega)]
      have := ih (n / 10) (by rw [Nat.pow_succ] at h; omega)
      simp
      omega
theorem numT_len (n : Int) : (numT n).length ≤ 14 := by
  unfold numT
  split
  · rename_i h
    simp [inN, within] at h
    have := digs_len2 12 n.natAbs (by simp; omega)
    split <;> simp <;> omega
  · simp
theorem valT_len (v : GVal) : (valT v).length ≤ 92 := by
  unfold valT
  split
  · simp
  split
  · simp
  split
  · unfold boolT; split <;> simp
  split
  · have := numT_len v.fN
    omega
  · rename_i hv h0 h1 h2
    have hs : v.fS.size ≤ 30 := by
      cases h : valOk v with
      | false => exact absurd h hv
      | true => simp [valOk, h0, h1, h2] at h; omega
    have := escT_len (tx v.fS)
    rw [tx_len] at this
    simp
    omega
def colW (c : GCol) : List ByteArray := [c.fName, tyT c.fTy] ++ (if c.fNot = true then [⟨#[110, 111, 116]⟩] else []) ++ (if c.fHas = true then [ofT (61 :: valT c.fDef)] else [])
set_option maxHeartbeats 4000000 in
theorem colWS_ok (c : GCol) (hc : okCol c) (h : colOk c = true) : VC Try.prog 118 [vCol c] [(false, mStrS (colW c))] := by
  refine vc_of_ew good hm [0,1,2,3,13,18] Try.func118 rfl (by kernel_rfl) (by kernel_rfl) rfl ?_
  simp [Try.f118]
  refine .of typesS_ok ?_
  have hty := colTy h
  have hl4 : tyL.length = 4 := rfl
  simp [mStrS, md, lf, List.range', tyL_at _ hty, hl4]
  have hvl := valT_len c.fDef
  have hsz : (⟨#[61]⟩ : ByteArray).size = 1 := rfl
  have e61 : (⟨#[61]⟩ : ByteArray) ++ ofT (valT c.fDef) = ofT (61 :: valT c.fDef) := tx_ext (by simp)
  refine ⟨by omega, by omega, fun h1 => ⟨fun h2 => .of (valTextS_ok _) ?_, fun h2 => by simp [colW, h1, h2]⟩, fun h1 => ⟨fun h2 => .of (valTextS_ok _) ?_, fun h2 => by simp [colW, h1, h2]⟩⟩
  · simp [hsz, e61, colW, h1, h2]
    omega
  · simp [hsz, e61, colW, h1, h2]
    omega
theorem wsT_le {l : List ByteArray} {B : Nat} (h : ∀ w ∈ l, w.size ≤ B) : (wsT l).length ≤ l.length * (B + 1) := by
  have key : ∀ r : List ByteArray, (∀ w ∈ r, w.size ≤ B) → ((r.map tx).flatMap fun x => 32 :: x).length ≤ r.length * (B + 1) := by
    intro r
    induction r with
    | nil => intro _; simp
    | cons a r ih =>
      intro hr
      have h1 := hr a (by simp)
      have h2 := ih fun w hw => hr w (by simp [hw])
      simp only [List.map_cons, List.flatMap_cons, List.length_append, List.length_cons, tx_len, Nat.add_mul, Nat.one_mul] at h2 ⊢
      omega
  cases l with
  | nil => simp [wsT, joinT]
  | cons a r =>
    have h1 := h a (by simp)
    have h2 := key r fun w hw => h w (by simp [hw])
    simp only [wsT, List.map_cons, joinT, List.length_append, tx_len, List.length_cons, Nat.add_mul, Nat.one_mul] at h2 ⊢
    omega
def valW (l : List GVal) : List ByteArray := l.map fun v => ofT (valT v)
theorem valW_len (l : List GVal) : (valW l).length = l.length := by simp [valW]
theorem valW_size (l : List GVal) : ∀ w ∈ valW l, w.size ≤ 92 := by
  intro w hw
  obtain ⟨v, _, rfl⟩ := List.mem_map.1 hw
  rw [ofT_size]
  exact valT_len v
theorem valW_take {l : List GVal} {i : Nat} (h : i < l.length) : valW (l.take (i + 1)) = valW (l.take i) ++ [ofT (valT (l[i]?.getD dVal))] := by
  unfold valW
  rw [List.take_succ_eq_append_getElem h, List.getElem?_eq_getElem h, List.map_append]
  rfl
theorem colW_size {c : GCol} (h : colOk c = true) : ∀ w ∈ colW c, w.size ≤ 93 := by
  intro w hw
  have h1 := wordLen (colNm h)
  have h2 := tyT_len c.fTy
  have h3 := valT_len c.fDef
  simp only [colW, List.mem_append, List.mem_cons, List.not_mem_nil, or_false] at hw
  rcases hw with ((rfl | rfl) | hw) | hw
  · omega
  · omega
  · split at hw
    · rw [List.mem_singleton] at hw; subst hw; decide
    · cases hw
  · split at hw
    · rw [List.mem_singleton] at hw; subst hw; simp; omega
    · cases hw
theorem colW_len (c : GCol) : (colW c).length ≤ 4 := by
  unfold colW
  split <;> split <;> simp
set_option maxHeartbeats 4000000 in
theorem valsS_ok (l : List GVal) (hl : l.length ≤ 1048576) : VC Try.prog 75 [vValS l] [(false, mStrS (valW l))] := by
  refine vc_of_ew good hm [0,2,3,7,8,9,10,5] Try.func75 rfl (by kernel_rfl) (by kernel_rfl) rfl ?_
  simp [Try.f75]
  refine ew_loop (fun E => ∃ i : Nat, i ≤ l.length ∧ E = { nt := 20, sl := [(3, .v false [.r [6]]), (7, vValS l), (8, int .i64 l.length), (9, int .i64 i)], bx := [], rt := (mStrS (valW (l.take i))).map fun y => (6, y) }) (fun E => l.length - (E.num 9).toNat) _ (Gh.kb _ [3,7,8,9] [] [6]) ⟨0, by omega, by simp [valW, mStrS]⟩ ?_
  rintro E1 ⟨i, hi, rfl⟩
  have hvl := valW_len (l.take i)
  rw [List.length_take] at hvl
  simp [mStrS]
  refine ⟨fun h => ⟨h, .of (valTextS_ok _) ?_⟩, fun h => ?_⟩
  · simp
    refine ⟨by omega, .of _ ((Gh.kb _ [3,7,8,9] [] [17]).trans (Gh.rn _ 17 6)) ⟨i + 1, by omega, ?_⟩ ?_⟩
    · rw [valW_take h]
      simp [wrapS (show i < 9223372036854775807 by omega), mStrS]
    · simp [wrapS (show i < 9223372036854775807 by omega)]; omega
  · have hi' : i = l.length := by omega
    subst hi'
    simp [mStrS]

end Go.Proofs.Yteeolohhmfjafaa

/-! YteeolohhmfjafaaTable -/
namespace Go.Proofs.Yteeolohhmfjafaa
open Go Go.Proofs Go.Sm
attribute [local simp] ti eStr eInt eByte eVal cVal vVal vValS vRow eCol vCol vColS vStrS cDdl vDdl vStmt ePart vPart vPartS eBatch cBatch vBatch cTable vTable
set_option linter.unusedVariables false
set_option linter.unusedSimpArgs false
set_option maxRecDepth 8000


def colsOkAt (t : GTable) (i : Nat) : Bool := colOk (t.fCols[i]?.getD dCol) && decide (colAt t (t.fCols[i]?.getD dCol).fName = i)
def colsTo (t : GTable) (n : Nat) : Bool := (List.range n).all (colsOkAt t)
def lastK (t : GTable) (i : Nat) : Int := if i = 0 then -1 else colAt t (t.fKeys[i-1]?.getD ⟨#[]⟩)
def keyOkAt (t : GTable) (i : Nat) : Bool := decide (lastK t i < colAt t (t.fKeys[i]?.getD ⟨#[]⟩)) && (t.fCols[(colAt t (t.fKeys[i]?.getD ⟨#[]⟩)).toNat]?.getD dCol).fNot
def keysTo (t : GTable) (n : Nat) : Bool := (List.range n).all (keyOkAt t)
def tableOk (t : GTable) : Bool := wordOk t.fName && (within t.fCols.length 1 8 && decide (0 < t.fKeys.length)) && (colsTo t t.fCols.length && keysTo t t.fKeys.length)
theorem colsTo_no {t : GTable} {i : Nat} (hi : i < t.fCols.length) (h : colsOkAt t i = false) : tableOk t = false := by
  simp [tableOk, colsTo, rangeAll_no hi h]
theorem keysTo_no {t : GTable} {i : Nat} (hi : i < t.fKeys.length) (h : keyOkAt t i = false) : tableOk t = false := by
  simp [tableOk, keysTo, rangeAll_no hi h]
theorem lastK_succ (t : GTable) (i : Nat) : lastK t (i + 1) = colAt t (t.fKeys[i]?.getD ⟨#[]⟩) := by simp [lastK]
theorem lastK_ge (t : GTable) (i : Nat) : -1 ≤ lastK t i := by
  unfold lastK
  split
  · omega
  · exact (idxF_bd _ _).1
set_option maxHeartbeats 8000000 in
set_option maxRecDepth 4000 in
theorem tableOkS_ok (t : GTable) (ht : okTable t) : VC Try.prog 66 [vTable t] [(false, [(.s, .sc (.bool (tableOk t)))])] := by
  obtain ⟨hn, hc, hk, _⟩ := ht
  have hcl : t.fCols.length ≤ 9223372036854775807 := hc.1
  have hkl : t.fKeys.length ≤ 9223372036854775807 := hk.1
  refine vc_of_ew good hm [0,1,2,30,32,33,34,35,4,3,49,5,52,53,54,55,7,8,72] Try.func66 rfl (by kernel_rfl) (by kernel_rfl) rfl ?_
  simp [Try.f66]
  refine .of (wordOkS_ok _ hn) ?_
  simp
  refine ⟨fun h => by grind [tableOk, within], fun a1 a2 a3 a4 => ?_⟩
  refine ew_loop (fun E => ∃ i : Nat, i ≤ t.fCols.length ∧ colsTo t i = true ∧ E = { nt := 75, sl := [(1, .p (.bx 1 0)), (32, vColS t.fCols), (33, int .i64 t.fCols.length), (34, int .i64 i)], bx := [(1, cTable t)], rt := [] }) (fun E => t.fCols.length - (E.num 34).toNat) _ (Gh.kb _ [1,32,33,34] [1] []) ⟨0, by omega, by simp [colsTo], by simp⟩ ?_
  rintro E1 ⟨i, hi, hall, rfl⟩
  simp
  refine ⟨fun h => ⟨h, .of (colOkS_ok _ (hc.2 _ (getD_mem dCol h))) ?_⟩, fun h => ?_⟩
  · simp
    refine .of (fun h => ⟨h, colAtS_ok _ _ hc.1⟩) ?_
    simp
    have hat : colsOkAt t i = (colOk (t.fCols[i]?.getD dCol) && decide (colAt t (t.fCols[i]?.getD dCol).fName = i)) := rfl
    refine ⟨fun hb => colsTo_no h (by grind), fun h1 h2 => .of _ (Gh.kb _ [1,32,33,34] [1] []) ⟨i + 1, by omega, ?_, ?_⟩ ?_⟩
    · rw [colsTo, rangeAll_succ]; unfold colsTo at hall; grind
    · simp [wrapS (show i < 9223372036854775807 by omega)]
    · simp [wrapS (show i < 9223372036854775807 by omega)]; omega
  · have hil : i = t.fCols.length := by omega
    subst hil
    refine ew_loop (fun E => ∃ i : Nat, i ≤ t.fKeys.length ∧ keysTo t i = true ∧ E = { nt := 75, sl := [(1, .p (.bx 1 0)), (5, int .i64 (lastK t i)), (52, vStrS t.fKeys), (53, int .i64 t.fKeys.length), (54, int .i64 i)], bx := [(1, cTable t)], rt := [] }) (fun E => t.fKeys.length - (E.num 54).toNat) _ (Gh.kb _ [1,5,52,53,54] [1] []) ⟨0, by omega, by simp [keysTo], by simp [lastK]⟩ ?_
    rintro E1 ⟨j, hj, hkall, rfl⟩
    simp
    refine ⟨fun h => ⟨h, .of (colAtS_ok _ _ hc.1) ?_⟩, fun h => ?_⟩
    · simp
      have hb := idxF_bd (fun c : GCol => c.fName.toList == (t.fKeys[j]?.getD ⟨#[]⟩).toList) t.fCols
      have hlg := lastK_ge t j
      rw [show idxF (fun c : GCol => c.fName.toList == (t.fKeys[j]?.getD ⟨#[]⟩).toList) t.fCols = colAt t (t.fKeys[j]?.getD ⟨#[]⟩) from rfl] at hb
      have hat : keyOkAt t j = (decide (lastK t j < colAt t (t.fKeys[j]?.getD ⟨#[]⟩)) && (t.fCols[(colAt t (t.fKeys[j]?.getD ⟨#[]⟩)).toNat]?.getD dCol).fNot) := rfl
      refine ⟨fun h1 => ⟨h1, by omega, by omega⟩, fun hb => keysTo_no h (by grind), fun h1 h2 => .of _ (Gh.kb _ [1,5,52,53,54] [1] []) ⟨j + 1, by omega, ?_, ?_⟩ ?_⟩
      · rw [keysTo, rangeAll_succ]; unfold keysTo at hkall; grind
      · simp [wrapS (show j < 9223372036854775807 by omega), lastK_succ]
      · simp [wrapS (show j < 9223372036854775807 by omega)]; omega
    · have hjl : j = t.fKeys.length := by omega
      subst hjl
      grind [tableOk, within]
set_option maxHeartbeats 8000000 in
set_option maxRecDepth 4000 in
theorem tableOkI_ok (t : GTable) (ht : okTable t) : VC Try.prog 35 [vTable t] [(false, [(.s, .sc (.bool (tableOk t)))])] := by
  obtain ⟨hn, hc, hk, _⟩ := ht
  have hcl : t.fCols.length ≤ 9223372036854775807 := hc.1
  have hkl : t.fKeys.length ≤ 9223372036854775807 := hk.1
  refine vc_of_ew good hm [0,1,2,10,11,12,13,4,3,27,5,30,31,32,33,7,8,50] Try.func35 rfl (by kernel_rfl) (by kernel_rfl) rfl ?_
  simp [Try.f35]
  refine ew_loop (fun E => ∃ i : Nat, i ≤ t.fCols.length ∧ colsTo t i = true ∧ E = { nt := 68, sl := [(1, .p (.bx 1 0)), (10, vColS t.fCols), (11, int .i64 t.fCols.length), (12, int .i64 i)], bx := [(1, cTable t)], rt := [] }) (fun E => t.fCols.length - (E.num 12).toNat) _ (Gh.kb _ [1,10,11,12] [1] []) ⟨0, by omega, by simp [colsTo], by simp⟩ ?_
  rintro E1 ⟨i, hi, hall, rfl⟩
  simp
  refine ⟨fun h => ⟨h, .of (colOkI_ok _ (hc.2 _ (getD_mem dCol h))) ?_⟩, fun h => ?_⟩
  · simp
    refine .of (fun h => ⟨h, colAtI_ok _ _ hc.1⟩) ?_
    simp
    have hat : colsOkAt t i = (colOk (t.fCols[i]?.getD dCol) && decide (colAt t (t.fCols[i]?.getD dCol).fName = i)) := rfl
    refine ⟨fun hb => colsTo_no h (by grind), fun h1 h2 => .of _ (Gh.kb _ [1,10,11,12] [1] []) ⟨i + 1, by omega, ?_, ?_⟩ ?_⟩
    · rw [colsTo, rangeAll_succ]; unfold colsTo at hall; grind
    · simp [wrapS (show i < 9223372036854775807 by omega)]
    · simp [wrapS (show i < 9223372036854775807 by omega)]; omega
  · have hil : i = t.fCols.length := by omega
    subst hil
    refine ew_loop (fun E => ∃ i : Nat, i ≤ t.fKeys.length ∧ keysTo t i = true ∧ E = { nt := 68, sl := [(1, .p (.bx 1 0)), (5, int .i64 (lastK t i)), (30, vStrS t.fKeys), (31, int .i64 t.fKeys.length), (32, int .i64 i)], bx := [(1, cTable t)], rt := [] }) (fun E => t.fKeys.length - (E.num 32).toNat) _ (Gh.kb _ [1,5,30,31,32] [1] []) ⟨0, by omega, by simp [keysTo], by simp [lastK]⟩ ?_
    rintro E1 ⟨j, hj, hkall, rfl⟩
    simp
    refine ⟨fun h => ⟨h, .of (colAtI_ok _ _ hc.1) ?_⟩, fun h => ?_⟩
    · simp
      have hb := idxF_bd (fun c : GCol => c.fName.toList == (t.fKeys[j]?.getD ⟨#[]⟩).toList) t.fCols
      have hlg := lastK_ge t j
      rw [show idxF (fun c : GCol => c.fName.toList == (t.fKeys[j]?.getD ⟨#[]⟩).toList) t.fCols = colAt t (t.fKeys[j]?.getD ⟨#[]⟩) from rfl] at hb
      have hat : keyOkAt t j = (decide (lastK t j < colAt t (t.fKeys[j]?.getD ⟨#[]⟩)) && (t.fCols[(colAt t (t.fKeys[j]?.getD ⟨#[]⟩)).toNat]?.getD dCol).fNot) := rfl
      refine ⟨fun h1 => ⟨h1, by omega, by omega⟩, fun hb => keysTo_no h (by grind), fun h1 h2 => .of _ (Gh.kb _ [1,5,30,31,32] [1] []) ⟨j + 1, by omega, ?_, ?_⟩ ?_⟩
      · rw [keysTo, rangeAll_succ]; unfold keysTo at hkall; grind
      · simp [wrapS (show j < 9223372036854775807 by omega), lastK_succ]
      · simp [wrapS (show j < 9223372036854775807 by omega)]; omega
    · have hjl : j = t.fKeys.length := by omega
      subst hjl
      refine .of (wordOkI_ok _ hn) ?_
      simp
      refine .of (fun h => ⟨h, within_ok _ _ _⟩) ?_
      simp
      grind [tableOk, within]

end Go.Proofs.Yteeolohhmfjafaa

/-! YteeolohhmfjafaaStmt -/
namespace Go.Proofs.Yteeolohhmfjafaa
open Go Go.Proofs Go.Sm
attribute [local simp] ti eStr eInt eByte eVal cVal vVal vValS vRow eCol vCol vColS vStrS cDdl vDdl vStmt ePart vPart vPartS eBatch cBatch vBatch cTable vTable
set_option linter.unusedVariables false
set_option linter.unusedSimpArgs false
set_option maxRecDepth 8000


def eqVal (a b : GVal) : Bool := a.fTy == b.fTy && (a.fN == b.fN && a.fS.toList == b.fS.toList)
def eqCol (a b : GCol) : Bool := a.fName.toList == b.fName.toList && (a.fTy == b.fTy && (a.fNot == b.fNot && (a.fHas == b.fHas && eqVal a.fDef b.fDef)))
def eqS (a b : ByteArray) : Bool := a.toList == b.toList
def eqTo {α : Type} (eq : α → α → Bool) (d : α) (a b : List α) (n : Nat) : Bool := (List.range n).all (fun i => eq (a[i]?.getD d) (b[i]?.getD d))
def eqRows {α : Type} (eq : α → α → Bool) (d : α) (a b : List α) : Bool := decide ((a.length : Int) = b.length) && eqTo eq d a b a.length
theorem eqTo_no {α : Type} {eq : α → α → Bool} {d : α} {a b : List α} {n i : Nat} (hi : i < n) (h : eq (a[i]?.getD d) (b[i]?.getD d) = false) : eqTo eq d a b n = false := rangeAll_no hi h
theorem eqTo_succ {α : Type} (eq : α → α → Bool) (d : α) (a b : List α) (n : Nat) : eqTo eq d a b (n + 1) = (eqTo eq d a b n && eq (a[n]?.getD d) (b[n]?.getD d)) := rangeAll_succ _ _
theorem eqRows_nil {α : Type} (eq : α → α → Bool) (d : α) (a : List α) : eqRows eq d a [] = a.isEmpty := by
  unfold eqRows
  cases a with
  | nil => rfl
  | cons x r => simp; omega
theorem eqRows_self {α : Type} (eq : α → α → Bool) (hr : ∀ x, eq x x = true) (d : α) (a : List α) : eqRows eq d a a = true := by
  simp [eqRows, eqTo, hr]
theorem eqVal_self (x : GVal) : eqVal x x = true := by simp [eqVal]
theorem eqCol_self (x : GCol) : eqCol x x = true := by simp [eqCol, eqVal_self]
set_option maxHeartbeats 4000000 in
theorem equalStr_ok (a b : List ByteArray) (ha : okM a.length) : VC Try.prog 52 [vStrS a, vStrS b] [(false, [(.s, .sc (.bool (eqRows eqS ⟨#[]⟩ a b)))])] := by
  unfold okM at ha
  refine vc_of_ew good hm [0,1,4,10,12,13,14,5,24] Try.func52 rfl (by kernel_rfl) (by kernel_rfl) rfl ?_
  simp [Try.f52]
  refine ⟨fun h => by simp [eqRows, h], fun hl => ?_⟩
  refine ew_loop (fun E => ∃ i : Nat, i ≤ a.length ∧ eqTo eqS ⟨#[]⟩ a b i = true ∧ E = { nt := 26, sl := [(0, vStrS a), (1, vStrS b), (12, int .i64 a.length), (13, int .i64 i)], bx := [], rt := [] }) (fun E => a.length - (E.num 13).toNat) _ (Gh.kb _ [0,1,12,13] [] []) ⟨0, by omega, by simp [eqTo], by simp⟩ ?_
  rintro E1 ⟨i, hi, hall, rfl⟩
  simp
  refine ⟨fun h => ⟨h, by omega, ?_⟩, fun h => ?_⟩
  · refine ⟨fun hp => ?_, fun hp => .of _ (Gh.kb _ [0,1,12,13] [] []) ⟨i + 1, by omega, ?_, ?_⟩ ?_⟩
    · have := eqTo_no (eq := eqS) (d := ⟨#[]⟩) (a := a) (b := b) h (by simpa [eqS] using hp)
      simp [eqRows, this]
    · rw [eqTo_succ, hall]; simpa [eqS] using hp
    · simp [wrapS (show i < 9223372036854775807 by omega)]
    · simp [wrapS (show i < 9223372036854775807 by omega)]; omega
  · have : i = a.length := by omega
    subst this
    simp [eqRows, hall, hl]
set_option maxHeartbeats 4000000 in
theorem equalCol_ok (a b : List GCol) (ha : okM a.length) : VC Try.prog 106 [vColS a, vColS b] [(false, [(.s, .sc (.bool (eqRows eqCol dCol a b)))])] := by
  unfold okM at ha
  refine vc_of_ew good hm [0,1,4,10,12,13,14,5,24] Try.func106 rfl (by kernel_rfl) (by kernel_rfl) rfl ?_
  simp [Try.f106]
  refine ⟨fun h => by simp [eqRows, h], fun hl => ?_⟩
  refine ew_loop (fun E => ∃ i : Nat, i ≤ a.length ∧ eqTo eqCol dCol a b i = true ∧ E = { nt := 26, sl := [(0, vColS a), (1, vColS b), (12, int .i64 a.length), (13, int .i64 i)], bx := [], rt := [] }) (fun E => a.length - (E.num 13).toNat) _ (Gh.kb _ [0,1,12,13] [] []) ⟨0, by omega, by simp [eqTo], by simp⟩ ?_
  rintro E1 ⟨i, hi, hall, rfl⟩
  simp
  have hat : eqCol (a[i]?.getD dCol) (b[i]?.getD dCol) = ((a[i]?.getD dCol).fName.toList == (b[i]?.getD dCol).fName.toList && ((a[i]?.getD dCol).fTy == (b[i]?.getD dCol).fTy && ((a[i]?.getD dCol).fNot == (b[i]?.getD dCol).fNot && ((a[i]?.getD dCol).fHas == (b[i]?.getD dCol).fHas && ((a[i]?.getD dCol).fDef.fTy == (b[i]?.getD dCol).fDef.fTy && ((a[i]?.getD dCol).fDef.fN == (b[i]?.getD dCol).fDef.fN && (a[i]?.getD dCol).fDef.fS.toList == (b[i]?.getD dCol).fDef.fS.toList)))))) := rfl
  refine ⟨fun h => ⟨h, by omega, ?_⟩, fun h => ?_⟩
  · refine ⟨fun hb => ?_, fun h1 h2 h3 h4 h5 h6 h7 => .of _ (Gh.kb _ [0,1,12,13] [] []) ⟨i + 1, by omega, by rw [eqTo_succ, hall, hat]; simp [h1, h2, h3, h4, h5, h6, h7], ?_⟩ ?_⟩
    · have := eqTo_no (eq := eqCol) (d := dCol) (a := a) (b := b) h (by rw [hat]; grind)
      simp [eqRows, this]
    · simp [wrapS (show i < 9223372036854775807 by omega)]
    · simp [wrapS (show i < 9223372036854775807 by omega)]; omega
  · have : i = a.length := by omega
    subst this
    simp [eqRows, hall, hl]
def eqDdl (a b : GDdl) : Bool := a.fKind == b.fKind && (a.fTable.toList == b.fTable.toList && (eqRows eqCol dCol a.fCols b.fCols && (eqRows eqS ⟨#[]⟩ a.fKeys b.fKeys && (a.fName.toList == b.fName.toList && a.fTo.toList == b.fTo.toList))))
set_option maxHeartbeats 8000000 in
set_option maxRecDepth 4000 in
theorem equalDdl_ok (a b : GDdl) (ha : okDdl a) : VC Try.prog 81 [vDdl a, vDdl b] [(false, [(.s, .sc (.bool (eqDdl a b)))])] := by
  refine vc_of_ew good hm [0,1,2,3,4] Try.func81 rfl (by kernel_rfl) (by kernel_rfl) rfl ?_
  simp [Try.f81]
  refine .of (fun h => ⟨h, equalCol_ok a.fCols b.fCols ha.2.2.1.1⟩) ?_
  simp
  refine .of (fun h => ⟨h, equalStr_ok a.fKeys b.fKeys ha.2.2.2.1.1⟩) ?_
  simp
  grind [eqDdl]
def noDdl (d : GDdl) : Bool := decide (d.fKind = 0) && (em d.fTable && (d.fCols.isEmpty && (d.fKeys.isEmpty && (em d.fName && em d.fTo))))
set_option maxHeartbeats 8000000 in
set_option maxRecDepth 4000 in
theorem l04NoDdl_ok (d : GDdl) : VC Try.prog 97 [vDdl d] [(false, [(.s, .sc (.bool (noDdl d)))])] := by
  refine vc_of_ew good hm [0,1,2] Try.func97 rfl (by kernel_rfl) (by kernel_rfl) rfl ?_
  simp [Try.f97]
  grind [noDdl, em]
theorem eqDdl_nil (d : GDdl) : eqDdl d dDdl = noDdl d := by
  simp [eqDdl, dDdl, eqRows_nil, noDdl, em, beqI]
theorem copyTexts_ok (l : List ByteArray) (hl : l.length ≤ 1048576) : VC Try.prog 140 [vStrS l] [(false, mStrS l)] := by
  refine vc_of_ew good hm [0,2] Try.func140 rfl (by kernel_rfl) (by kernel_rfl) rfl ?_
  simp [Try.f140, mStrS]
  omega
set_option maxHeartbeats 4000000 in
theorem copyTable_ok (t : GTable) (h1 : t.fCols.length ≤ 1048576) (h2 : t.fKeys.length ≤ 1048576) : VC Try.prog 134 [vTable t] [(true, mTable t)] := by
  refine vc_of_ew good hm [0,1,2] Try.func134 rfl (by kernel_rfl) (by kernel_rfl) rfl ?_
  simp [Try.f134, mTable]
  refine ⟨by omega, .of (copyTexts_ok _ h2) ?_⟩
  simp [mStrS]
def madeT (d : GDdl) : GTable := ⟨d.fTable, d.fCols, d.fKeys⟩
set_option maxHeartbeats 4000000 in
theorem made_ok (d : GDdl) (h1 : d.fCols.length ≤ 1048576) (h2 : d.fKeys.length ≤ 1048576) : VC Try.prog 122 [vDdl d] [(true, mTable (madeT d))] := by
  refine vc_of_ew good hm [0,1,2] Try.func122 rfl (by kernel_rfl) (by kernel_rfl) rfl ?_
  simp [Try.f122, mTable]
  refine .of (copyTable_ok (madeT d) h1 h2) ?_
  simp [mTable, madeT]
def plain (d : GDdl) : Bool := d.fCols.isEmpty && d.fKeys.isEmpty
def addOk (d : GDdl) : Bool := decide ((d.fCols.length : Int) = 1) && (colOk (d.fCols[0]?.getD dCol) && ((d.fCols[0]?.getD dCol).fHas || !(d.fCols[0]?.getD dCol).fNot))
def ddlOk (d : GDdl) : Bool := wordOk d.fTable && ((decide (d.fKind = 1) && (tableOk (madeT d) && (em d.fName && em d.fTo))) || (decide (d.fKind = 2) && (plain d && (em d.fName && em d.fTo))) || (decide (d.fKind = 3) && (addOk d && (d.fKeys.isEmpty && (em d.fName && em d.fTo)))) || (decide (d.fKind = 4) && (plain d && (wordOk d.fName && em d.fTo))) || (decide (d.fKind = 5) && (plain d && (wordOk d.fName && wordOk d.fTo))))
theorem okMade {d : GDdl} (h : okDdl d) : okTable (madeT d) := ⟨h.2.1, h.2.2.1, h.2.2.2.1, trivial⟩
theorem okC0 {d : GDdl} (h : okDdl d) (hl : d.fCols.length = 1) : okCol (d.fCols[0]?.getD dCol) := h.2.2.1.2 _ (getD_mem dCol (by omega))
set_option maxHeartbeats 8000000 in
set_option maxRecDepth 4000 in
theorem ddlOkS_ok (d : GDdl) (hd : okDdl d) : VC Try.prog 98 [vDdl d] [(false, [(.s, .sc (.bool (ddlOk d)))])] := by
  refine vc_of_ew good hm [0,1,2,7,3,19,20,40,53,97,110] Try.func98 rfl (by kernel_rfl) (by kernel_rfl) rfl ?_
  simp [Try.f98]
  refine .of (wordOkS_ok _ hd.2.1) ?_
  simp [beqI]
  refine ⟨fun h => by grind [ddlOk], fun hw => ⟨fun k1 => .of (fun h => ⟨h, tableOkS_ok (madeT d) (okMade hd)⟩) ?_, fun k1 => ⟨fun k2 => ?_, fun k2 => ⟨fun k3 => ⟨fun h => ⟨h, by omega⟩, .of (fun h => ⟨h, colOkS_ok _ (okC0 hd (by omega))⟩) ?_⟩, fun k3 => ⟨fun k4 => .of (fun h => ⟨h, wordOkS_ok _ hd.2.2.2.2.1⟩) ?_, fun k4 => ⟨fun k5 => .of (fun h => ⟨h, wordOkS_ok _ hd.2.2.2.2.1⟩) ?_, fun k5 => by grind [ddlOk]⟩⟩⟩⟩⟩⟩
  · simp
    grind [ddlOk, em]
  · grind [ddlOk, em, plain]
  · simp
    refine ⟨by grind, by grind, by grind, ?_⟩
    grind [ddlOk, em, addOk]
  · simp
    grind [ddlOk, em, plain]
  · simp
    refine .of (fun h => ⟨h, wordOkS_ok _ hd.2.2.2.2.2.1⟩) ?_
    simp
    grind [ddlOk, em, plain]
set_option maxHeartbeats 8000000 in
set_option maxRecDepth 4000 in
theorem ddlOkI_ok (d : GDdl) (hd : okDdl d) (h1 : d.fCols.length ≤ 1048576) (h2 : d.fKeys.length ≤ 1048576) : VC Try.prog 103 [vDdl d] [(false, [(.s, .sc (.bool (ddlOk d)))])] := by
  refine vc_of_ew good hm [0,1,2,7,3,14,15,30,35,71,84] Try.func103 rfl (by kernel_rfl) (by kernel_rfl) rfl ?_
  simp [Try.f103]
  refine .of (wordOkI_ok _ hd.2.1) ?_
  simp [beqI]
  refine ⟨fun h => by grind [ddlOk], fun hw => ⟨fun k1 => .of (made_ok d h1 h2) ?_, fun k1 => ⟨fun k2 => ?_, fun k2 => ⟨fun k3 => ?_, fun k3 => ⟨fun k4 => ?_, fun k4 => ⟨fun k5 => ?_, fun k5 => by grind [ddlOk]⟩⟩⟩⟩⟩⟩
  · simp [mTable]
    refine .of (tableOkI_ok (madeT d) (okMade hd)) ?_
    simp
    grind [ddlOk, em]
  · refine .of (equalDdl_ok d ⟨d.fKind, d.fTable, [], [], ⟨#[]⟩, ⟨#[]⟩⟩ hd) ?_
    simp [eqDdl, eqRows_nil]
    grind [ddlOk, em, plain]
  · refine .of (equalDdl_ok d ⟨d.fKind, d.fTable, d.fCols, [], ⟨#[]⟩, ⟨#[]⟩⟩ hd) ?_
    rw [show eqDdl d ⟨d.fKind, d.fTable, d.fCols, [], ⟨#[]⟩, ⟨#[]⟩⟩ = (d.fKeys.isEmpty && (em d.fName && em d.fTo)) by simp [eqDdl, eqRows_nil, eqRows_self eqCol eqCol_self, em]]
    generalize hq : (d.fKeys.isEmpty && (em d.fName && em d.fTo)) = q
    simp
    refine ⟨fun a b => ⟨⟨a, b⟩, by omega⟩, .of (fun h => ⟨h, colOkI_ok _ (okC0 hd (by omega))⟩) ?_⟩
    simp
    refine ⟨by grind, by grind, by grind, ?_⟩
    grind [ddlOk, em, addOk]
  · refine .of (equalDdl_ok d ⟨d.fKind, d.fTable, [], [], d.fName, ⟨#[]⟩⟩ hd) ?_
    rw [show eqDdl d ⟨d.fKind, d.fTable, [], [], d.fName, ⟨#[]⟩⟩ = (plain d && em d.fTo) by simp [eqDdl, eqRows_nil, em, plain, Bool.and_assoc]]
    generalize hq : (plain d && em d.fTo) = q
    simp
    refine .of (fun h => ⟨h, wordOkI_ok _ hd.2.2.2.2.1⟩) ?_
    simp
    grind [ddlOk, em]
  · refine .of (equalDdl_ok d ⟨d.fKind, d.fTable, [], [], d.fName, d.fTo⟩ hd) ?_
    rw [show eqDdl d ⟨d.fKind, d.fTable, [], [], d.fName, d.fTo⟩ = plain d by simp [eqDdl, eqRows_nil, em, plain, Bool.and_assoc]]
    generalize hq : plain d = q
    simp
    refine .of (fun h => ⟨h, wordOkI_ok _ hd.2.2.2.2.1⟩) ?_
    simp
    refine .of (fun h => ⟨h, wordOkI_ok _ hd.2.2.2.2.2.1⟩) ?_
    simp
    grind [ddlOk, em]

end Go.Proofs.Yteeolohhmfjafaa

/-! YteeolohhmfjafaaRec -/
namespace Go.Proofs.Yteeolohhmfjafaa
open Go Go.Proofs Go.Sm
attribute [local simp] ti eStr eInt eByte eVal cVal vVal vValS vRow eCol vCol vColS vStrS cDdl vDdl vStmt ePart vPart vPartS eBatch cBatch vBatch cTable vTable
set_option linter.unusedVariables false
set_option linter.unusedSimpArgs false
set_option maxRecDepth 8000


theorem ba_eq {a b : ByteArray} (h : a.toList = b.toList) : a = b := by
  have := beq_toListBytes a b
  rw [h] at this
  simp only [BEq.rfl] at this
  obtain ⟨x⟩ := a
  obtain ⟨y⟩ := b
  have h2 : (x == y) = true := this
  rw [eq_of_beq h2]
def valsOk (l : List GVal) : Bool := within l.length 1 8 && !l.any (fun v => !valOk v)
theorem areVals1_ok (v : GVal) : VC Try.prog 124 [vVal v] [(false, [(.s, .sc (.bool (!valOk v)))])] := by
  refine vc_of_ew good hm [0,1,2] Try.func124 rfl (by kernel_rfl) (by kernel_rfl) rfl ?_
  simp [Try.f124]
  refine .of (valOkI_ok v) ?_
  simp
theorem areVals_ok (l : List GVal) (hl : okM l.length) : VC Try.prog 104 [vValS l] [(false, [(.s, .sc (.bool (valsOk l)))])] := by
  refine vc_of_ew good hm [0,2] Try.func104 rfl (by kernel_rfl) (by kernel_rfl) rfl ?_
  simp [Try.f104]
  refine .of (within_ok _ _ _) ?_
  simp
  refine .of (fun h => ⟨h, hasVal0_ok l _ (fun v => !valOk v) hl (fun x _ => areVals1_ok x)⟩) ?_
  simp [valsOk]
set_option maxHeartbeats 4000000 in
theorem l04Vals_ok (l : List GVal) (hl : okM l.length) : VC Try.prog 96 [vValS l] [(false, [(.s, .sc (.bool (valsOk l)))])] := by
  unfold okM at hl
  refine vc_of_ew good hm [0,2,5,6,7,8,4,13] Try.func96 rfl (by kernel_rfl) (by kernel_rfl) rfl ?_
  simp [Try.f96]
  refine ew_loop (fun E => ∃ i : Nat, i ≤ l.length ∧ anyT (fun v => !valOk v) l i = false ∧ E = { nt := 23, sl := [(0, vValS l), (5, vValS l), (6, int .i64 l.length), (7, int .i64 i)], bx := [], rt := [] }) (fun E => l.length - (E.num 7).toNat) _ (Gh.kb _ [0,5,6,7] [] []) ⟨0, by omega, anyT_zero _ _, by simp⟩ ?_
  rintro E1 ⟨i, hi, hall, rfl⟩
  simp
  refine ⟨fun h => ⟨h, .of (valOkS_ok _) ?_⟩, fun h => ?_⟩
  · simp
    refine ⟨fun hp => ?_, fun hp => .of _ (Gh.kb _ [0,5,6,7] [] []) ⟨i + 1, by omega, by rw [anyT_succ _ dVal h, hall, hp]; rfl, ?_⟩ ?_⟩
    · have : l.any (fun v => !valOk v) = true := List.any_eq_true.2 ⟨_, getD_mem dVal h, by rw [hp]; rfl⟩
      simp only [valsOk, this, Bool.not_true, Bool.and_false]
    · simp [wrapS (show i < 9223372036854775807 by omega)]
    · simp [wrapS (show i < 9223372036854775807 by omega)]; omega
  · have : i = l.length := by omega
    subst this
    rw [anyT_all] at hall
    simp only [valsOk, hall, within]
    grind
def stmtOk (s : GStmt) : Bool := wordOk s.fTable && ((decide (s.fKind = 1) && (s.fKey.isEmpty && valsOk s.fRow.fVals && noDdl s.fDdl)) || (decide (s.fKind = 2) && (valsOk s.fKey && valsOk s.fRow.fVals && noDdl s.fDdl)) || (decide (s.fKind = 3) && (valsOk s.fKey && s.fRow.fVals.isEmpty && noDdl s.fDdl)) || (decide (s.fKind = 4) && (s.fKey.isEmpty && s.fRow.fVals.isEmpty && noDdl s.fDdl)) || (decide (s.fKind = 5) && (s.fKey.isEmpty && s.fRow.fVals.isEmpty && ddlOk s.fDdl && s.fDdl.fTable.toList == s.fTable.toList)))
theorem ddlOk_word {d : GDdl} (h : ddlOk d = true) : wordOk d.fTable = true := by
  unfold ddlOk at h
  cases hw : wordOk d.fTable with
  | true => rfl
  | false => rw [hw] at h; simp at h
set_option maxHeartbeats 8000000 in
set_option maxRecDepth 4000 in
theorem stmtOkS_ok (s : GStmt) (hs : okStmt s) : VC Try.prog 72 [vStmt s] [(false, [(.s, .sc (.bool (stmtOk s)))])] := by
  obtain ⟨_, hn, hk, hr, hd, _⟩ := hs
  refine vc_of_ew good hm [0,1,2,3,4,17,19,20,34,50,63,74] Try.func72 rfl (by kernel_rfl) (by kernel_rfl) rfl ?_
  simp [Try.f72]
  refine .of (wordOkS_ok _ hn) ?_
  simp [beqI]
  refine ⟨fun h => by grind [stmtOk], fun hw => ⟨fun k1 => .of (fun h => ⟨h, l04Vals_ok _ hr.1.1⟩) ?_, fun k1 => ⟨fun k2 => .of (l04Vals_ok _ hk.1) ?_, fun k2 => ⟨fun k3 => .of (l04Vals_ok _ hk.1) ?_, fun k3 => ⟨fun k4 => ?_, fun k4 => ⟨fun k5 => ?_, fun k5 => by grind [stmtOk]⟩⟩⟩⟩⟩⟩
  · simp
    refine .of (fun h => ⟨h, l04NoDdl_ok _⟩) ?_
    simp
    grind [stmtOk]
  · simp
    refine .of (fun h => ⟨h, l04Vals_ok _ hr.1.1⟩) ?_
    simp
    refine .of (fun h => ⟨h, l04NoDdl_ok _⟩) ?_
    simp
    grind [stmtOk]
  · simp
    refine .of (fun h => ⟨h, l04NoDdl_ok _⟩) ?_
    simp
    grind [stmtOk]
  · refine .of (fun h => ⟨h, l04NoDdl_ok _⟩) ?_
    simp
    grind [stmtOk]
  · refine .of (fun h => ⟨h, ddlOkS_ok _ hd⟩) ?_
    simp
    grind [stmtOk]
set_option maxHeartbeats 8000000 in
set_option maxRecDepth 4000 in
theorem stmtOkI_ok (s : GStmt) (hs : okStmt s) (h1 : s.fDdl.fCols.length ≤ 1048576) (h2 : s.fDdl.fKeys.length ≤ 1048576) : VC Try.prog 78 [vStmt s] [(false, [(.s, .sc (.bool (stmtOk s)))])] := by
  obtain ⟨_, hn, hk, hr, hd, _⟩ := hs
  refine vc_of_ew good hm [0,1,2,5,40,42,43,55,66,78] Try.func78 rfl (by kernel_rfl) (by kernel_rfl) rfl ?_
  simp [Try.f78, beqI]
  refine ⟨fun k5 => .of (ddlOkI_ok _ hd h1 h2) ?_, fun k5 => .of (wordOkI_ok _ hn) ?_⟩
  · simp
    have hw : s.fTable.toList = s.fDdl.fTable.toList → ddlOk s.fDdl = true → wordOk s.fTable = true := fun e h => by
      rw [ba_eq e]
      exact ddlOk_word h
    have he : (s.fRow.fVals.length : Int) = 0 ↔ s.fRow.fVals = [] := by simp
    grind [stmtOk]
  · simp [beqI]
    refine .of (fun h => ⟨h, equalDdl_ok s.fDdl dDdl hd⟩) ?_
    rw [eqDdl_nil]
    simp [beqI]
    refine ⟨fun h => by grind [stmtOk], fun hw hnd => ⟨fun k1 => .of (fun h => ⟨h, areVals_ok _ hr.1.1⟩) ?_, fun k1 => ⟨fun k2 => .of (areVals_ok _ hk.1) ?_, fun k2 => ⟨fun k3 => .of (areVals_ok _ hk.1) ?_, fun k3 => ⟨fun k4 => ?_, fun k4 => by grind [stmtOk]⟩⟩⟩⟩⟩
    · simp
      grind [stmtOk]
    · simp
      refine .of (fun h => ⟨h, areVals_ok _ hr.1.1⟩) ?_
      simp
      grind [stmtOk]
    · simp
      have he : (s.fRow.fVals.length : Int) = 0 ↔ s.fRow.fVals = [] := by simp
      grind [stmtOk]
    · have he : (s.fRow.fVals.length : Int) = 0 ↔ s.fRow.fVals = [] := by simp
      grind [stmtOk]
end Go.Proofs.Yteeolohhmfjafaa

/-! YteeolohhmfjafaaStmtTx -/
namespace Go.Proofs.Yteeolohhmfjafaa
open Go Go.Proofs Go.Sm
attribute [local simp] ti eStr eInt eByte eVal cVal vVal vValS vRow eCol vCol vColS vStrS cDdl vDdl vStmt ePart vPart vPartS eBatch cBatch vBatch cTable vTable
set_option linter.unusedVariables false
set_option linter.unusedSimpArgs false
set_option maxRecDepth 8000


def bCreate : ByteArray := ⟨#[99, 114, 101, 97, 116, 101]⟩
def bDrop : ByteArray := ⟨#[100, 114, 111, 112]⟩
def bAdd : ByteArray := ⟨#[97, 100, 100]⟩
def bOut : ByteArray := ⟨#[111, 117, 116]⟩
def bName : ByteArray := ⟨#[110, 97, 109, 101]⟩
def bKey : ByteArray := ⟨#[107, 101, 121]⟩
def b40 : ByteArray := ⟨#[40]⟩
def b41 : ByteArray := ⟨#[41]⟩
def ddlL : List ByteArray := [⟨#[]⟩, bCreate, bDrop, bAdd, bOut, bName]
def colsW (l : List GCol) : List ByteArray := l.flatMap fun c => b40 :: (colW c ++ [b41])
theorem colsW_take {l : List GCol} {i : Nat} (h : i < l.length) : colsW (l.take (i + 1)) = colsW (l.take i) ++ b40 :: (colW (l[i]?.getD dCol) ++ [b41]) := by
  unfold colsW
  rw [List.take_succ_eq_append_getElem h, List.getElem?_eq_getElem h, List.flatMap_append]
  simp
theorem colsW_len (l : List GCol) : (colsW l).length ≤ l.length * 6 := by
  induction l with
  | nil => simp [colsW]
  | cons c l ih =>
    have := colW_len c
    simp only [colsW, List.flatMap_cons, List.length_append, List.length_cons, List.length_nil] at ih ⊢
    omega
def ddlW (d : GDdl) : List ByteArray := [ddlL[d.fKind.toNat]?.getD ⟨#[]⟩, d.fTable] ++ (if d.fKind = 1 then colsW d.fCols ++ bKey :: d.fKeys else if d.fKind = 3 then colW (d.fCols[0]?.getD dCol) else if d.fKind = 4 then [d.fName] else if d.fKind = 5 then [d.fName, d.fTo] else [])
def ddlT (d : GDdl) : List UInt8 := if ddlOk d = true then wsT (ddlW d) else []
theorem ddl_kind {d : GDdl} (h : ddlOk d = true) : d.fKind = 1 ∨ d.fKind = 2 ∨ d.fKind = 3 ∨ d.fKind = 4 ∨ d.fKind = 5 := by
  simp [ddlOk] at h
  omega
theorem ddl_cols {d : GDdl} (h : ddlOk d = true) (k : d.fKind = 1) : d.fCols.length ≤ 8 ∧ ∀ i, i < d.fCols.length → colOk (d.fCols[i]?.getD dCol) = true := by
  have ht : tableOk (madeT d) = true := by
    simp [ddlOk, k] at h
    exact h.2.1
  simp only [tableOk, Bool.and_eq_true, colsTo, List.all_eq_true, List.mem_range] at ht
  have h8 := ht.1.2.1
  simp [within, madeT] at h8
  have h9 := of_decide_eq_true h8.2
  refine ⟨by omega, fun i hi => ?_⟩
  have := ht.2.1 i hi
  simp only [colsOkAt, Bool.and_eq_true] at this
  exact this.1
theorem ddl_add {d : GDdl} (h : ddlOk d = true) (k : d.fKind = 3) : d.fCols.length = 1 ∧ colOk (d.fCols[0]?.getD dCol) = true := by
  simp [ddlOk, k, addOk] at h
  exact ⟨by omega, h.2.1.2.1⟩
set_option maxHeartbeats 8000000 in
set_option maxRecDepth 4000 in
theorem ddlWS_ok (d : GDdl) (hd : okDdl d) (h : ddlOk d = true) (hk : d.fKeys.length ≤ 1048576) : VC Try.prog 100 [vDdl d] [(false, mStrS (ddlW d))] := by
  have hkd := ddl_kind h
  have hl6 : ddlL.length = 6 := rfl
  refine vc_of_ew good hm [0,1,2,3,15,16,19,20,21,22,5,40,49,56] Try.func100 rfl (by kernel_rfl) (by kernel_rfl) rfl ?_
  rcases hkd with k | k | k | k | k
  · simp [Try.f100, md, lf, List.range', k]
    have hc := ddl_cols h k
    refine ew_loop (fun E => ∃ i : Nat, i ≤ d.fCols.length ∧ E = { nt := 66, sl := [(1, .p (.bx 1 0)), (3, .v false [.r [13]]), (19, vColS d.fCols), (20, int .i64 d.fCols.length), (21, int .i64 i)], bx := [(1, cDdl d)], rt := (mStrS ([bCreate, d.fTable] ++ colsW (d.fCols.take i))).map fun y => (13, y) }) (fun E => d.fCols.length - (E.num 21).toNat) _ (Gh.kb _ [1,3,19,20,21] [1] [13]) ⟨0, by omega, by simp [k, mStrS, bCreate, colsW]⟩ ?_
    rintro E1 ⟨i, hi, rfl⟩
    have hcl := colsW_len (d.fCols.take i)
    rw [List.length_take] at hcl
    simp [mStrS]
    refine ⟨fun hil => ⟨hil, ?_⟩, fun hil => ?_⟩
    · refine ⟨by omega, .of (colWS_ok _ (hd.2.2.1.2 _ (getD_mem dCol hil)) (hc.2 i hil)) ?_⟩
      have hw4 := colW_len (d.fCols[i]?.getD dCol)
      simp [mStrS]
      refine ⟨by omega, by omega, .of _ ((Gh.kb _ [1,3,19,20,21] [1] [32]).trans (Gh.rn _ 32 13)) ⟨i + 1, by omega, ?_⟩ ?_⟩
      · rw [colsW_take hil]
        simp [wrapS (show i < 9223372036854775807 by omega), mStrS, b40, b41]
      · simp [wrapS (show i < 9223372036854775807 by omega)]; omega
    · have hi' : i = d.fCols.length := by omega
      subst hi'
      refine ⟨by omega, by omega, ?_⟩
      simp [ddlW, ddlL, k, bKey]
  · simp [Try.f100, md, lf, List.range', k, mStrS, ddlW, ddlL, bDrop]
  · have ha := ddl_add h k
    simp [Try.f100, md, lf, List.range', k]
    refine ⟨by omega, .of (colWS_ok _ (hd.2.2.1.2 _ (getD_mem dCol (by omega))) ha.2) ?_⟩
    have hc4 := colW_len (d.fCols[0]?.getD dCol)
    simp [mStrS, ddlW, ddlL, bAdd, k]
    omega
  · simp [Try.f100, md, lf, List.range', k, mStrS, ddlW, ddlL, bOut]
  · simp [Try.f100, md, lf, List.range', k, mStrS, ddlW, ddlL, bName]
def bdD (d : GDdl) : Prop := d.fTable.size ≤ 1048576 ∧ d.fName.size ≤ 1048576 ∧ d.fTo.size ≤ 1048576 ∧ d.fKeys.length ≤ 1048576 ∧ (∀ k ∈ d.fKeys, k.size ≤ 1048576) ∧ d.fCols.length ≤ 1048576
theorem colsW_size {l : List GCol} (h : ∀ i, i < l.length → colOk (l[i]?.getD dCol) = true) : ∀ w ∈ colsW l, w.size ≤ 93 := by
  intro w hw
  obtain ⟨c, hc, hw⟩ := List.mem_flatMap.1 hw
  obtain ⟨i, hi, rfl⟩ := List.getElem_of_mem hc
  have hok := h i hi
  rw [List.getElem?_eq_getElem hi, Option.getD_some] at hok
  rcases List.mem_cons.1 hw with rfl | hw
  · decide
  · rcases List.mem_append.1 hw with hw | hw
    · exact colW_size hok w hw
    · rw [List.mem_singleton] at hw; subst hw; decide
theorem ddlL_size (k : Nat) : (ddlL[k]?.getD ⟨#[]⟩).size ≤ 6 := by
  rcases k with _ | _ | _ | _ | _ | _ | k <;> simp [ddlL] <;> decide
theorem ddlW_bd {d : GDdl} (h : ddlOk d = true) (hb : bdD d) : (ddlW d).length ≤ 1048676 ∧ ∀ w ∈ ddlW d, w.size ≤ 1048576 := by
  obtain ⟨b1, b2, b3, b4, b5, b6⟩ := hb
  have hkd := ddl_kind h
  have hL := ddlL_size d.fKind.toNat
  unfold ddlW
  rcases hkd with k | k | k | k | k
  · have hc := ddl_cols h k
    have hcl := colsW_len d.fCols
    rw [if_pos k]
    refine ⟨by simp; omega, fun w hw => ?_⟩
    rcases List.mem_append.1 hw with hw | hw
    · simp only [List.mem_cons, List.not_mem_nil, or_false] at hw
      rcases hw with rfl | rfl <;> omega
    · rcases List.mem_append.1 hw with hw | hw
      · have := colsW_size hc.2 w hw; omega
      · rcases List.mem_cons.1 hw with rfl | hw
        · decide
        · exact b5 w hw
  · rw [if_neg (by omega), if_neg (by omega), if_neg (by omega), if_neg (by omega)]
    refine ⟨by simp, fun w hw => ?_⟩
    simp only [List.append_nil, List.mem_cons, List.not_mem_nil, or_false] at hw
    rcases hw with rfl | rfl <;> omega
  · rw [if_neg (by omega), if_pos k]
    have hc4 := colW_len (d.fCols[0]?.getD dCol)
    refine ⟨by simp; omega, fun w hw => ?_⟩
    rcases List.mem_append.1 hw with hw | hw
    · simp only [List.mem_cons, List.not_mem_nil, or_false] at hw
      rcases hw with rfl | rfl <;> omega
    · have := colW_size (ddl_add h k).2 w hw; omega
  · rw [if_neg (by omega), if_neg (by omega), if_pos k]
    refine ⟨by simp, fun w hw => ?_⟩
    simp only [List.mem_append, List.mem_cons, List.not_mem_nil, or_false] at hw
    rcases hw with (rfl | rfl) | rfl <;> omega
  · rw [if_neg (by omega), if_neg (by omega), if_neg (by omega), if_pos k]
    refine ⟨by simp, fun w hw => ?_⟩
    simp only [List.mem_append, List.mem_cons, List.not_mem_nil, or_false] at hw
    rcases hw with (rfl | rfl) | rfl | rfl <;> omega
theorem ddlT_len {d : GDdl} (h : ddlOk d = true) (hb : bdD d) : (wsT (ddlW d)).length ≤ 1099619000000 := by
  obtain ⟨h1, h2⟩ := ddlW_bd h hb
  have h3 := wsT_le h2
  have h4 : (ddlW d).length * (1048576 + 1) ≤ 1048676 * (1048576 + 1) := Nat.mul_le_mul_right _ h1
  omega
set_option maxHeartbeats 4000000 in
theorem ddlTextS_ok (d : GDdl) (hd : okDdl d) (hb : bdD d) : VC Try.prog 76 [vDdl d] [(false, [(.s, .sc (.string (ofT (ddlT d))))])] := by
  refine vc_of_ew good hm [0,1,2,5] Try.func76 rfl (by kernel_rfl) (by kernel_rfl) rfl ?_
  simp [Try.f76]
  refine .of (ddlOkS_ok _ hd) ?_
  simp
  refine ⟨fun h => by simp [ddlT, h, ofT], fun h => .of (ddlWS_ok d hd h hb.2.2.2.1) ?_⟩
  simp [mStrS]
  have h1 := ddlT_len h hb
  refine .of (joinS_ok (ddlW d) (by have := (ddlW_bd h hb).1; omega) (by omega)) ?_
  simp [ddlT, h]
end Go.Proofs.Yteeolohhmfjafaa

/-! YteeolohhmfjafaaRecTx -/
namespace Go.Proofs.Yteeolohhmfjafaa
open Go Go.Proofs Go.Sm
attribute [local simp] ti eStr eInt eByte eVal cVal vVal vValS vRow eCol vCol vColS vStrS cDdl vDdl vStmt ePart vPart vPartS eBatch cBatch vBatch cTable vTable
set_option linter.unusedVariables false
set_option linter.unusedSimpArgs false
set_option maxRecDepth 8000


def bInsert : ByteArray := ⟨#[105, 110, 115, 101, 114, 116]⟩
def bUpdate : ByteArray := ⟨#[117, 112, 100, 97, 116, 101]⟩
def bDelete : ByteArray := ⟨#[100, 101, 108, 101, 116, 101]⟩
def bClear : ByteArray := ⟨#[99, 108, 101, 97, 114]⟩
def bTo : ByteArray := ⟨#[116, 111]⟩
def stmtW (s : GStmt) : List ByteArray := if s.fKind = 1 then [bInsert, s.fTable] ++ valW s.fRow.fVals else if s.fKind = 2 then [bUpdate, s.fTable] ++ (valW s.fKey ++ bTo :: valW s.fRow.fVals) else if s.fKind = 3 then [bDelete, s.fTable] ++ valW s.fKey else if s.fKind = 4 then [bClear, s.fTable] else ddlW s.fDdl
def stmtT (s : GStmt) : List UInt8 := if stmtOk s = true then wsT (stmtW s) else []
def bdS (s : GStmt) : Prop := s.fTable.size ≤ 1048576 ∧ bdD s.fDdl
theorem vals_ok {l : List GVal} (h : valsOk l = true) : 1 ≤ l.length ∧ l.length ≤ 8 := by
  simp only [valsOk, Bool.and_eq_true] at h
  have h1 := h.1
  simp only [within, Bool.and_eq_true, decide_eq_true_eq] at h1
  omega
theorem stmt_kind {s : GStmt} (h : stmtOk s = true) : (s.fKind = 1 ∧ valsOk s.fRow.fVals = true) ∨ (s.fKind = 2 ∧ valsOk s.fKey = true ∧ valsOk s.fRow.fVals = true) ∨ (s.fKind = 3 ∧ valsOk s.fKey = true) ∨ s.fKind = 4 ∨ (s.fKind = 5 ∧ ddlOk s.fDdl = true) := by
  simp only [stmtOk, Bool.and_eq_true, Bool.or_eq_true, decide_eq_true_eq] at h
  rcases h.2 with (((h1 | h1) | h1) | h1) | h1
  · exact .inl ⟨h1.1, h1.2.1.2⟩
  · exact .inr (.inl ⟨h1.1, h1.2.1.1, h1.2.1.2⟩)
  · exact .inr (.inr (.inl ⟨h1.1, h1.2.1.1⟩))
  · exact .inr (.inr (.inr (.inl h1.1)))
  · exact .inr (.inr (.inr (.inr ⟨h1.1, h1.2.1.2⟩)))
theorem ws_small {l : List ByteArray} (h : ∀ w ∈ l, w.size ≤ 1048576) (hl : l.length ≤ 32) : (wsT l).length ≤ 1000000000 := by
  have h1 := wsT_le h
  have h2 : l.length * (1048576 + 1) ≤ 32 * (1048576 + 1) := Nat.mul_le_mul_right _ hl
  omega
theorem stmtT_len {s : GStmt} (h : stmtOk s = true) (hb : bdS s) : (wsT (stmtW s)).length ≤ 1099619000000 := by
  have hv : ∀ (l : List GVal), ∀ w ∈ valW l, w.size ≤ 1048576 := fun l w hw => by have := valW_size l w hw; omega
  unfold stmtW
  rcases stmt_kind h with ⟨k, v⟩ | ⟨k, v, v'⟩ | ⟨k, v⟩ | k | ⟨k, v⟩
  · rw [if_pos k]
    have := ws_small (l := [bInsert, s.fTable] ++ valW s.fRow.fVals) (fun w hw => by
      rcases List.mem_append.1 hw with hw | hw
      · simp only [List.mem_cons, List.not_mem_nil, or_false] at hw
        rcases hw with rfl | rfl
        · decide
        · exact hb.1
      · exact hv _ w hw) (by have := vals_ok v; simp [valW_len]; omega)
    omega
  · rw [if_neg (by omega), if_pos k]
    have := ws_small (l := [bUpdate, s.fTable] ++ (valW s.fKey ++ bTo :: valW s.fRow.fVals)) (fun w hw => by
      rcases List.mem_append.1 hw with hw | hw
      · simp only [List.mem_cons, List.not_mem_nil, or_false] at hw
        rcases hw with rfl | rfl
        · decide
        · exact hb.1
      · rcases List.mem_append.1 hw with hw | hw
        · exact hv _ w hw
        · rcases List.mem_cons.1 hw with rfl | hw
          · decide
          · exact hv _ w hw) (by have := vals_ok v; have := vals_ok v'; simp [valW_len]; omega)
    omega
  · rw [if_neg (by omega), if_neg (by omega), if_pos k]
    have := ws_small (l := [bDelete, s.fTable] ++ valW s.fKey) (fun w hw => by
      rcases List.mem_append.1 hw with hw | hw
      · simp only [List.mem_cons, List.not_mem_nil, or_false] at hw
        rcases hw with rfl | rfl
        · decide
        · exact hb.1
      · exact hv _ w hw) (by have := vals_ok v; simp [valW_len]; omega)
    omega
  · rw [if_neg (by omega), if_neg (by omega), if_neg (by omega), if_pos k]
    have := ws_small (l := [bClear, s.fTable]) (fun w hw => by
      simp only [List.mem_cons, List.not_mem_nil, or_false] at hw
      rcases hw with rfl | rfl
      · decide
      · exact hb.1) (by simp)
    omega
  · rw [if_neg (by omega), if_neg (by omega), if_neg (by omega), if_neg (by omega)]
    exact ddlT_len v hb.2
set_option maxHeartbeats 8000000 in
set_option maxRecDepth 4000 in
theorem stmtTextS_ok (s : GStmt) (hs : okStmt s) (hb : bdS s) : VC Try.prog 45 [vStmt s] [(false, [(.s, .sc (.string (ofT (stmtT s))))])] := by
  obtain ⟨_, ht, hk, hr, hd, _⟩ := id hs
  refine vc_of_ew good hm [0,1,2,6,8,9,20,3,38,48] Try.func45 rfl (by kernel_rfl) (by kernel_rfl) rfl ?_
  simp [Try.f45, szMk]
  refine .of (stmtOkS_ok _ hs) ?_
  simp [szMk]
  refine ⟨fun h => by simp [stmtT, h, ofT], fun h => ?_⟩
  have hT := stmtT_len h hb
  have hkd := stmt_kind h
  have v1 : s.fKind = 1 → valsOk s.fRow.fVals = true := fun k => by
    rcases hkd with h5 | h5 | h5 | h5 | h5 <;> first | exact h5.2 | (exfalso; omega)
  have v2 : s.fKind = 2 → valsOk s.fKey = true ∧ valsOk s.fRow.fVals = true := fun k => by
    rcases hkd with h5 | h5 | h5 | h5 | h5 <;> first | exact h5.2 | (exfalso; omega)
  have v3 : s.fKind = 3 → valsOk s.fKey = true := fun k => by
    rcases hkd with h5 | h5 | h5 | h5 | h5 <;> first | exact h5.2 | (exfalso; omega)
  have v5 : ¬ s.fKind = 1 → ¬ s.fKind = 2 → ¬ s.fKind = 3 → ¬ s.fKind = 4 → ddlOk s.fDdl = true := fun k1 k2 k3 k4 => by
    rcases hkd with h5 | h5 | h5 | h5 | h5 <;> first | exact h5.2 | (exfalso; omega)
  have htb := hb.1
  refine ⟨fun k => ?_, fun k1 => ⟨fun k => ?_, fun k2 => ⟨fun k => ?_, fun k3 => ⟨fun k => ?_, fun k4 => ?_⟩⟩⟩⟩
  · have e1 : stmtW s = [bInsert, s.fTable] ++ valW s.fRow.fVals := by simp [stmtW, k]
    have hv := vals_ok (v1 k)
    have hvl := valW_len s.fRow.fVals
    refine .of (valsS_ok _ (by omega)) ?_
    simp [mStrS]
    refine ⟨by omega, .of (joinS_ok ([bInsert, s.fTable] ++ valW s.fRow.fVals) (by simp; omega) (by rw [← e1]; omega)) ?_⟩
    simp [stmtT, h, e1]
  · have e2 : stmtW s = ([bUpdate, s.fTable] ++ valW s.fKey) ++ bTo :: valW s.fRow.fVals := by simp [stmtW, k]
    have hv := vals_ok (v2 k).1
    have hv' := vals_ok (v2 k).2
    have hvl := valW_len s.fRow.fVals
    have hkl := valW_len s.fKey
    refine .of (valsS_ok _ (by omega)) ?_
    simp [mStrS]
    refine ⟨by omega, by omega, .of (valsS_ok _ (by omega)) ?_⟩
    simp [mStrS]
    have e2' : stmtW s = [bUpdate, s.fTable] ++ (valW s.fKey ++ bTo :: valW s.fRow.fVals) := by simp [stmtW, k]
    have hj := joinS_ok ([bUpdate, s.fTable] ++ (valW s.fKey ++ bTo :: valW s.fRow.fVals)) (by simp; omega) (by rw [← e2']; omega)
    simp only [vStrS, List.map_append, List.map_cons, List.cons_append, List.nil_append, List.map_nil] at hj
    refine ⟨by omega, .of hj ?_⟩
    simp [stmtT, h, e2']
  · have e3 : stmtW s = [bDelete, s.fTable] ++ valW s.fKey := by simp [stmtW, k]
    have hv := vals_ok (v3 k)
    have hvl := valW_len s.fKey
    refine .of (valsS_ok _ (by omega)) ?_
    simp [mStrS]
    refine ⟨by omega, .of (joinS_ok ([bDelete, s.fTable] ++ valW s.fKey) (by simp; omega) (by rw [← e3]; omega)) ?_⟩
    simp [stmtT, h, e3]
  · exact ⟨by omega, tx_ext (by simp [stmtT, h, stmtW, k, bClear, wsT, joinT])⟩
  · refine .of (ddlTextS_ok _ hd hb.2) ?_
    simp [stmtT, h, stmtW, k1, k2, k3, k4, ddlT, v5 k1 k2 k3 k4]

end Go.Proofs.Yteeolohhmfjafaa

