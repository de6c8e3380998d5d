/- The type table of the seat Ytjidbfocloocaaa: what the framework asks of each type that is plain data; printed by gen_ti.py. -/
import Derived.Test.YtjidbfocloocaaaSm20
import Derived.Test.YtjidbfocloocaaaProg
import Derived.KernelRfl
namespace Go.Proofs.Ytjidbfocloocaaa
open Go Go.Proofs Go.Sm

def ti : TT
  | 2 => { ok := true, desc := .int .i64, sz := 1, by_ := 8, zv := .int .i64 0, z := [.sc (.int .i64 0)] }
  | 3 => { ok := true, desc := .int .i64, sz := 1, by_ := 8, zv := .int .i64 0, z := [.sc (.int .i64 0)] }
  | 4 => { ok := true, desc := .bool, sz := 1, by_ := 1, zv := .bool false, z := [.sc (.bool false)] }
  | 5 => { ok := true, desc := .int .u8, sz := 1, by_ := 1, zv := .int .u8 0, z := [.sc (.int .u8 0)] }
  | 9 => { ok := true, desc := .string, sz := 1, by_ := 16, zv := .string ⟨#[]⟩, z := [.sc (.string ⟨#[]⟩)] }
  | 21 => { ok := true, desc := .int .i32, sz := 1, by_ := 4, zv := .int .i32 0, z := [.sc (.int .i32 0)] }
  | 22 => { ok := true, desc := .slice 9, sz := 1, by_ := 24, zv := .slice none 0 0, z := [.ls [.sc (.string ⟨#[]⟩)] []], ms := [.o 9 (fun _ => [.s])] }
  | 24 => { ok := true, desc := .struct #[fld "Tables" 22 0 0 ""], sz := 1, by_ := 24, zv := .agg #[.slice none 0 0], z := [.ls [.sc (.string ⟨#[]⟩)] []], ms := [.o 9 (fun _ => [.s])] }
  | 27 => { ok := true, desc := .struct #[fld "Tables" 22 0 0 ""], sz := 1, by_ := 24, zv := .agg #[.slice none 0 0], z := [.ls [.sc (.string ⟨#[]⟩)] []], ms := [.o 9 (fun _ => [.s])] }
  | 31 => { ok := true, desc := .slice 5, sz := 1, by_ := 24, zv := .slice none 0 0, z := [.ls [.sc (.int .u8 0)] []], ms := [.o 5 (fun _ => [.s])] }
  | 33 => { ok := true, desc := .struct #[fld "Bytes" 31 0 0 ""], sz := 1, by_ := 24, zv := .agg #[.slice none 0 0], z := [.ls [.sc (.int .u8 0)] []], ms := [.o 5 (fun _ => [.s])] }
  | 35 => { ok := true, desc := .struct #[fld "Bytes" 31 0 0 ""], sz := 1, by_ := 24, zv := .agg #[.slice none 0 0], z := [.ls [.sc (.int .u8 0)] []], ms := [.o 5 (fun _ => [.s])] }
  | 41 => { ok := true, desc := .slice 66, sz := 1, by_ := 24, zv := .slice none 0 0, z := [.ls [.sc (.string ⟨#[]⟩), .sc (.int .i64 0)] []], ms := [.o 66 (fun _ => [.s, .s])] }
  | 44 => { ok := true, desc := .slice 56, sz := 1, by_ := 24, zv := .slice none 0 0, z := [.ls [.sc (.string ⟨#[]⟩), .sc (.int .i64 0)] []], ms := [.o 56 (fun _ => [.s, .s])] }
  | 56 => { ok := true, desc := .struct #[fld "Name" 9 0 0 "", fld "At" 3 1 16 ""], sz := 2, by_ := 24, zv := .agg #[.string ⟨#[]⟩, .int .i64 0], z := [.sc (.string ⟨#[]⟩), .sc (.int .i64 0)], eqb := true }
  | 66 => { ok := true, desc := .struct #[fld "Name" 9 0 0 "", fld "At" 3 1 16 ""], sz := 2, by_ := 24, zv := .agg #[.string ⟨#[]⟩, .int .i64 0], z := [.sc (.string ⟨#[]⟩), .sc (.int .i64 0)] }
  | 82 => { ok := true, desc := .struct #[fld "b" 31 0 0 "loop.example/g00462/spec", fld "i" 3 1 24 "loop.example/g00462/spec", fld "h" 3 2 32 "loop.example/g00462/spec"], sz := 3, by_ := 40, zv := .agg #[.slice none 0 0, .int .i64 0, .int .i64 0], z := [.ls [.sc (.int .u8 0)] [], .sc (.int .i64 0), .sc (.int .i64 0)], ms := [.o 5 (fun _ => [.s]), .s, .s] }
  | 83 => { ok := true, desc := .int .u64, sz := 1, by_ := 8, zv := .int .u64 0, z := [.sc (.int .u64 0)] }
  | 92 => { ok := true, desc := .int .u32, sz := 1, by_ := 4, zv := .int .u32 0, z := [.sc (.int .u32 0)] }
  | _ => {}
def ck : Nat → List CK
  | 2 => [.int .i64]
  | 3 => [.int .i64]
  | 4 => [.bool]
  | 5 => [.int .u8]
  | 9 => [.str]
  | 21 => [.int .i32]
  | 22 => [.sl 9]
  | 24 => [.sl 9]
  | 27 => [.sl 9]
  | 31 => [.sl 5]
  | 33 => [.sl 5]
  | 35 => [.sl 5]
  | 41 => [.sl 66]
  | 44 => [.sl 56]
  | 56 => [.str, .int .i64]
  | 66 => [.str, .int .i64]
  | 82 => [.sl 5, .int .i64, .int .i64]
  | 83 => [.int .u64]
  | 92 => [.int .u32]
  | _ => []
theorem good2 : (ti 2).good Try.prog 2 := good_sc (v := .int .i64 0) rfl rfl rfl rfl (by decide) rfl (by intro _ _ h; cases h) (by kernel_rfl) (by kernel_rfl) (fun _ => rfl)
theorem good3 : (ti 3).good Try.prog 3 := good_sc (v := .int .i64 0) rfl rfl rfl rfl (by decide) rfl (by intro _ _ h; cases h) (by kernel_rfl) (by kernel_rfl) (fun _ => rfl)
theorem good4 : (ti 4).good Try.prog 4 := good_sc (v := .bool false) rfl rfl rfl rfl (by decide) rfl (by intro _ _ h; cases h) (by kernel_rfl) (by kernel_rfl) (fun _ => rfl)
theorem good5 : (ti 5).good Try.prog 5 := good_sc (v := .int .u8 0) rfl rfl rfl rfl (by decide) rfl (by intro _ _ h; cases h) (by kernel_rfl) (by kernel_rfl) (fun _ => rfl)
theorem good9 : (ti 9).good Try.prog 9 := good_sc (v := .string ⟨#[]⟩) rfl rfl rfl rfl (by decide) rfl (by intro _ _ h; cases h) (by kernel_rfl) (by kernel_rfl) (fun _ => rfl)
theorem good21 : (ti 21).good Try.prog 21 := good_sc (v := .int .i32 0) rfl rfl rfl rfl (by decide) rfl (by intro _ _ h; cases h) (by kernel_rfl) (by kernel_rfl) (fun _ => rfl)
theorem good22 : (ti 22).good Try.prog 22 := good_sl (zz := [.sc (.string ⟨#[]⟩)]) rfl rfl rfl rfl (by decide) (by kernel_rfl) (by kernel_rfl)
theorem good24 : (ti 24).good Try.prog 24 := good_st (fs := #[fld "Tables" 22 0 0 ""]) (cs := #[.slice none 0 0]) rfl rfl rfl rfl (by decide) (by decide) (zOk_ok rfl) (by kernel_rfl) (by kernel_rfl) (by kernel_rfl)
theorem good27 : (ti 27).good Try.prog 27 := good_st (fs := #[fld "Tables" 22 0 0 ""]) (cs := #[.slice none 0 0]) rfl rfl rfl rfl (by decide) (by decide) (zOk_ok rfl) (by kernel_rfl) (by kernel_rfl) (by kernel_rfl)
theorem good31 : (ti 31).good Try.prog 31 := good_sl (zz := [.sc (.int .u8 0)]) rfl rfl rfl rfl (by decide) (by kernel_rfl) (by kernel_rfl)
theorem good33 : (ti 33).good Try.prog 33 := good_st (fs := #[fld "Bytes" 31 0 0 ""]) (cs := #[.slice none 0 0]) rfl rfl rfl rfl (by decide) (by decide) (zOk_ok rfl) (by kernel_rfl) (by kernel_rfl) (by kernel_rfl)
theorem good35 : (ti 35).good Try.prog 35 := good_st (fs := #[fld "Bytes" 31 0 0 ""]) (cs := #[.slice none 0 0]) rfl rfl rfl rfl (by decide) (by decide) (zOk_ok rfl) (by kernel_rfl) (by kernel_rfl) (by kernel_rfl)
theorem good41 : (ti 41).good Try.prog 41 := good_sl (zz := [.sc (.string ⟨#[]⟩), .sc (.int .i64 0)]) rfl rfl rfl rfl (by decide) (by kernel_rfl) (by kernel_rfl)
theorem good44 : (ti 44).good Try.prog 44 := good_sl (zz := [.sc (.string ⟨#[]⟩), .sc (.int .i64 0)]) rfl rfl rfl rfl (by decide) (by kernel_rfl) (by kernel_rfl)
theorem good56 : (ti 56).good Try.prog 56 := good_st (fs := #[fld "Name" 9 0 0 "", fld "At" 3 1 16 ""]) (cs := #[.string ⟨#[]⟩, .int .i64 0]) rfl rfl rfl rfl (by decide) (by decide) (zOk_ok rfl) (by kernel_rfl) (by kernel_rfl) (by kernel_rfl)
theorem good66 : (ti 66).good Try.prog 66 := good_st (fs := #[fld "Name" 9 0 0 "", fld "At" 3 1 16 ""]) (cs := #[.string ⟨#[]⟩, .int .i64 0]) rfl rfl rfl rfl (by decide) (by decide) (zOk_ok rfl) (by kernel_rfl) (by kernel_rfl) (by kernel_rfl)
theorem good82 : (ti 82).good Try.prog 82 := good_st (fs := #[fld "b" 31 0 0 "loop.example/g00462/spec", fld "i" 3 1 24 "loop.example/g00462/spec", fld "h" 3 2 32 "loop.example/g00462/spec"]) (cs := #[.slice none 0 0, .int .i64 0, .int .i64 0]) rfl rfl rfl rfl (by decide) (by decide) (zOk_ok rfl) (by kernel_rfl) (by kernel_rfl) (by kernel_rfl)
theorem good83 : (ti 83).good Try.prog 83 := good_sc (v := .int .u64 0) rfl rfl rfl rfl (by decide) rfl (by intro _ _ h; cases h) (by kernel_rfl) (by kernel_rfl) (fun _ => rfl)
theorem good92 : (ti 92).good Try.prog 92 := good_sc (v := .int .u32 0) rfl rfl rfl rfl (by decide) rfl (by intro _ _ h; cases h) (by kernel_rfl) (by kernel_rfl) (fun _ => rfl)
theorem eq9 : eqAt Try.prog (ti 9) 9 1 := eqAt_str (s := ⟨#[]⟩) rfl rfl (by kernel_rfl)
theorem eq3 : eqAt Try.prog (ti 3) 3 1 := eqAt_int (n := 0) rfl rfl (by kernel_rfl)
theorem eq56 : eqAt Try.prog (ti 56) 56 2 := eqAt_st (fs := [fld "Name" 9 0 0 "", fld "At" 3 1 16 ""]) (by kernel_rfl) (by kernel_rfl) (by kernel_rfl) rfl ⟨by decide, rfl, good9, rfl, rfl, eqAt_up eq9 (by decide), ⟨by decide, rfl, good3, rfl, rfl, eqAt_up eq3 (by decide), rfl⟩⟩
theorem good' : ∀ t, (ti t).ok = true → (ti t).good Try.prog t := by
  intro t h
  unfold ti at h
  split at h
  · exact good2
  · exact good3
  · exact good4
  · exact good5
  · exact good9
  · exact good21
  · exact good22
  · exact good24
  · exact good27
  · exact good31
  · exact good33
  · exact good35
  · exact good41
  · exact good44
  · exact good56
  · exact good66
  · exact good82
  · exact good83
  · exact good92
  · cases h
theorem gooe : ∀ t, (ti t).eqb = true → eqAt Try.prog (ti t) t 5000 ∧ Try.prog.eqGuardType Try.prog.depth t = false := by
  intro t h
  have h0 := h
  unfold ti at h
  split at h
  · cases h
  · cases h
  · cases h
  · cases h
  · cases h
  · cases h
  · cases h
  · cases h
  · cases h
  · cases h
  · cases h
  · cases h
  · cases h
  · cases h
  · exact ⟨eqAt_up eq56 (by decide), by kernel_rfl⟩
  · cases h
  · cases h
  · cases h
  · cases h
  · cases h
theorem good : TGood Try.prog ti := ⟨good', gooe⟩
theorem cg2 : ckOk ti ck 2 := by simp [ckOk, ti, ck]
theorem cg3 : ckOk ti ck 3 := by simp [ckOk, ti, ck]
theorem cg4 : ckOk ti ck 4 := by simp [ckOk, ti, ck]
theorem cg5 : ckOk ti ck 5 := by simp [ckOk, ti, ck]
theorem cg9 : ckOk ti ck 9 := by simp [ckOk, ti, ck]
theorem cg21 : ckOk ti ck 21 := by simp [ckOk, ti, ck]
theorem cg22 : ckOk ti ck 22 := by simp [ckOk, ti, ck]
theorem cg24 : ckOk ti ck 24 := by simp [ckOk, ti, ck, contig]
theorem cg27 : ckOk ti ck 27 := by simp [ckOk, ti, ck, contig]
theorem cg31 : ckOk ti ck 31 := by simp [ckOk, ti, ck]
theorem cg33 : ckOk ti ck 33 := by simp [ckOk, ti, ck, contig]
theorem cg35 : ckOk ti ck 35 := by simp [ckOk, ti, ck, contig]
theorem cg41 : ckOk ti ck 41 := by simp [ckOk, ti, ck]
theorem cg44 : ckOk ti ck 44 := by simp [ckOk, ti, ck]
theorem cg56 : ckOk ti ck 56 := by simp [ckOk, ti, ck, contig]
theorem cg66 : ckOk ti ck 66 := by simp [ckOk, ti, ck, contig]
theorem cg82 : ckOk ti ck 82 := by simp [ckOk, ti, ck, contig]
theorem cg83 : ckOk ti ck 83 := by simp [ckOk, ti, ck]
theorem cg92 : ckOk ti ck 92 := by simp [ckOk, ti, ck]
theorem cgood : CGood ti ck := by
  intro t h
  unfold ti at h
  split at h
  · exact cg2
  · exact cg3
  · exact cg4
  · exact cg5
  · exact cg9
  · exact cg21
  · exact cg22
  · exact cg24
  · exact cg27
  · exact cg31
  · exact cg33
  · exact cg35
  · exact cg41
  · exact cg44
  · exact cg56
  · exact cg66
  · exact cg82
  · exact cg83
  · exact cg92
  · cases h
theorem hm : Try.prog.follows .mixedOrders = true := by kernel_rfl
end Go.Proofs.Ytjidbfocloocaaa
