import Derived.Test.YtkciklpdhhcblaaGreatRecTx
namespace Go.Proofs.YtkciklpdhhcblaaGreat
open Go Go.Proofs Go.Sm
attribute [local simp] ti eStr eInt eByte eVal cVal vVal eCol cCol vCol eColS vColS eStrS vStrS eTable cTable vTable eTableS vTableS eCat cCat vCat eValS vValS eRow cRow vRow eRowS vRowS eRows cRows vRows eRowsS vRowsS eDb cDb vDb eDdl cDdl vDdl eFol cFol vFol eStmt cStmt vStmt eRec cRec vRec eSnap cSnap vSnap eRecS vRecS eTail cTail vTail
set_option linter.unusedVariables false
set_option linter.unusedSimpArgs false


theorem bdD_of {d : GDdl} (hs : ∀ n ∈ wDdl d, n ≤ 1048576) : bdD d := by
  simp only [wDdl, wColS, wStrS, List.mem_cons, List.mem_append, List.not_mem_nil, or_false] at hs
  refine ⟨hs _ (.inl rfl), hs _ (.inr (.inr (.inr (.inl rfl)))), hs _ (.inr (.inr (.inr (.inr rfl)))), hs _ (.inr (.inr (.inl (.inl rfl)))), fun k hk => hs _ (.inr (.inr (.inl (.inr (List.mem_flatMap.2 ⟨k, hk, by simp [wStr]⟩))))), hs _ (.inr (.inl (.inl rfl)))⟩
theorem bdS_of {s : GStmt} (hs : ∀ n ∈ wStmt s, n ≤ 1048576) : bdS s := by
  simp only [wStmt, List.mem_cons, List.mem_append, List.not_mem_nil, or_false] at hs
  exact ⟨hs _ (.inl rfl), bdD_of fun n hn => hs n (.inr (.inr (.inr hn)))⟩
theorem stmtT_len2 {s : GStmt} (hb : bdS s) : (stmtT s).length ≤ 1099619000000 := by
  unfold stmtT
  split
  · rename_i h
    exact stmtT_len h hb
  · simp

end Go.Proofs.YtkciklpdhhcblaaGreat
