import Derived.Test.YteeolohhmfjafaaGreatG4
import Derived.Test.YteeolohhmfjafaaGreatProg
import Derived.KernelRfl
set_option maxHeartbeats 8000000
set_option maxRecDepth 8000
namespace Go.Proofs.YteeolohhmfjafaaGreat
open Go Go.Proofs Go.Sm
def ti:TT
 |2=> {ok:=true,desc:= .int .i64,sz:=1,by_:=8,zv:= .int .i64 0,z:= [.sc (.int .i64 0)]}
 |3=> {ok:=true,desc:= .int .i64,sz:=1,by_:=8,zv:= .int .i64 0,z:= [.sc (.int .i64 0)]}
 |4=> {ok:=true,desc:= .bool,sz:=1,by_:=1,zv:= .bool false,z:= [.sc (.bool false)]}
 |5=> {ok:=true,desc:= .int .u8,sz:=1,by_:=1,zv:= .int .u8 0,z:= [.sc (.int .u8 0)]}
 |9=> {ok:=true,desc:= .string,sz:=1,by_:=16,zv:= .string ⟨#[]⟩,z:= [.sc (.string ⟨#[]⟩)]}
 |21=> {ok:=true,desc:= .int .i32,sz:=1,by_:=4,zv:= .int .i32 0,z:= [.sc (.int .i32 0)]}
 |22=> {ok:=true,desc:= .slice 308,sz:=1,by_:=24,zv:= .slice none 0 0,z:= [.ls [.sc (.string ⟨#[]⟩),.ls [.sc (.string ⟨#[]⟩),.sc (.int .i64 0),.sc (.bool false),.sc (.bool false),.sc (.int .i64 0),.sc (.int .i64 0),.sc (.string ⟨#[]⟩)] [],.ls [.sc (.string ⟨#[]⟩)] []] []],ms:= [.o 308 (fun _=> [.s,.o 367 (fun _=> [.s,.s,.s,.s,.s,.s,.s]),.o 9 (fun _=> [.s])])]}
 |24=> {ok:=true,desc:= .struct #[fld "Tables" 22 0 0 ""],sz:=1,by_:=24,zv:= .agg #[.slice none 0 0],z:= [.ls [.sc (.string ⟨#[]⟩),.ls [.sc (.string ⟨#[]⟩),.sc (.int .i64 0),.sc (.bool false),.sc (.bool false),.sc (.int .i64 0),.sc (.int .i64 0),.sc (.string ⟨#[]⟩)] [],.ls [.sc (.string ⟨#[]⟩)] []] []],ms:= [.o 308 (fun _=> [.s,.o 367 (fun _=> [.s,.s,.s,.s,.s,.s,.s]),.o 9 (fun _=> [.s])])]}
 |25=> {ok:=true,desc:= .slice 224,sz:=1,by_:=24,zv:= .slice none 0 0,z:= [.ls [.ls [.ls [.sc (.int .i64 0),.sc (.int .i64 0),.sc (.string ⟨#[]⟩)] []] []] []],ms:= [.o 224 (fun _=> [.o 141 (fun _=> [.o 311 (fun _=> [.s,.s,.s])])])]}
 |27=> {ok:=true,desc:= .struct #[fld "Cat" 24 0 0 "",fld "Data" 25 1 24 ""],sz:=2,by_:=48,zv:= .agg #[.slice none 0 0,.slice none 0 0],z:= [.ls [.sc (.string ⟨#[]⟩),.ls [.sc (.string ⟨#[]⟩),.sc (.int .i64 0),.sc (.bool false),.sc (.bool false),.sc (.int .i64 0),.sc (.int .i64 0),.sc (.string ⟨#[]⟩)] [],.ls [.sc (.string ⟨#[]⟩)] []] [],.ls [.ls [.ls [.sc (.int .i64 0),.sc (.int .i64 0),.sc (.string ⟨#[]⟩)] []] []] []],ms:= [.o 308 (fun _=> [.s,.o 367 (fun _=> [.s,.s,.s,.s,.s,.s,.s]),.o 9 (fun _=> [.s])]),.o 224 (fun _=> [.o 141 (fun _=> [.o 311 (fun _=> [.s,.s,.s])])])]}
 |28=> {ok:=true,desc:= .slice 146,sz:=1,by_:=24,zv:= .slice none 0 0,z:= [.ls [.sc (.int .i64 0),.sc (.string ⟨#[]⟩),.ls [.sc (.int .i64 0),.sc (.int .i64 0),.sc (.string ⟨#[]⟩)] [],.ls [.sc (.int .i64 0),.sc (.int .i64 0),.sc (.string ⟨#[]⟩)] [],.sc (.int .i64 0),.sc (.string ⟨#[]⟩),.ls [.sc (.string ⟨#[]⟩),.sc (.int .i64 0),.sc (.bool false),.sc (.bool false),.sc (.int .i64 0),.sc (.int .i64 0),.sc (.string ⟨#[]⟩)] [],.ls [.sc (.string ⟨#[]⟩)] [],.sc (.string ⟨#[]⟩),.sc (.string ⟨#[]⟩)] []],ms:= [.o 146 (fun _=> [.s,.s,.o 311 (fun _=> [.s,.s,.s]),.o 311 (fun _=> [.s,.s,.s]),.s,.s,.o 367 (fun _=> [.s,.s,.s,.s,.s,.s,.s]),.o 9 (fun _=> [.s]),.s,.s])]}
 |31=> {ok:=true,desc:= .slice 150,sz:=1,by_:=24,zv:= .slice none 0 0,z:= [.ls [.sc (.int .i64 0),.sc (.string ⟨#[]⟩),.ls [.sc (.int .i64 0),.sc (.int .i64 0),.sc (.string ⟨#[]⟩)] [],.ls [.sc (.int .i64 0),.sc (.int .i64 0),.sc (.string ⟨#[]⟩)] [],.sc (.int .i64 0),.sc (.string ⟨#[]⟩),.ls [.sc (.string ⟨#[]⟩),.sc (.int .i64 0),.sc (.bool false),.sc (.bool false),.sc (.int .i64 0),.sc (.int .i64 0),.sc (.string ⟨#[]⟩)] [],.ls [.sc (.string ⟨#[]⟩)] [],.sc (.string ⟨#[]⟩),.sc (.string ⟨#[]⟩),.ls [.sc (.string ⟨#[]⟩)] [],.ls [.sc (.string ⟨#[]⟩)] []] []],ms:= [.o 150 (fun _=> [.s,.s,.o 234 (fun _=> [.s,.s,.s]),.o 234 (fun _=> [.s,.s,.s]),.s,.s,.o 236 (fun _=> [.s,.s,.s,.s,.s,.s,.s]),.o 9 (fun _=> [.s]),.s,.s,.o 9 (fun _=> [.s]),.o 9 (fun _=> [.s])])]}
 |34=> {ok:=true,desc:= .slice 201,sz:=1,by_:=24,zv:= .slice none 0 0,z:= [.ls [.sc (.string ⟨#[]⟩),.ls [.sc (.string ⟨#[]⟩),.sc (.int .i64 0),.sc (.bool false),.sc (.bool false),.sc (.int .i64 0),.sc (.int .i64 0),.sc (.string ⟨#[]⟩)] [],.ls [.sc (.string ⟨#[]⟩)] []] []],ms:= [.o 201 (fun _=> [.s,.o 236 (fun _=> [.s,.s,.s,.s,.s,.s,.s]),.o 9 (fun _=> [.s])])]}
 |36=> {ok:=true,desc:= .struct #[fld "Tables" 34 0 0 ""],sz:=1,by_:=24,zv:= .agg #[.slice none 0 0],z:= [.ls [.sc (.string ⟨#[]⟩),.ls [.sc (.string ⟨#[]⟩),.sc (.int .i64 0),.sc (.bool false),.sc (.bool false),.sc (.int .i64 0),.sc (.int .i64 0),.sc (.string ⟨#[]⟩)] [],.ls [.sc (.string ⟨#[]⟩)] []] []],ms:= [.o 201 (fun _=> [.s,.o 236 (fun _=> [.s,.s,.s,.s,.s,.s,.s]),.o 9 (fun _=> [.s])])]}
 |37=> {ok:=true,desc:= .slice 205,sz:=1,by_:=24,zv:= .slice none 0 0,z:= [.ls [.ls [.ls [.sc (.int .i64 0),.sc (.int .i64 0),.sc (.string ⟨#[]⟩)] []] []] []],ms:= [.o 205 (fun _=> [.o 120 (fun _=> [.o 234 (fun _=> [.s,.s,.s])])])]}
 |39=> {ok:=true,desc:= .struct #[fld "Cat" 36 0 0 "",fld "Data" 37 1 24 ""],sz:=2,by_:=48,zv:= .agg #[.slice none 0 0,.slice none 0 0],z:= [.ls [.sc (.string ⟨#[]⟩),.ls [.sc (.string ⟨#[]⟩),.sc (.int .i64 0),.sc (.bool false),.sc (.bool false),.sc (.int .i64 0),.sc (.int .i64 0),.sc (.string ⟨#[]⟩)] [],.ls [.sc (.string ⟨#[]⟩)] []] [],.ls [.ls [.ls [.sc (.int .i64 0),.sc (.int .i64 0),.sc (.string ⟨#[]⟩)] []] []] []],ms:= [.o 201 (fun _=> [.s,.o 236 (fun _=> [.s,.s,.s,.s,.s,.s,.s]),.o 9 (fun _=> [.s])]),.o 205 (fun _=> [.o 120 (fun _=> [.o 234 (fun _=> [.s,.s,.s])])])]}
 |41=> {ok:=true,desc:= .slice 126,sz:=1,by_:=24,zv:= .slice none 0 0,z:= [.ls [.sc (.int .i64 0),.sc (.string ⟨#[]⟩),.ls [.sc (.int .i64 0),.sc (.int .i64 0),.sc (.string ⟨#[]⟩)] [],.ls [.sc (.int .i64 0),.sc (.int .i64 0),.sc (.string ⟨#[]⟩)] [],.sc (.int .i64 0),.sc (.string ⟨#[]⟩),.ls [.sc (.string ⟨#[]⟩),.sc (.int .i64 0),.sc (.bool false),.sc (.bool false),.sc (.int .i64 0),.sc (.int .i64 0),.sc (.string ⟨#[]⟩)] [],.ls [.sc (.string ⟨#[]⟩)] [],.sc (.string ⟨#[]⟩),.sc (.string ⟨#[]⟩)] []],ms:= [.o 126 (fun _=> [.s,.s,.o 234 (fun _=> [.s,.s,.s]),.o 234 (fun _=> [.s,.s,.s]),.s,.s,.o 236 (fun _=> [.s,.s,.s,.s,.s,.s,.s]),.o 9 (fun _=> [.s]),.s,.s])]}
 |50=> {ok:=true,desc:= .slice 171,sz:=1,by_:=24,zv:= .slice none 0 0,z:= [.ls [.sc (.int .i64 0),.sc (.int .i64 0),.sc (.int .i64 0),.sc (.string ⟨#[]⟩),.ls [.sc (.int .i64 0),.sc (.int .i64 0),.sc (.string ⟨#[]⟩)] [],.ls [.sc (.int .i64 0),.sc (.int .i64 0),.sc (.string ⟨#[]⟩)] [],.sc (.int .i64 0),.sc (.string ⟨#[]⟩),.ls [.sc (.string ⟨#[]⟩),.sc (.int .i64 0),.sc (.bool false),.sc (.bool false),.sc (.int .i64 0),.sc (.int .i64 0),.sc (.string ⟨#[]⟩)] [],.ls [.sc (.string ⟨#[]⟩)] [],.sc (.string ⟨#[]⟩),.sc (.string ⟨#[]⟩)] []],ms:= [.o 171 (fun _=> [.s,.s,.s,.s,.o 311 (fun _=> [.s,.s,.s]),.o 311 (fun _=> [.s,.s,.s]),.s,.s,.o 367 (fun _=> [.s,.s,.s,.s,.s,.s,.s]),.o 9 (fun _=> [.s]),.s,.s])]}
 |52=> {ok:=true,desc:= .slice 62,sz:=1,by_:=24,zv:= .slice none 0 0,z:= [.ls [.sc (.int .i64 0),.sc (.int .i64 0),.ls [.sc (.int .i64 0),.sc (.string ⟨#[]⟩),.ls [.sc (.int .i64 0),.sc (.int .i64 0),.sc (.string ⟨#[]⟩)] [],.ls [.sc (.int .i64 0),.sc (.int .i64 0),.sc (.string ⟨#[]⟩)] [],.sc (.int .i64 0),.sc (.string ⟨#[]⟩),.ls [.sc (.string ⟨#[]⟩),.sc (.int .i64 0),.sc (.bool false),.sc (.bool false),.sc (.int .i64 0),.sc (.int .i64 0),.sc (.string ⟨#[]⟩)] [],.ls [.sc (.string ⟨#[]⟩)] [],.sc (.string ⟨#[]⟩),.sc (.string ⟨#[]⟩),.ls [.sc (.string ⟨#[]⟩)] [],.ls [.sc (.string ⟨#[]⟩)] []] []] []],ms:= [.o 62 (fun _=> [.s,.s,.o 150 (fun _=> [.s,.s,.o 234 (fun _=> [.s,.s,.s]),.o 234 (fun _=> [.s,.s,.s]),.s,.s,.o 236 (fun _=> [.s,.s,.s,.s,.s,.s,.s]),.o 9 (fun _=> [.s]),.s,.s,.o 9 (fun _=> [.s]),.o 9 (fun _=> [.s])])])]}
 |54=> {ok:=true,desc:= .slice 128,sz:=1,by_:=24,zv:= .slice none 0 0,z:= [.ls [.sc (.int .i64 0),.sc (.int .i64 0),.sc (.int .i64 0),.sc (.string ⟨#[]⟩),.ls [.sc (.int .i64 0),.sc (.int .i64 0),.sc (.string ⟨#[]⟩)] [],.ls [.sc (.int .i64 0),.sc (.int .i64 0),.sc (.string ⟨#[]⟩)] [],.sc (.int .i64 0),.sc (.string ⟨#[]⟩),.ls [.sc (.string ⟨#[]⟩),.sc (.int .i64 0),.sc (.bool false),.sc (.bool false),.sc (.int .i64 0),.sc (.int .i64 0),.sc (.string ⟨#[]⟩)] [],.ls [.sc (.string ⟨#[]⟩)] [],.sc (.string ⟨#[]⟩),.sc (.string ⟨#[]⟩)] []],ms:= [.o 128 (fun _=> [.s,.s,.s,.s,.o 234 (fun _=> [.s,.s,.s]),.o 234 (fun _=> [.s,.s,.s]),.s,.s,.o 236 (fun _=> [.s,.s,.s,.s,.s,.s,.s]),.o 9 (fun _=> [.s]),.s,.s])]}
 |62=> {ok:=true,desc:= .struct #[fld "Lsn" 3 0 0 "",fld "Prev" 3 1 8 "",fld "Parts" 31 2 16 ""],sz:=3,by_:=40,zv:= .agg #[.int .i64 0,.int .i64 0,.slice none 0 0],z:= [.sc (.int .i64 0),.sc (.int .i64 0),.ls [.sc (.int .i64 0),.sc (.string ⟨#[]⟩),.ls [.sc (.int .i64 0),.sc (.int .i64 0),.sc (.string ⟨#[]⟩)] [],.ls [.sc (.int .i64 0),.sc (.int .i64 0),.sc (.string ⟨#[]⟩)] [],.sc (.int .i64 0),.sc (.string ⟨#[]⟩),.ls [.sc (.string ⟨#[]⟩),.sc (.int .i64 0),.sc (.bool false),.sc (.bool false),.sc (.int .i64 0),.sc (.int .i64 0),.sc (.string ⟨#[]⟩)] [],.ls [.sc (.string ⟨#[]⟩)] [],.sc (.string ⟨#[]⟩),.sc (.string ⟨#[]⟩),.ls [.sc (.string ⟨#[]⟩)] [],.ls [.sc (.string ⟨#[]⟩)] []] []],ms:= [.s,.s,.o 150 (fun _=> [.s,.s,.o 234 (fun _=> [.s,.s,.s]),.o 234 (fun _=> [.s,.s,.s]),.s,.s,.o 236 (fun _=> [.s,.s,.s,.s,.s,.s,.s]),.o 9 (fun _=> [.s]),.s,.s,.o 9 (fun _=> [.s]),.o 9 (fun _=> [.s])])]}
 |68=> {ok:=true,desc:= .slice 277,sz:=1,by_:=24,zv:= .slice none 0 0,z:= [.ls [.sc (.int .i64 0),.sc (.string ⟨#[]⟩),.ls [.sc (.int .i64 0),.sc (.int .i64 0),.sc (.string ⟨#[]⟩)] [],.ls [.sc (.int .i64 0),.sc (.int .i64 0),.sc (.string ⟨#[]⟩)] [],.sc (.int .i64 0),.sc (.string ⟨#[]⟩),.ls [.sc (.string ⟨#[]⟩),.sc (.int .i64 0),.sc (.bool false),.sc (.bool false),.sc (.int .i64 0),.sc (.int .i64 0),.sc (.string ⟨#[]⟩)] [],.ls [.sc (.string ⟨#[]⟩)] [],.sc (.string ⟨#[]⟩),.sc (.string ⟨#[]⟩),.ls [.sc (.string ⟨#[]⟩)] [],.ls [.sc (.string ⟨#[]⟩)] []] []],ms:= [.o 277 (fun _=> [.s,.s,.o 311 (fun _=> [.s,.s,.s]),.o 311 (fun _=> [.s,.s,.s]),.s,.s,.o 367 (fun _=> [.s,.s,.s,.s,.s,.s,.s]),.o 9 (fun _=> [.s]),.s,.s,.o 9 (fun _=> [.s]),.o 9 (fun _=> [.s])])]}
 |70=> {ok:=true,desc:= .struct #[fld "Lsn" 3 0 0 "",fld "Prev" 3 1 8 "",fld "Parts" 68 2 16 ""],sz:=3,by_:=40,zv:= .agg #[.int .i64 0,.int .i64 0,.slice none 0 0],z:= [.sc (.int .i64 0),.sc (.int .i64 0),.ls [.sc (.int .i64 0),.sc (.string ⟨#[]⟩),.ls [.sc (.int .i64 0),.sc (.int .i64 0),.sc (.string ⟨#[]⟩)] [],.ls [.sc (.int .i64 0),.sc (.int .i64 0),.sc (.string ⟨#[]⟩)] [],.sc (.int .i64 0),.sc (.string ⟨#[]⟩),.ls [.sc (.string ⟨#[]⟩),.sc (.int .i64 0),.sc (.bool false),.sc (.bool false),.sc (.int .i64 0),.sc (.int .i64 0),.sc (.string ⟨#[]⟩)] [],.ls [.sc (.string ⟨#[]⟩)] [],.sc (.string ⟨#[]⟩),.sc (.string ⟨#[]⟩),.ls [.sc (.string ⟨#[]⟩)] [],.ls [.sc (.string ⟨#[]⟩)] []] []],ms:= [.s,.s,.o 277 (fun _=> [.s,.s,.o 311 (fun _=> [.s,.s,.s]),.o 311 (fun _=> [.s,.s,.s]),.s,.s,.o 367 (fun _=> [.s,.s,.s,.s,.s,.s,.s]),.o 9 (fun _=> [.s]),.s,.s,.o 9 (fun _=> [.s]),.o 9 (fun _=> [.s])])]}
 |72=> {ok:=true,desc:= .slice 5,sz:=1,by_:=24,zv:= .slice none 0 0,z:= [.ls [.sc (.int .u8 0)] []],ms:= [.o 5 (fun _=> [.s])]}
 |74=> {ok:=true,desc:= .struct #[fld "Bytes" 72 0 0 ""],sz:=1,by_:=24,zv:= .agg #[.slice none 0 0],z:= [.ls [.sc (.int .u8 0)] []],ms:= [.o 5 (fun _=> [.s])]}
 |81=> {ok:=true,desc:= .slice 74,sz:=1,by_:=24,zv:= .slice none 0 0,z:= [.ls [.ls [.sc (.int .u8 0)] []] []],ms:= [.o 74 (fun _=> [.o 5 (fun _=> [.s])])]}
 |87=> {ok:=true,desc:= .struct #[fld "Base" 3 0 0 "",fld "Db" 27 1 8 "",fld "Recs" 50 3 56 ""],sz:=4,by_:=80,zv:= .agg #[.int .i64 0,.slice none 0 0,.slice none 0 0,.slice none 0 0],z:= [.sc (.int .i64 0),.ls [.sc (.string ⟨#[]⟩),.ls [.sc (.string ⟨#[]⟩),.sc (.int .i64 0),.sc (.bool false),.sc (.bool false),.sc (.int .i64 0),.sc (.int .i64 0),.sc (.string ⟨#[]⟩)] [],.ls [.sc (.string ⟨#[]⟩)] []] [],.ls [.ls [.ls [.sc (.int .i64 0),.sc (.int .i64 0),.sc (.string ⟨#[]⟩)] []] []] [],.ls [.sc (.int .i64 0),.sc (.int .i64 0),.sc (.int .i64 0),.sc (.string ⟨#[]⟩),.ls [.sc (.int .i64 0),.sc (.int .i64 0),.sc (.string ⟨#[]⟩)] [],.ls [.sc (.int .i64 0),.sc (.int .i64 0),.sc (.string ⟨#[]⟩)] [],.sc (.int .i64 0),.sc (.string ⟨#[]⟩),.ls [.sc (.string ⟨#[]⟩),.sc (.int .i64 0),.sc (.bool false),.sc (.bool false),.sc (.int .i64 0),.sc (.int .i64 0),.sc (.string ⟨#[]⟩)] [],.ls [.sc (.string ⟨#[]⟩)] [],.sc (.string ⟨#[]⟩),.sc (.string ⟨#[]⟩)] []],ms:= [.s,.o 308 (fun _=> [.s,.o 367 (fun _=> [.s,.s,.s,.s,.s,.s,.s]),.o 9 (fun _=> [.s])]),.o 224 (fun _=> [.o 141 (fun _=> [.o 311 (fun _=> [.s,.s,.s])])]),.o 171 (fun _=> [.s,.s,.s,.s,.o 311 (fun _=> [.s,.s,.s]),.o 311 (fun _=> [.s,.s,.s]),.s,.s,.o 367 (fun _=> [.s,.s,.s,.s,.s,.s,.s]),.o 9 (fun _=> [.s]),.s,.s])]}
 |92=> {ok:=true,desc:= .struct #[fld "Base" 3 0 0 "",fld "Db" 39 1 8 "",fld "Recs" 54 3 56 ""],sz:=4,by_:=80,zv:= .agg #[.int .i64 0,.slice none 0 0,.slice none 0 0,.slice none 0 0],z:= [.sc (.int .i64 0),.ls [.sc (.string ⟨#[]⟩),.ls [.sc (.string ⟨#[]⟩),.sc (.int .i64 0),.sc (.bool false),.sc (.bool false),.sc (.int .i64 0),.sc (.int .i64 0),.sc (.string ⟨#[]⟩)] [],.ls [.sc (.string ⟨#[]⟩)] []] [],.ls [.ls [.ls [.sc (.int .i64 0),.sc (.int .i64 0),.sc (.string ⟨#[]⟩)] []] []] [],.ls [.sc (.int .i64 0),.sc (.int .i64 0),.sc (.int .i64 0),.sc (.string ⟨#[]⟩),.ls [.sc (.int .i64 0),.sc (.int .i64 0),.sc (.string ⟨#[]⟩)] [],.ls [.sc (.int .i64 0),.sc (.int .i64 0),.sc (.string ⟨#[]⟩)] [],.sc (.int .i64 0),.sc (.string ⟨#[]⟩),.ls [.sc (.string ⟨#[]⟩),.sc (.int .i64 0),.sc (.bool false),.sc (.bool false),.sc (.int .i64 0),.sc (.int .i64 0),.sc (.string ⟨#[]⟩)] [],.ls [.sc (.string ⟨#[]⟩)] [],.sc (.string ⟨#[]⟩),.sc (.string ⟨#[]⟩)] []],ms:= [.s,.o 201 (fun _=> [.s,.o 236 (fun _=> [.s,.s,.s,.s,.s,.s,.s]),.o 9 (fun _=> [.s])]),.o 205 (fun _=> [.o 120 (fun _=> [.o 234 (fun _=> [.s,.s,.s])])]),.o 128 (fun _=> [.s,.s,.s,.s,.o 234 (fun _=> [.s,.s,.s]),.o 234 (fun _=> [.s,.s,.s]),.s,.s,.o 236 (fun _=> [.s,.s,.s,.s,.s,.s,.s]),.o 9 (fun _=> [.s]),.s,.s])]}
 |98=> {ok:=true,desc:= .struct #[fld "Db" 27 0 0 "",fld "At" 3 2 48 "",fld "Halt" 3 3 56 ""],sz:=4,by_:=64,zv:= .agg #[.slice none 0 0,.slice none 0 0,.int .i64 0,.int .i64 0],z:= [.ls [.sc (.string ⟨#[]⟩),.ls [.sc (.string ⟨#[]⟩),.sc (.int .i64 0),.sc (.bool false),.sc (.bool false),.sc (.int .i64 0),.sc (.int .i64 0),.sc (.string ⟨#[]⟩)] [],.ls [.sc (.string ⟨#[]⟩)] []] [],.ls [.ls [.ls [.sc (.int .i64 0),.sc (.int .i64 0),.sc (.string ⟨#[]⟩)] []] []] [],.sc (.int .i64 0),.sc (.int .i64 0)],ms:= [.o 308 (fun _=> [.s,.o 367 (fun _=> [.s,.s,.s,.s,.s,.s,.s]),.o 9 (fun _=> [.s])]),.o 224 (fun _=> [.o 141 (fun _=> [.o 311 (fun _=> [.s,.s,.s])])]),.s,.s]}
 |100=> {ok:=true,desc:= .struct #[fld "Lsn" 3 0 0 "",fld "Db" 27 1 8 ""],sz:=3,by_:=56,zv:= .agg #[.int .i64 0,.slice none 0 0,.slice none 0 0],z:= [.sc (.int .i64 0),.ls [.sc (.string ⟨#[]⟩),.ls [.sc (.string ⟨#[]⟩),.sc (.int .i64 0),.sc (.bool false),.sc (.bool false),.sc (.int .i64 0),.sc (.int .i64 0),.sc (.string ⟨#[]⟩)] [],.ls [.sc (.string ⟨#[]⟩)] []] [],.ls [.ls [.ls [.sc (.int .i64 0),.sc (.int .i64 0),.sc (.string ⟨#[]⟩)] []] []] []],ms:= [.s,.o 308 (fun _=> [.s,.o 367 (fun _=> [.s,.s,.s,.s,.s,.s,.s]),.o 9 (fun _=> [.s])]),.o 224 (fun _=> [.o 141 (fun _=> [.o 311 (fun _=> [.s,.s,.s])])])]}
 |104=> {ok:=true,desc:= .struct #[fld "Db" 39 0 0 "",fld "At" 3 2 48 "",fld "Halt" 3 3 56 ""],sz:=4,by_:=64,zv:= .agg #[.slice none 0 0,.slice none 0 0,.int .i64 0,.int .i64 0],z:= [.ls [.sc (.string ⟨#[]⟩),.ls [.sc (.string ⟨#[]⟩),.sc (.int .i64 0),.sc (.bool false),.sc (.bool false),.sc (.int .i64 0),.sc (.int .i64 0),.sc (.string ⟨#[]⟩)] [],.ls [.sc (.string ⟨#[]⟩)] []] [],.ls [.ls [.ls [.sc (.int .i64 0),.sc (.int .i64 0),.sc (.string ⟨#[]⟩)] []] []] [],.sc (.int .i64 0),.sc (.int .i64 0)],ms:= [.o 201 (fun _=> [.s,.o 236 (fun _=> [.s,.s,.s,.s,.s,.s,.s]),.o 9 (fun _=> [.s])]),.o 205 (fun _=> [.o 120 (fun _=> [.o 234 (fun _=> [.s,.s,.s])])]),.s,.s]}
 |109=> {ok:=true,desc:= .struct #[fld "Lsn" 3 0 0 "",fld "Db" 39 1 8 ""],sz:=3,by_:=56,zv:= .agg #[.int .i64 0,.slice none 0 0,.slice none 0 0],z:= [.sc (.int .i64 0),.ls [.sc (.string ⟨#[]⟩),.ls [.sc (.string ⟨#[]⟩),.sc (.int .i64 0),.sc (.bool false),.sc (.bool false),.sc (.int .i64 0),.sc (.int .i64 0),.sc (.string ⟨#[]⟩)] [],.ls [.sc (.string ⟨#[]⟩)] []] [],.ls [.ls [.ls [.sc (.int .i64 0),.sc (.int .i64 0),.sc (.string ⟨#[]⟩)] []] []] []],ms:= [.s,.o 201 (fun _=> [.s,.o 236 (fun _=> [.s,.s,.s,.s,.s,.s,.s]),.o 9 (fun _=> [.s])]),.o 205 (fun _=> [.o 120 (fun _=> [.o 234 (fun _=> [.s,.s,.s])])])]}
 |118=> {ok:=true,desc:= .slice 234,sz:=1,by_:=24,zv:= .slice none 0 0,z:= [.ls [.sc (.int .i64 0),.sc (.int .i64 0),.sc (.string ⟨#[]⟩)] []],ms:= [.o 234 (fun _=> [.s,.s,.s])]}
 |120=> {ok:=true,desc:= .struct #[fld "Vals" 118 0 0 ""],sz:=1,by_:=24,zv:= .agg #[.slice none 0 0],z:= [.ls [.sc (.int .i64 0),.sc (.int .i64 0),.sc (.string ⟨#[]⟩)] []],ms:= [.o 234 (fun _=> [.s,.s,.s])]}
 |121=> {ok:=true,desc:= .slice 236,sz:=1,by_:=24,zv:= .slice none 0 0,z:= [.ls [.sc (.string ⟨#[]⟩),.sc (.int .i64 0),.sc (.bool false),.sc (.bool false),.sc (.int .i64 0),.sc (.int .i64 0),.sc (.string ⟨#[]⟩)] []],ms:= [.o 236 (fun _=> [.s,.s,.s,.s,.s,.s,.s])]}
 |122=> {ok:=true,desc:= .slice 9,sz:=1,by_:=24,zv:= .slice none 0 0,z:= [.ls [.sc (.string ⟨#[]⟩)] []],ms:= [.o 9 (fun _=> [.s])]}
 |124=> {ok:=true,desc:= .struct #[fld "Kind" 3 0 0 "",fld "Table" 9 1 8 "",fld "Cols" 121 2 24 "",fld "Keys" 122 3 48 "",fld "Name" 9 4 72 "",fld "To" 9 5 88 ""],sz:=6,by_:=104,zv:= .agg #[.int .i64 0,.string ⟨#[]⟩,.slice none 0 0,.slice none 0 0,.string ⟨#[]⟩,.string ⟨#[]⟩],z:= [.sc (.int .i64 0),.sc (.string ⟨#[]⟩),.ls [.sc (.string ⟨#[]⟩),.sc (.int .i64 0),.sc (.bool false),.sc (.bool false),.sc (.int .i64 0),.sc (.int .i64 0),.sc (.string ⟨#[]⟩)] [],.ls [.sc (.string ⟨#[]⟩)] [],.sc (.string ⟨#[]⟩),.sc (.string ⟨#[]⟩)],ms:= [.s,.s,.o 236 (fun _=> [.s,.s,.s,.s,.s,.s,.s]),.o 9 (fun _=> [.s]),.s,.s]}
 |126=> {ok:=true,desc:= .struct #[fld "Kind" 3 0 0 "",fld "Table" 9 1 8 "",fld "Key" 118 2 24 "",fld "Row" 120 3 48 "",fld "Ddl" 124 4 72 ""],sz:=10,by_:=176,zv:= .agg #[.int .i64 0,.string ⟨#[]⟩,.slice none 0 0,.slice none 0 0,.int .i64 0,.string ⟨#[]⟩,.slice none 0 0,.slice none 0 0,.string ⟨#[]⟩,.string ⟨#[]⟩],z:= [.sc (.int .i64 0),.sc (.string ⟨#[]⟩),.ls [.sc (.int .i64 0),.sc (.int .i64 0),.sc (.string ⟨#[]⟩)] [],.ls [.sc (.int .i64 0),.sc (.int .i64 0),.sc (.string ⟨#[]⟩)] [],.sc (.int .i64 0),.sc (.string ⟨#[]⟩),.ls [.sc (.string ⟨#[]⟩),.sc (.int .i64 0),.sc (.bool false),.sc (.bool false),.sc (.int .i64 0),.sc (.int .i64 0),.sc (.string ⟨#[]⟩)] [],.ls [.sc (.string ⟨#[]⟩)] [],.sc (.string ⟨#[]⟩),.sc (.string ⟨#[]⟩)],ms:= [.s,.s,.o 234 (fun _=> [.s,.s,.s]),.o 234 (fun _=> [.s,.s,.s]),.s,.s,.o 236 (fun _=> [.s,.s,.s,.s,.s,.s,.s]),.o 9 (fun _=> [.s]),.s,.s]}
 |128=> {ok:=true,desc:= .struct #[fld "Kind" 3 0 0 "",fld "Xid" 3 1 8 "",fld "Stmt" 126 2 16 ""],sz:=12,by_:=192,zv:= .agg #[.int .i64 0,.int .i64 0,.int .i64 0,.string ⟨#[]⟩,.slice none 0 0,.slice none 0 0,.int .i64 0,.string ⟨#[]⟩,.slice none 0 0,.slice none 0 0,.string ⟨#[]⟩,.string ⟨#[]⟩],z:= [.sc (.int .i64 0),.sc (.int .i64 0),.sc (.int .i64 0),.sc (.string ⟨#[]⟩),.ls [.sc (.int .i64 0),.sc (.int .i64 0),.sc (.string ⟨#[]⟩)] [],.ls [.sc (.int .i64 0),.sc (.int .i64 0),.sc (.string ⟨#[]⟩)] [],.sc (.int .i64 0),.sc (.string ⟨#[]⟩),.ls [.sc (.string ⟨#[]⟩),.sc (.int .i64 0),.sc (.bool false),.sc (.bool false),.sc (.int .i64 0),.sc (.int .i64 0),.sc (.string ⟨#[]⟩)] [],.ls [.sc (.string ⟨#[]⟩)] [],.sc (.string ⟨#[]⟩),.sc (.string ⟨#[]⟩)],ms:= [.s,.s,.s,.s,.o 234 (fun _=> [.s,.s,.s]),.o 234 (fun _=> [.s,.s,.s]),.s,.s,.o 236 (fun _=> [.s,.s,.s,.s,.s,.s,.s]),.o 9 (fun _=> [.s]),.s,.s]}
 |139=> {ok:=true,desc:= .slice 311,sz:=1,by_:=24,zv:= .slice none 0 0,z:= [.ls [.sc (.int .i64 0),.sc (.int .i64 0),.sc (.string ⟨#[]⟩)] []],ms:= [.o 311 (fun _=> [.s,.s,.s])]}
 |141=> {ok:=true,desc:= .struct #[fld "Vals" 139 0 0 ""],sz:=1,by_:=24,zv:= .agg #[.slice none 0 0],z:= [.ls [.sc (.int .i64 0),.sc (.int .i64 0),.sc (.string ⟨#[]⟩)] []],ms:= [.o 311 (fun _=> [.s,.s,.s])]}
 |142=> {ok:=true,desc:= .slice 367,sz:=1,by_:=24,zv:= .slice none 0 0,z:= [.ls [.sc (.string ⟨#[]⟩),.sc (.int .i64 0),.sc (.bool false),.sc (.bool false),.sc (.int .i64 0),.sc (.int .i64 0),.sc (.string ⟨#[]⟩)] []],ms:= [.o 367 (fun _=> [.s,.s,.s,.s,.s,.s,.s])]}
 |144=> {ok:=true,desc:= .struct #[fld "Kind" 3 0 0 "",fld "Table" 9 1 8 "",fld "Cols" 142 2 24 "",fld "Keys" 122 3 48 "",fld "Name" 9 4 72 "",fld "To" 9 5 88 ""],sz:=6,by_:=104,zv:= .agg #[.int .i64 0,.string ⟨#[]⟩,.slice none 0 0,.slice none 0 0,.string ⟨#[]⟩,.string ⟨#[]⟩],z:= [.sc (.int .i64 0),.sc (.string ⟨#[]⟩),.ls [.sc (.string ⟨#[]⟩),.sc (.int .i64 0),.sc (.bool false),.sc (.bool false),.sc (.int .i64 0),.sc (.int .i64 0),.sc (.string ⟨#[]⟩)] [],.ls [.sc (.string ⟨#[]⟩)] [],.sc (.string ⟨#[]⟩),.sc (.string ⟨#[]⟩)],ms:= [.s,.s,.o 367 (fun _=> [.s,.s,.s,.s,.s,.s,.s]),.o 9 (fun _=> [.s]),.s,.s]}
 |146=> {ok:=true,desc:= .struct #[fld "Kind" 3 0 0 "",fld "Table" 9 1 8 "",fld "Key" 139 2 24 "",fld "Row" 141 3 48 "",fld "Ddl" 144 4 72 ""],sz:=10,by_:=176,zv:= .agg #[.int .i64 0,.string ⟨#[]⟩,.slice none 0 0,.slice none 0 0,.int .i64 0,.string ⟨#[]⟩,.slice none 0 0,.slice none 0 0,.string ⟨#[]⟩,.string ⟨#[]⟩],z:= [.sc (.int .i64 0),.sc (.string ⟨#[]⟩),.ls [.sc (.int .i64 0),.sc (.int .i64 0),.sc (.string ⟨#[]⟩)] [],.ls [.sc (.int .i64 0),.sc (.int .i64 0),.sc (.string ⟨#[]⟩)] [],.sc (.int .i64 0),.sc (.string ⟨#[]⟩),.ls [.sc (.string ⟨#[]⟩),.sc (.int .i64 0),.sc (.bool false),.sc (.bool false),.sc (.int .i64 0),.sc (.int .i64 0),.sc (.string ⟨#[]⟩)] [],.ls [.sc (.string ⟨#[]⟩)] [],.sc (.string ⟨#[]⟩),.sc (.string ⟨#[]⟩)],ms:= [.s,.s,.o 311 (fun _=> [.s,.s,.s]),.o 311 (fun _=> [.s,.s,.s]),.s,.s,.o 367 (fun _=> [.s,.s,.s,.s,.s,.s,.s]),.o 9 (fun _=> [.s]),.s,.s]}
 |150=> {ok:=true,desc:= .struct #[fld "Stmt" 126 0 0 "",fld "Cols" 122 10 176 "",fld "Keys" 122 11 200 ""],sz:=12,by_:=224,zv:= .agg #[.int .i64 0,.string ⟨#[]⟩,.slice none 0 0,.slice none 0 0,.int .i64 0,.string ⟨#[]⟩,.slice none 0 0,.slice none 0 0,.string ⟨#[]⟩,.string ⟨#[]⟩,.slice none 0 0,.slice none 0 0],z:= [.sc (.int .i64 0),.sc (.string ⟨#[]⟩),.ls [.sc (.int .i64 0),.sc (.int .i64 0),.sc (.string ⟨#[]⟩)] [],.ls [.sc (.int .i64 0),.sc (.int .i64 0),.sc (.string ⟨#[]⟩)] [],.sc (.int .i64 0),.sc (.string ⟨#[]⟩),.ls [.sc (.string ⟨#[]⟩),.sc (.int .i64 0),.sc (.bool false),.sc (.bool false),.sc (.int .i64 0),.sc (.int .i64 0),.sc (.string ⟨#[]⟩)] [],.ls [.sc (.string ⟨#[]⟩)] [],.sc (.string ⟨#[]⟩),.sc (.string ⟨#[]⟩),.ls [.sc (.string ⟨#[]⟩)] [],.ls [.sc (.string ⟨#[]⟩)] []],ms:= [.s,.s,.o 234 (fun _=> [.s,.s,.s]),.o 234 (fun _=> [.s,.s,.s]),.s,.s,.o 236 (fun _=> [.s,.s,.s,.s,.s,.s,.s]),.o 9 (fun _=> [.s]),.s,.s,.o 9 (fun _=> [.s]),.o 9 (fun _=> [.s])]}
 |171=> {ok:=true,desc:= .struct #[fld "Kind" 3 0 0 "",fld "Xid" 3 1 8 "",fld "Stmt" 146 2 16 ""],sz:=12,by_:=192,zv:= .agg #[.int .i64 0,.int .i64 0,.int .i64 0,.string ⟨#[]⟩,.slice none 0 0,.slice none 0 0,.int .i64 0,.string ⟨#[]⟩,.slice none 0 0,.slice none 0 0,.string ⟨#[]⟩,.string ⟨#[]⟩],z:= [.sc (.int .i64 0),.sc (.int .i64 0),.sc (.int .i64 0),.sc (.string ⟨#[]⟩),.ls [.sc (.int .i64 0),.sc (.int .i64 0),.sc (.string ⟨#[]⟩)] [],.ls [.sc (.int .i64 0),.sc (.int .i64 0),.sc (.string ⟨#[]⟩)] [],.sc (.int .i64 0),.sc (.string ⟨#[]⟩),.ls [.sc (.string ⟨#[]⟩),.sc (.int .i64 0),.sc (.bool false),.sc (.bool false),.sc (.int .i64 0),.sc (.int .i64 0),.sc (.string ⟨#[]⟩)] [],.ls [.sc (.string ⟨#[]⟩)] [],.sc (.string ⟨#[]⟩),.sc (.string ⟨#[]⟩)],ms:= [.s,.s,.s,.s,.o 311 (fun _=> [.s,.s,.s]),.o 311 (fun _=> [.s,.s,.s]),.s,.s,.o 367 (fun _=> [.s,.s,.s,.s,.s,.s,.s]),.o 9 (fun _=> [.s]),.s,.s]}
 |172=> {ok:=true,desc:= .slice 3,sz:=1,by_:=24,zv:= .slice none 0 0,z:= [.ls [.sc (.int .i64 0)] []],ms:= [.o 3 (fun _=> [.s])]}
 |201=> {ok:=true,desc:= .struct #[fld "Name" 9 0 0 "",fld "Cols" 121 1 16 "",fld "Keys" 122 2 40 ""],sz:=3,by_:=64,zv:= .agg #[.string ⟨#[]⟩,.slice none 0 0,.slice none 0 0],z:= [.sc (.string ⟨#[]⟩),.ls [.sc (.string ⟨#[]⟩),.sc (.int .i64 0),.sc (.bool false),.sc (.bool false),.sc (.int .i64 0),.sc (.int .i64 0),.sc (.string ⟨#[]⟩)] [],.ls [.sc (.string ⟨#[]⟩)] []],ms:= [.s,.o 236 (fun _=> [.s,.s,.s,.s,.s,.s,.s]),.o 9 (fun _=> [.s])]}
 |203=> {ok:=true,desc:= .slice 120,sz:=1,by_:=24,zv:= .slice none 0 0,z:= [.ls [.ls [.sc (.int .i64 0),.sc (.int .i64 0),.sc (.string ⟨#[]⟩)] []] []],ms:= [.o 120 (fun _=> [.o 234 (fun _=> [.s,.s,.s])])]}
 |205=> {ok:=true,desc:= .struct #[fld "Rows" 203 0 0 ""],sz:=1,by_:=24,zv:= .agg #[.slice none 0 0],z:= [.ls [.ls [.sc (.int .i64 0),.sc (.int .i64 0),.sc (.string ⟨#[]⟩)] []] []],ms:= [.o 120 (fun _=> [.o 234 (fun _=> [.s,.s,.s])])]}
 |222=> {ok:=true,desc:= .slice 141,sz:=1,by_:=24,zv:= .slice none 0 0,z:= [.ls [.ls [.sc (.int .i64 0),.sc (.int .i64 0),.sc (.string ⟨#[]⟩)] []] []],ms:= [.o 141 (fun _=> [.o 311 (fun _=> [.s,.s,.s])])]}
 |224=> {ok:=true,desc:= .struct #[fld "Rows" 222 0 0 ""],sz:=1,by_:=24,zv:= .agg #[.slice none 0 0],z:= [.ls [.ls [.sc (.int .i64 0),.sc (.int .i64 0),.sc (.string ⟨#[]⟩)] []] []],ms:= [.o 141 (fun _=> [.o 311 (fun _=> [.s,.s,.s])])]}
 |234=> {ok:=true,desc:= .struct #[fld "Ty" 3 0 0 "",fld "N" 3 1 8 "",fld "S" 9 2 16 ""],sz:=3,by_:=32,zv:= .agg #[.int .i64 0,.int .i64 0,.string ⟨#[]⟩],z:= [.sc (.int .i64 0),.sc (.int .i64 0),.sc (.string ⟨#[]⟩)],eqb:=true}
 |236=> {ok:=true,desc:= .struct #[fld "Name" 9 0 0 "",fld "Ty" 3 1 16 "",fld "Not" 4 2 24 "",fld "Has" 4 3 25 "",fld "Def" 234 4 32 ""],sz:=7,by_:=64,zv:= .agg #[.string ⟨#[]⟩,.int .i64 0,.bool false,.bool false,.int .i64 0,.int .i64 0,.string ⟨#[]⟩],z:= [.sc (.string ⟨#[]⟩),.sc (.int .i64 0),.sc (.bool false),.sc (.bool false),.sc (.int .i64 0),.sc (.int .i64 0),.sc (.string ⟨#[]⟩)],eqb:=true}
 |277=> {ok:=true,desc:= .struct #[fld "Stmt" 146 0 0 "",fld "Cols" 122 10 176 "",fld "Keys" 122 11 200 ""],sz:=12,by_:=224,zv:= .agg #[.int .i64 0,.string ⟨#[]⟩,.slice none 0 0,.slice none 0 0,.int .i64 0,.string ⟨#[]⟩,.slice none 0 0,.slice none 0 0,.string ⟨#[]⟩,.string ⟨#[]⟩,.slice none 0 0,.slice none 0 0],z:= [.sc (.int .i64 0),.sc (.string ⟨#[]⟩),.ls [.sc (.int .i64 0),.sc (.int .i64 0),.sc (.string ⟨#[]⟩)] [],.ls [.sc (.int .i64 0),.sc (.int .i64 0),.sc (.string ⟨#[]⟩)] [],.sc (.int .i64 0),.sc (.string ⟨#[]⟩),.ls [.sc (.string ⟨#[]⟩),.sc (.int .i64 0),.sc (.bool false),.sc (.bool false),.sc (.int .i64 0),.sc (.int .i64 0),.sc (.string ⟨#[]⟩)] [],.ls [.sc (.string ⟨#[]⟩)] [],.sc (.string ⟨#[]⟩),.sc (.string ⟨#[]⟩),.ls [.sc (.string ⟨#[]⟩)] [],.ls [.sc (.string ⟨#[]⟩)] []],ms:= [.s,.s,.o 311 (fun _=> [.s,.s,.s]),.o 311 (fun _=> [.s,.s,.s]),.s,.s,.o 367 (fun _=> [.s,.s,.s,.s,.s,.s,.s]),.o 9 (fun _=> [.s]),.s,.s,.o 9 (fun _=> [.s]),.o 9 (fun _=> [.s])]}
 |308=> {ok:=true,desc:= .struct #[fld "Name" 9 0 0 "",fld "Cols" 142 1 16 "",fld "Keys" 122 2 40 ""],sz:=3,by_:=64,zv:= .agg #[.string ⟨#[]⟩,.slice none 0 0,.slice none 0 0],z:= [.sc (.string ⟨#[]⟩),.ls [.sc (.string ⟨#[]⟩),.sc (.int .i64 0),.sc (.bool false),.sc (.bool false),.sc (.int .i64 0),.sc (.int .i64 0),.sc (.string ⟨#[]⟩)] [],.ls [.sc (.string ⟨#[]⟩)] []],ms:= [.s,.o 367 (fun _=> [.s,.s,.s,.s,.s,.s,.s]),.o 9 (fun _=> [.s])]}
 |311=> {ok:=true,desc:= .struct #[fld "Ty" 3 0 0 "",fld "N" 3 1 8 "",fld "S" 9 2 16 ""],sz:=3,by_:=32,zv:= .agg #[.int .i64 0,.int .i64 0,.string ⟨#[]⟩],z:= [.sc (.int .i64 0),.sc (.int .i64 0),.sc (.string ⟨#[]⟩)]}
 |367=> {ok:=true,desc:= .struct #[fld "Name" 9 0 0 "",fld "Ty" 3 1 16 "",fld "Not" 4 2 24 "",fld "Has" 4 3 25 "",fld "Def" 311 4 32 ""],sz:=7,by_:=64,zv:= .agg #[.string ⟨#[]⟩,.int .i64 0,.bool false,.bool false,.int .i64 0,.int .i64 0,.string ⟨#[]⟩],z:= [.sc (.string ⟨#[]⟩),.sc (.int .i64 0),.sc (.bool false),.sc (.bool false),.sc (.int .i64 0),.sc (.int .i64 0),.sc (.string ⟨#[]⟩)]}
 |394=> {ok:=true,desc:= .int .u64,sz:=1,by_:=8,zv:= .int .u64 0,z:= [.sc (.int .u64 0)]}
 |415=> {ok:=true,desc:= .int .u32,sz:=1,by_:=4,zv:= .int .u32 0,z:= [.sc (.int .u32 0)]}
 |417=> {ok:=true,desc:= .int .u64,sz:=1,by_:=8,zv:= .int .u64 0,z:= [.sc (.int .u64 0)]}
 |_=> {}
def ck:Nat→List CK
 |2=> [.int .i64]
 |3=> [.int .i64]
 |4=> [.bool]
 |5=> [.int .u8]
 |9=> [.str]
 |21=> [.int .i32]
 |22=> [.sl 308]
 |24=> [.sl 308]
 |25=> [.sl 224]
 |27=> [.sl 308,.sl 224]
 |28=> [.sl 146]
 |31=> [.sl 150]
 |34=> [.sl 201]
 |36=> [.sl 201]
 |37=> [.sl 205]
 |39=> [.sl 201,.sl 205]
 |41=> [.sl 126]
 |50=> [.sl 171]
 |52=> [.sl 62]
 |54=> [.sl 128]
 |62=> [.int .i64,.int .i64,.sl 150]
 |68=> [.sl 277]
 |70=> [.int .i64,.int .i64,.sl 277]
 |72=> [.sl 5]
 |74=> [.sl 5]
 |81=> [.sl 74]
 |87=> [.int .i64,.sl 308,.sl 224,.sl 171]
 |92=> [.int .i64,.sl 201,.sl 205,.sl 128]
 |98=> [.sl 308,.sl 224,.int .i64,.int .i64]
 |100=> [.int .i64,.sl 308,.sl 224]
 |104=> [.sl 201,.sl 205,.int .i64,.int .i64]
 |109=> [.int .i64,.sl 201,.sl 205]
 |118=> [.sl 234]
 |120=> [.sl 234]
 |121=> [.sl 236]
 |122=> [.sl 9]
 |124=> [.int .i64,.str,.sl 236,.sl 9,.str,.str]
 |126=> [.int .i64,.str,.sl 234,.sl 234,.int .i64,.str,.sl 236,.sl 9,.str,.str]
 |128=> [.int .i64,.int .i64,.int .i64,.str,.sl 234,.sl 234,.int .i64,.str,.sl 236,.sl 9,.str,.str]
 |139=> [.sl 311]
 |141=> [.sl 311]
 |142=> [.sl 367]
 |144=> [.int .i64,.str,.sl 367,.sl 9,.str,.str]
 |146=> [.int .i64,.str,.sl 311,.sl 311,.int .i64,.str,.sl 367,.sl 9,.str,.str]
 |150=> [.int .i64,.str,.sl 234,.sl 234,.int .i64,.str,.sl 236,.sl 9,.str,.str,.sl 9,.sl 9]
 |171=> [.int .i64,.int .i64,.int .i64,.str,.sl 311,.sl 311,.int .i64,.str,.sl 367,.sl 9,.str,.str]
 |172=> [.sl 3]
 |201=> [.str,.sl 236,.sl 9]
 |203=> [.sl 120]
 |205=> [.sl 120]
 |222=> [.sl 141]
 |224=> [.sl 141]
 |234=> [.int .i64,.int .i64,.str]
 |236=> [.str,.int .i64,.bool,.bool,.int .i64,.int .i64,.str]
 |277=> [.int .i64,.str,.sl 311,.sl 311,.int .i64,.str,.sl 367,.sl 9,.str,.str,.sl 9,.sl 9]
 |308=> [.str,.sl 367,.sl 9]
 |311=> [.int .i64,.int .i64,.str]
 |367=> [.str,.int .i64,.bool,.bool,.int .i64,.int .i64,.str]
 |394=> [.int .u64]
 |415=> [.int .u32]
 |417=> [.int .u64]
 |_=> []
theorem good2:(ti 2).good Tryz.prog 2:=good_sc (v:= .int .i64 0) rfl rfl rfl rfl (by decide) rfl (by intro _ _ h;cases h) (by kernel_rfl) (by kernel_rfl) (fun _=>rfl)
theorem good3:(ti 3).good Tryz.prog 3:=good_sc (v:= .int .i64 0) rfl rfl rfl rfl (by decide) rfl (by intro _ _ h;cases h) (by kernel_rfl) (by kernel_rfl) (fun _=>rfl)
theorem good4:(ti 4).good Tryz.prog 4:=good_sc (v:= .bool false) rfl rfl rfl rfl (by decide) rfl (by intro _ _ h;cases h) (by kernel_rfl) (by kernel_rfl) (fun _=>rfl)
theorem good5:(ti 5).good Tryz.prog 5:=good_sc (v:= .int .u8 0) rfl rfl rfl rfl (by decide) rfl (by intro _ _ h;cases h) (by kernel_rfl) (by kernel_rfl) (fun _=>rfl)
theorem good9:(ti 9).good Tryz.prog 9:=good_sc (v:= .string ⟨#[]⟩) rfl rfl rfl rfl (by decide) rfl (by intro _ _ h;cases h) (by kernel_rfl) (by kernel_rfl) (fun _=>rfl)
theorem good21:(ti 21).good Tryz.prog 21:=good_sc (v:= .int .i32 0) rfl rfl rfl rfl (by decide) rfl (by intro _ _ h;cases h) (by kernel_rfl) (by kernel_rfl) (fun _=>rfl)
theorem good22:(ti 22).good Tryz.prog 22:=good_sl (zz:= [.sc (.string ⟨#[]⟩),.ls [.sc (.string ⟨#[]⟩),.sc (.int .i64 0),.sc (.bool false),.sc (.bool false),.sc (.int .i64 0),.sc (.int .i64 0),.sc (.string ⟨#[]⟩)] [],.ls [.sc (.string ⟨#[]⟩)] []]) rfl rfl rfl rfl (by decide) (by kernel_rfl) (by kernel_rfl)
theorem good24:(ti 24).good Tryz.prog 24:=good_st (fs:= #[fld "Tables" 22 0 0 ""]) (cs:= #[.slice none 0 0]) rfl rfl rfl rfl (by decide) (by decide) (zOk_ok rfl) (by kernel_rfl) (by kernel_rfl) (by kernel_rfl)
theorem good25:(ti 25).good Tryz.prog 25:=good_sl (zz:= [.ls [.ls [.sc (.int .i64 0),.sc (.int .i64 0),.sc (.string ⟨#[]⟩)] []] []]) rfl rfl rfl rfl (by decide) (by kernel_rfl) (by kernel_rfl)
theorem good27:(ti 27).good Tryz.prog 27:=good_st (fs:= #[fld "Cat" 24 0 0 "",fld "Data" 25 1 24 ""]) (cs:= #[.slice none 0 0,.slice none 0 0]) rfl rfl rfl rfl (by decide) (by decide) (zOk_ok rfl) (by kernel_rfl) (by kernel_rfl) (by kernel_rfl)
theorem good28:(ti 28).good Tryz.prog 28:=good_sl (zz:= [.sc (.int .i64 0),.sc (.string ⟨#[]⟩),.ls [.sc (.int .i64 0),.sc (.int .i64 0),.sc (.string ⟨#[]⟩)] [],.ls [.sc (.int .i64 0),.sc (.int .i64 0),.sc (.string ⟨#[]⟩)] [],.sc (.int .i64 0),.sc (.string ⟨#[]⟩),.ls [.sc (.string ⟨#[]⟩),.sc (.int .i64 0),.sc (.bool false),.sc (.bool false),.sc (.int .i64 0),.sc (.int .i64 0),.sc (.string ⟨#[]⟩)] [],.ls [.sc (.string ⟨#[]⟩)] [],.sc (.string ⟨#[]⟩),.sc (.string ⟨#[]⟩)]) rfl rfl rfl rfl (by decide) (by kernel_rfl) (by kernel_rfl)
theorem good31:(ti 31).good Tryz.prog 31:=good_sl (zz:= [.sc (.int .i64 0),.sc (.string ⟨#[]⟩),.ls [.sc (.int .i64 0),.sc (.int .i64 0),.sc (.string ⟨#[]⟩)] [],.ls [.sc (.int .i64 0),.sc (.int .i64 0),.sc (.string ⟨#[]⟩)] [],.sc (.int .i64 0),.sc (.string ⟨#[]⟩),.ls [.sc (.string ⟨#[]⟩),.sc (.int .i64 0),.sc (.bool false),.sc (.bool false),.sc (.int .i64 0),.sc (.int .i64 0),.sc (.string ⟨#[]⟩)] [],.ls [.sc (.string ⟨#[]⟩)] [],.sc (.string ⟨#[]⟩),.sc (.string ⟨#[]⟩),.ls [.sc (.string ⟨#[]⟩)] [],.ls [.sc (.string ⟨#[]⟩)] []]) rfl rfl rfl rfl (by decide) (by kernel_rfl) (by kernel_rfl)
theorem good34:(ti 34).good Tryz.prog 34:=good_sl (zz:= [.sc (.string ⟨#[]⟩),.ls [.sc (.string ⟨#[]⟩),.sc (.int .i64 0),.sc (.bool false),.sc (.bool false),.sc (.int .i64 0),.sc (.int .i64 0),.sc (.string ⟨#[]⟩)] [],.ls [.sc (.string ⟨#[]⟩)] []]) rfl rfl rfl rfl (by decide) (by kernel_rfl) (by kernel_rfl)
theorem good36:(ti 36).good Tryz.prog 36:=good_st (fs:= #[fld "Tables" 34 0 0 ""]) (cs:= #[.slice none 0 0]) rfl rfl rfl rfl (by decide) (by decide) (zOk_ok rfl) (by kernel_rfl) (by kernel_rfl) (by kernel_rfl)
theorem good37:(ti 37).good Tryz.prog 37:=good_sl (zz:= [.ls [.ls [.sc (.int .i64 0),.sc (.int .i64 0),.sc (.string ⟨#[]⟩)] []] []]) rfl rfl rfl rfl (by decide) (by kernel_rfl) (by kernel_rfl)
theorem good39:(ti 39).good Tryz.prog 39:=good_st (fs:= #[fld "Cat" 36 0 0 "",fld "Data" 37 1 24 ""]) (cs:= #[.slice none 0 0,.slice none 0 0]) rfl rfl rfl rfl (by decide) (by decide) (zOk_ok rfl) (by kernel_rfl) (by kernel_rfl) (by kernel_rfl)
theorem good41:(ti 41).good Tryz.prog 41:=good_sl (zz:= [.sc (.int .i64 0),.sc (.string ⟨#[]⟩),.ls [.sc (.int .i64 0),.sc (.int .i64 0),.sc (.string ⟨#[]⟩)] [],.ls [.sc (.int .i64 0),.sc (.int .i64 0),.sc (.string ⟨#[]⟩)] [],.sc (.int .i64 0),.sc (.string ⟨#[]⟩),.ls [.sc (.string ⟨#[]⟩),.sc (.int .i64 0),.sc (.bool false),.sc (.bool false),.sc (.int .i64 0),.sc (.int .i64 0),.sc (.string ⟨#[]⟩)] [],.ls [.sc (.string ⟨#[]⟩)] [],.sc (.string ⟨#[]⟩),.sc (.string ⟨#[]⟩)]) rfl rfl rfl rfl (by decide) (by kernel_rfl) (by kernel_rfl)
theorem good50:(ti 50).good Tryz.prog 50:=good_sl (zz:= [.sc (.int .i64 0),.sc (.int .i64 0),.sc (.int .i64 0),.sc (.string ⟨#[]⟩),.ls [.sc (.int .i64 0),.sc (.int .i64 0),.sc (.string ⟨#[]⟩)] [],.ls [.sc (.int .i64 0),.sc (.int .i64 0),.sc (.string ⟨#[]⟩)] [],.sc (.int .i64 0),.sc (.string ⟨#[]⟩),.ls [.sc (.string ⟨#[]⟩),.sc (.int .i64 0),.sc (.bool false),.sc (.bool false),.sc (.int .i64 0),.sc (.int .i64 0),.sc (.string ⟨#[]⟩)] [],.ls [.sc (.string ⟨#[]⟩)] [],.sc (.string ⟨#[]⟩),.sc (.string ⟨#[]⟩)]) rfl rfl rfl rfl (by decide) (by kernel_rfl) (by kernel_rfl)
theorem good52:(ti 52).good Tryz.prog 52:=good_sl (zz:= [.sc (.int .i64 0),.sc (.int .i64 0),.ls [.sc (.int .i64 0),.sc (.string ⟨#[]⟩),.ls [.sc (.int .i64 0),.sc (.int .i64 0),.sc (.string ⟨#[]⟩)] [],.ls [.sc (.int .i64 0),.sc (.int .i64 0),.sc (.string ⟨#[]⟩)] [],.sc (.int .i64 0),.sc (.string ⟨#[]⟩),.ls [.sc (.string ⟨#[]⟩),.sc (.int .i64 0),.sc (.bool false),.sc (.bool false),.sc (.int .i64 0),.sc (.int .i64 0),.sc (.string ⟨#[]⟩)] [],.ls [.sc (.string ⟨#[]⟩)] [],.sc (.string ⟨#[]⟩),.sc (.string ⟨#[]⟩),.ls [.sc (.string ⟨#[]⟩)] [],.ls [.sc (.string ⟨#[]⟩)] []] []]) rfl rfl rfl rfl (by decide) (by kernel_rfl) (by kernel_rfl)
theorem good54:(ti 54).good Tryz.prog 54:=good_sl (zz:= [.sc (.int .i64 0),.sc (.int .i64 0),.sc (.int .i64 0),.sc (.string ⟨#[]⟩),.ls [.sc (.int .i64 0),.sc (.int .i64 0),.sc (.string ⟨#[]⟩)] [],.ls [.sc (.int .i64 0),.sc (.int .i64 0),.sc (.string ⟨#[]⟩)] [],.sc (.int .i64 0),.sc (.string ⟨#[]⟩),.ls [.sc (.string ⟨#[]⟩),.sc (.int .i64 0),.sc (.bool false),.sc (.bool false),.sc (.int .i64 0),.sc (.int .i64 0),.sc (.string ⟨#[]⟩)] [],.ls [.sc (.string ⟨#[]⟩)] [],.sc (.string ⟨#[]⟩),.sc (.string ⟨#[]⟩)]) rfl rfl rfl rfl (by decide) (by kernel_rfl) (by kernel_rfl)
theorem good62:(ti 62).good Tryz.prog 62:=good_st (fs:= #[fld "Lsn" 3 0 0 "",fld "Prev" 3 1 8 "",fld "Parts" 31 2 16 ""]) (cs:= #[.int .i64 0,.int .i64 0,.slice none 0 0]) rfl rfl rfl rfl (by decide) (by decide) (zOk_ok rfl) (by kernel_rfl) (by kernel_rfl) (by kernel_rfl)
theorem good68:(ti 68).good Tryz.prog 68:=good_sl (zz:= [.sc (.int .i64 0),.sc (.string ⟨#[]⟩),.ls [.sc (.int .i64 0),.sc (.int .i64 0),.sc (.string ⟨#[]⟩)] [],.ls [.sc (.int .i64 0),.sc (.int .i64 0),.sc (.string ⟨#[]⟩)] [],.sc (.int .i64 0),.sc (.string ⟨#[]⟩),.ls [.sc (.string ⟨#[]⟩),.sc (.int .i64 0),.sc (.bool false),.sc (.bool false),.sc (.int .i64 0),.sc (.int .i64 0),.sc (.string ⟨#[]⟩)] [],.ls [.sc (.string ⟨#[]⟩)] [],.sc (.string ⟨#[]⟩),.sc (.string ⟨#[]⟩),.ls [.sc (.string ⟨#[]⟩)] [],.ls [.sc (.string ⟨#[]⟩)] []]) rfl rfl rfl rfl (by decide) (by kernel_rfl) (by kernel_rfl)
theorem good70:(ti 70).good Tryz.prog 70:=good_st (fs:= #[fld "Lsn" 3 0 0 "",fld "Prev" 3 1 8 "",fld "Parts" 68 2 16 ""]) (cs:= #[.int .i64 0,.int .i64 0,.slice none 0 0]) rfl rfl rfl rfl (by decide) (by decide) (zOk_ok rfl) (by kernel_rfl) (by kernel_rfl) (by kernel_rfl)
theorem good72:(ti 72).good Tryz.prog 72:=good_sl (zz:= [.sc (.int .u8 0)]) rfl rfl rfl rfl (by decide) (by kernel_rfl) (by kernel_rfl)
theorem good74:(ti 74).good Tryz.prog 74:=good_st (fs:= #[fld "Bytes" 72 0 0 ""]) (cs:= #[.slice none 0 0]) rfl rfl rfl rfl (by decide) (by decide) (zOk_ok rfl) (by kernel_rfl) (by kernel_rfl) (by kernel_rfl)
theorem good81:(ti 81).good Tryz.prog 81:=good_sl (zz:= [.ls [.sc (.int .u8 0)] []]) rfl rfl rfl rfl (by decide) (by kernel_rfl) (by kernel_rfl)
theorem good87:(ti 87).good Tryz.prog 87:=good_st (fs:= #[fld "Base" 3 0 0 "",fld "Db" 27 1 8 "",fld "Recs" 50 3 56 ""]) (cs:= #[.int .i64 0,.slice none 0 0,.slice none 0 0,.slice none 0 0]) rfl rfl rfl rfl (by decide) (by decide) (zOk_ok rfl) (by kernel_rfl) (by kernel_rfl) (by kernel_rfl)
theorem good92:(ti 92).good Tryz.prog 92:=good_st (fs:= #[fld "Base" 3 0 0 "",fld "Db" 39 1 8 "",fld "Recs" 54 3 56 ""]) (cs:= #[.int .i64 0,.slice none 0 0,.slice none 0 0,.slice none 0 0]) rfl rfl rfl rfl (by decide) (by decide) (zOk_ok rfl) (by kernel_rfl) (by kernel_rfl) (by kernel_rfl)
theorem good98:(ti 98).good Tryz.prog 98:=good_st (fs:= #[fld "Db" 27 0 0 "",fld "At" 3 2 48 "",fld "Halt" 3 3 56 ""]) (cs:= #[.slice none 0 0,.slice none 0 0,.int .i64 0,.int .i64 0]) rfl rfl rfl rfl (by decide) (by decide) (zOk_ok rfl) (by kernel_rfl) (by kernel_rfl) (by kernel_rfl)
theorem good100:(ti 100).good Tryz.prog 100:=good_st (fs:= #[fld "Lsn" 3 0 0 "",fld "Db" 27 1 8 ""]) (cs:= #[.int .i64 0,.slice none 0 0,.slice none 0 0]) rfl rfl rfl rfl (by decide) (by decide) (zOk_ok rfl) (by kernel_rfl) (by kernel_rfl) (by kernel_rfl)
theorem good104:(ti 104).good Tryz.prog 104:=good_st (fs:= #[fld "Db" 39 0 0 "",fld "At" 3 2 48 "",fld "Halt" 3 3 56 ""]) (cs:= #[.slice none 0 0,.slice none 0 0,.int .i64 0,.int .i64 0]) rfl rfl rfl rfl (by decide) (by decide) (zOk_ok rfl) (by kernel_rfl) (by kernel_rfl) (by kernel_rfl)
theorem good109:(ti 109).good Tryz.prog 109:=good_st (fs:= #[fld "Lsn" 3 0 0 "",fld "Db" 39 1 8 ""]) (cs:= #[.int .i64 0,.slice none 0 0,.slice none 0 0]) rfl rfl rfl rfl (by decide) (by decide) (zOk_ok rfl) (by kernel_rfl) (by kernel_rfl) (by kernel_rfl)
theorem good118:(ti 118).good Tryz.prog 118:=good_sl (zz:= [.sc (.int .i64 0),.sc (.int .i64 0),.sc (.string ⟨#[]⟩)]) rfl rfl rfl rfl (by decide) (by kernel_rfl) (by kernel_rfl)
theorem good120:(ti 120).good Tryz.prog 120:=good_st (fs:= #[fld "Vals" 118 0 0 ""]) (cs:= #[.slice none 0 0]) rfl rfl rfl rfl (by decide) (by decide) (zOk_ok rfl) (by kernel_rfl) (by kernel_rfl) (by kernel_rfl)
theorem good121:(ti 121).good Tryz.prog 121:=good_sl (zz:= [.sc (.string ⟨#[]⟩),.sc (.int .i64 0),.sc (.bool false),.sc (.bool false),.sc (.int .i64 0),.sc (.int .i64 0),.sc (.string ⟨#[]⟩)]) rfl rfl rfl rfl (by decide) (by kernel_rfl) (by kernel_rfl)
theorem good122:(ti 122).good Tryz.prog 122:=good_sl (zz:= [.sc (.string ⟨#[]⟩)]) rfl rfl rfl rfl (by decide) (by kernel_rfl) (by kernel_rfl)
theorem good124:(ti 124).good Tryz.prog 124:=good_st (fs:= #[fld "Kind" 3 0 0 "",fld "Table" 9 1 8 "",fld "Cols" 121 2 24 "",fld "Keys" 122 3 48 "",fld "Name" 9 4 72 "",fld "To" 9 5 88 ""]) (cs:= #[.int .i64 0,.string ⟨#[]⟩,.slice none 0 0,.slice none 0 0,.string ⟨#[]⟩,.string ⟨#[]⟩]) rfl rfl rfl rfl (by decide) (by decide) (zOk_ok rfl) (by kernel_rfl) (by kernel_rfl) (by kernel_rfl)
theorem good126:(ti 126).good Tryz.prog 126:=good_st (fs:= #[fld "Kind" 3 0 0 "",fld "Table" 9 1 8 "",fld "Key" 118 2 24 "",fld "Row" 120 3 48 "",fld "Ddl" 124 4 72 ""]) (cs:= #[.int .i64 0,.string ⟨#[]⟩,.slice none 0 0,.slice none 0 0,.int .i64 0,.string ⟨#[]⟩,.slice none 0 0,.slice none 0 0,.string ⟨#[]⟩,.string ⟨#[]⟩]) rfl rfl rfl rfl (by decide) (by decide) (zOk_ok rfl) (by kernel_rfl) (by kernel_rfl) (by kernel_rfl)
theorem good128:(ti 128).good Tryz.prog 128:=good_st (fs:= #[fld "Kind" 3 0 0 "",fld "Xid" 3 1 8 "",fld "Stmt" 126 2 16 ""]) (cs:= #[.int .i64 0,.int .i64 0,.int .i64 0,.string ⟨#[]⟩,.slice none 0 0,.slice none 0 0,.int .i64 0,.string ⟨#[]⟩,.slice none 0 0,.slice none 0 0,.string ⟨#[]⟩,.string ⟨#[]⟩]) rfl rfl rfl rfl (by decide) (by decide) (zOk_ok rfl) (by kernel_rfl) (by kernel_rfl) (by kernel_rfl)
theorem good139:(ti 139).good Tryz.prog 139:=good_sl (zz:= [.sc (.int .i64 0),.sc (.int .i64 0),.sc (.string ⟨#[]⟩)]) rfl rfl rfl rfl (by decide) (by kernel_rfl) (by kernel_rfl)
theorem good141:(ti 141).good Tryz.prog 141:=good_st (fs:= #[fld "Vals" 139 0 0 ""]) (cs:= #[.slice none 0 0]) rfl rfl rfl rfl (by decide) (by decide) (zOk_ok rfl) (by kernel_rfl) (by kernel_rfl) (by kernel_rfl)
theorem good142:(ti 142).good Tryz.prog 142:=good_sl (zz:= [.sc (.string ⟨#[]⟩),.sc (.int .i64 0),.sc (.bool false),.sc (.bool false),.sc (.int .i64 0),.sc (.int .i64 0),.sc (.string ⟨#[]⟩)]) rfl rfl rfl rfl (by decide) (by kernel_rfl) (by kernel_rfl)
theorem good144:(ti 144).good Tryz.prog 144:=good_st (fs:= #[fld "Kind" 3 0 0 "",fld "Table" 9 1 8 "",fld "Cols" 142 2 24 "",fld "Keys" 122 3 48 "",fld "Name" 9 4 72 "",fld "To" 9 5 88 ""]) (cs:= #[.int .i64 0,.string ⟨#[]⟩,.slice none 0 0,.slice none 0 0,.string ⟨#[]⟩,.string ⟨#[]⟩]) rfl rfl rfl rfl (by decide) (by decide) (zOk_ok rfl) (by kernel_rfl) (by kernel_rfl) (by kernel_rfl)
theorem good146:(ti 146).good Tryz.prog 146:=good_st (fs:= #[fld "Kind" 3 0 0 "",fld "Table" 9 1 8 "",fld "Key" 139 2 24 "",fld "Row" 141 3 48 "",fld "Ddl" 144 4 72 ""]) (cs:= #[.int .i64 0,.string ⟨#[]⟩,.slice none 0 0,.slice none 0 0,.int .i64 0,.string ⟨#[]⟩,.slice none 0 0,.slice none 0 0,.string ⟨#[]⟩,.string ⟨#[]⟩]) rfl rfl rfl rfl (by decide) (by decide) (zOk_ok rfl) (by kernel_rfl) (by kernel_rfl) (by kernel_rfl)
theorem good150:(ti 150).good Tryz.prog 150:=good_st (fs:= #[fld "Stmt" 126 0 0 "",fld "Cols" 122 10 176 "",fld "Keys" 122 11 200 ""]) (cs:= #[.int .i64 0,.string ⟨#[]⟩,.slice none 0 0,.slice none 0 0,.int .i64 0,.string ⟨#[]⟩,.slice none 0 0,.slice none 0 0,.string ⟨#[]⟩,.string ⟨#[]⟩,.slice none 0 0,.slice none 0 0]) rfl rfl rfl rfl (by decide) (by decide) (zOk_ok rfl) (by kernel_rfl) (by kernel_rfl) (by kernel_rfl)
theorem good171:(ti 171).good Tryz.prog 171:=good_st (fs:= #[fld "Kind" 3 0 0 "",fld "Xid" 3 1 8 "",fld "Stmt" 146 2 16 ""]) (cs:= #[.int .i64 0,.int .i64 0,.int .i64 0,.string ⟨#[]⟩,.slice none 0 0,.slice none 0 0,.int .i64 0,.string ⟨#[]⟩,.slice none 0 0,.slice none 0 0,.string ⟨#[]⟩,.string ⟨#[]⟩]) rfl rfl rfl rfl (by decide) (by decide) (zOk_ok rfl) (by kernel_rfl) (by kernel_rfl) (by kernel_rfl)
theorem good172:(ti 172).good Tryz.prog 172:=good_sl (zz:= [.sc (.int .i64 0)]) rfl rfl rfl rfl (by decide) (by kernel_rfl) (by kernel_rfl)
theorem good201:(ti 201).good Tryz.prog 201:=good_st (fs:= #[fld "Name" 9 0 0 "",fld "Cols" 121 1 16 "",fld "Keys" 122 2 40 ""]) (cs:= #[.string ⟨#[]⟩,.slice none 0 0,.slice none 0 0]) rfl rfl rfl rfl (by decide) (by decide) (zOk_ok rfl) (by kernel_rfl) (by kernel_rfl) (by kernel_rfl)
theorem good203:(ti 203).good Tryz.prog 203:=good_sl (zz:= [.ls [.sc (.int .i64 0),.sc (.int .i64 0),.sc (.string ⟨#[]⟩)] []]) rfl rfl rfl rfl (by decide) (by kernel_rfl) (by kernel_rfl)
theorem good205:(ti 205).good Tryz.prog 205:=good_st (fs:= #[fld "Rows" 203 0 0 ""]) (cs:= #[.slice none 0 0]) rfl rfl rfl rfl (by decide) (by decide) (zOk_ok rfl) (by kernel_rfl) (by kernel_rfl) (by kernel_rfl)
theorem good222:(ti 222).good Tryz.prog 222:=good_sl (zz:= [.ls [.sc (.int .i64 0),.sc (.int .i64 0),.sc (.string ⟨#[]⟩)] []]) rfl rfl rfl rfl (by decide) (by kernel_rfl) (by kernel_rfl)
theorem good224:(ti 224).good Tryz.prog 224:=good_st (fs:= #[fld "Rows" 222 0 0 ""]) (cs:= #[.slice none 0 0]) rfl rfl rfl rfl (by decide) (by decide) (zOk_ok rfl) (by kernel_rfl) (by kernel_rfl) (by kernel_rfl)
theorem good234:(ti 234).good Tryz.prog 234:=good_st (fs:= #[fld "Ty" 3 0 0 "",fld "N" 3 1 8 "",fld "S" 9 2 16 ""]) (cs:= #[.int .i64 0,.int .i64 0,.string ⟨#[]⟩]) rfl rfl rfl rfl (by decide) (by decide) (zOk_ok rfl) (by kernel_rfl) (by kernel_rfl) (by kernel_rfl)
theorem good236:(ti 236).good Tryz.prog 236:=good_st (fs:= #[fld "Name" 9 0 0 "",fld "Ty" 3 1 16 "",fld "Not" 4 2 24 "",fld "Has" 4 3 25 "",fld "Def" 234 4 32 ""]) (cs:= #[.string ⟨#[]⟩,.int .i64 0,.bool false,.bool false,.int .i64 0,.int .i64 0,.string ⟨#[]⟩]) rfl rfl rfl rfl (by decide) (by decide) (zOk_ok rfl) (by kernel_rfl) (by kernel_rfl) (by kernel_rfl)
theorem good277:(ti 277).good Tryz.prog 277:=good_st (fs:= #[fld "Stmt" 146 0 0 "",fld "Cols" 122 10 176 "",fld "Keys" 122 11 200 ""]) (cs:= #[.int .i64 0,.string ⟨#[]⟩,.slice none 0 0,.slice none 0 0,.int .i64 0,.string ⟨#[]⟩,.slice none 0 0,.slice none 0 0,.string ⟨#[]⟩,.string ⟨#[]⟩,.slice none 0 0,.slice none 0 0]) rfl rfl rfl rfl (by decide) (by decide) (zOk_ok rfl) (by kernel_rfl) (by kernel_rfl) (by kernel_rfl)
theorem good308:(ti 308).good Tryz.prog 308:=good_st (fs:= #[fld "Name" 9 0 0 "",fld "Cols" 142 1 16 "",fld "Keys" 122 2 40 ""]) (cs:= #[.string ⟨#[]⟩,.slice none 0 0,.slice none 0 0]) rfl rfl rfl rfl (by decide) (by decide) (zOk_ok rfl) (by kernel_rfl) (by kernel_rfl) (by kernel_rfl)
theorem good311:(ti 311).good Tryz.prog 311:=good_st (fs:= #[fld "Ty" 3 0 0 "",fld "N" 3 1 8 "",fld "S" 9 2 16 ""]) (cs:= #[.int .i64 0,.int .i64 0,.string ⟨#[]⟩]) rfl rfl rfl rfl (by decide) (by decide) (zOk_ok rfl) (by kernel_rfl) (by kernel_rfl) (by kernel_rfl)
theorem good367:(ti 367).good Tryz.prog 367:=good_st (fs:= #[fld "Name" 9 0 0 "",fld "Ty" 3 1 16 "",fld "Not" 4 2 24 "",fld "Has" 4 3 25 "",fld "Def" 311 4 32 ""]) (cs:= #[.string ⟨#[]⟩,.int .i64 0,.bool false,.bool false,.int .i64 0,.int .i64 0,.string ⟨#[]⟩]) rfl rfl rfl rfl (by decide) (by decide) (zOk_ok rfl) (by kernel_rfl) (by kernel_rfl) (by kernel_rfl)
theorem good394:(ti 394).good Tryz.prog 394:=good_sc (v:= .int .u64 0) rfl rfl rfl rfl (by decide) rfl (by intro _ _ h;cases h) (by kernel_rfl) (by kernel_rfl) (fun _=>rfl)
theorem good415:(ti 415).good Tryz.prog 415:=good_sc (v:= .int .u32 0) rfl rfl rfl rfl (by decide) rfl (by intro _ _ h;cases h) (by kernel_rfl) (by kernel_rfl) (fun _=>rfl)
theorem good417:(ti 417).good Tryz.prog 417:=good_sc (v:= .int .u64 0) rfl rfl rfl rfl (by decide) rfl (by intro _ _ h;cases h) (by kernel_rfl) (by kernel_rfl) (fun _=>rfl)
theorem eq3:eqAt Tryz.prog (ti 3) 3 1:=eqAt_int (n:=0) rfl rfl (by kernel_rfl)
theorem eq9:eqAt Tryz.prog (ti 9) 9 1:=eqAt_str (s:=⟨#[]⟩) rfl rfl (by kernel_rfl)
theorem eq234:eqAt Tryz.prog (ti 234) 234 2:=eqAt_st (fs:= [fld "Ty" 3 0 0 "",fld "N" 3 1 8 "",fld "S" 9 2 16 ""]) (by kernel_rfl) (by kernel_rfl) (by kernel_rfl) rfl ⟨by decide,rfl,good3,rfl,rfl,eqAt_up eq3 (by decide),⟨by decide,rfl,good3,rfl,rfl,eqAt_up eq3 (by decide),⟨by decide,rfl,good9,rfl,rfl,eqAt_up eq9 (by decide),rfl⟩⟩⟩
theorem eq4:eqAt Tryz.prog (ti 4) 4 1:=eqAt_bool (s:=false) rfl rfl (by kernel_rfl)
theorem eq236:eqAt Tryz.prog (ti 236) 236 3:=eqAt_st (fs:= [fld "Name" 9 0 0 "",fld "Ty" 3 1 16 "",fld "Not" 4 2 24 "",fld "Has" 4 3 25 "",fld "Def" 234 4 32 ""]) (by kernel_rfl) (by kernel_rfl) (by kernel_rfl) rfl ⟨by decide,rfl,good9,rfl,rfl,eqAt_up eq9 (by decide),⟨by decide,rfl,good3,rfl,rfl,eqAt_up eq3 (by decide),⟨by decide,rfl,good4,rfl,rfl,eqAt_up eq4 (by decide),⟨by decide,rfl,good4,rfl,rfl,eqAt_up eq4 (by decide),⟨by decide,rfl,good234,rfl,rfl,eqAt_up eq234 (by decide),rfl⟩⟩⟩⟩⟩
theorem good': ∀t,(ti t).ok=true→(ti t).good Tryz.prog t:=by
 intro t h
 unfold ti at h
 split at h
 ·exact good2
 ·exact good3
 ·exact good4
 ·exact good5
 ·exact good9
 ·exact good21
 ·exact good22
 ·exact good24
 ·exact good25
 ·exact good27
 ·exact good28
 ·exact good31
 ·exact good34
 ·exact good36
 ·exact good37
 ·exact good39
 ·exact good41
 ·exact good50
 ·exact good52
 ·exact good54
 ·exact good62
 ·exact good68
 ·exact good70
 ·exact good72
 ·exact good74
 ·exact good81
 ·exact good87
 ·exact good92
 ·exact good98
 ·exact good100
 ·exact good104
 ·exact good109
 ·exact good118
 ·exact good120
 ·exact good121
 ·exact good122
 ·exact good124
 ·exact good126
 ·exact good128
 ·exact good139
 ·exact good141
 ·exact good142
 ·exact good144
 ·exact good146
 ·exact good150
 ·exact good171
 ·exact good172
 ·exact good201
 ·exact good203
 ·exact good205
 ·exact good222
 ·exact good224
 ·exact good234
 ·exact good236
 ·exact good277
 ·exact good308
 ·exact good311
 ·exact good367
 ·exact good394
 ·exact good415
 ·exact good417
 ·cases h
theorem gooe: ∀t,(ti t).eqb=true→eqAt Tryz.prog (ti t) t 5000∧Tryz.prog.eqGuardType Tryz.prog.depth t=false:=by
 intro t h
 have h0:=h
 unfold ti at h
 split at h
 ·cases h
 ·cases h
 ·cases h
 ·cases h
 ·cases h
 ·cases h
 ·cases h
 ·cases h
 ·cases h
 ·cases h
 ·cases h
 ·cases h
 ·cases h
 ·cases h
 ·cases h
 ·cases h
 ·cases h
 ·cases h
 ·cases h
 ·cases h
 ·cases h
 ·cases h
 ·cases h
 ·cases h
 ·cases h
 ·cases h
 ·cases h
 ·cases h
 ·cases h
 ·cases h
 ·cases h
 ·cases h
 ·cases h
 ·cases h
 ·cases h
 ·cases h
 ·cases h
 ·cases h
 ·cases h
 ·cases h
 ·cases h
 ·cases h
 ·cases h
 ·cases h
 ·cases h
 ·cases h
 ·cases h
 ·cases h
 ·cases h
 ·cases h
 ·cases h
 ·cases h
 ·exact ⟨eqAt_up eq234 (by decide),by kernel_rfl⟩
 ·exact ⟨eqAt_up eq236 (by decide),by kernel_rfl⟩
 ·cases h
 ·cases h
 ·cases h
 ·cases h
 ·cases h
 ·cases h
 ·cases h
 ·cases h
theorem good:TGood Tryz.prog ti:=⟨good',gooe⟩
theorem cg2:ckOk ti ck 2:=by simp[ckOk,ti,ck]
theorem cg3:ckOk ti ck 3:=by simp[ckOk,ti,ck]
theorem cg4:ckOk ti ck 4:=by simp[ckOk,ti,ck]
theorem cg5:ckOk ti ck 5:=by simp[ckOk,ti,ck]
theorem cg9:ckOk ti ck 9:=by simp[ckOk,ti,ck]
theorem cg21:ckOk ti ck 21:=by simp[ckOk,ti,ck]
theorem cg22:ckOk ti ck 22:=by simp[ckOk,ti,ck]
theorem cg24:ckOk ti ck 24:=by simp[ckOk,ti,ck,contig]
theorem cg25:ckOk ti ck 25:=by simp[ckOk,ti,ck]
theorem cg27:ckOk ti ck 27:=by simp[ckOk,ti,ck,contig]
theorem cg28:ckOk ti ck 28:=by simp[ckOk,ti,ck]
theorem cg31:ckOk ti ck 31:=by simp[ckOk,ti,ck]
theorem cg34:ckOk ti ck 34:=by simp[ckOk,ti,ck]
theorem cg36:ckOk ti ck 36:=by simp[ckOk,ti,ck,contig]
theorem cg37:ckOk ti ck 37:=by simp[ckOk,ti,ck]
theorem cg39:ckOk ti ck 39:=by simp[ckOk,ti,ck,contig]
theorem cg41:ckOk ti ck 41:=by simp[ckOk,ti,ck]
theorem cg50:ckOk ti ck 50:=by simp[ckOk,ti,ck]
theorem cg52:ckOk ti ck 52:=by simp[ckOk,ti,ck]
theorem cg54:ckOk ti ck 54:=by simp[ckOk,ti,ck]
theorem cg62:ckOk ti ck 62:=by simp[ckOk,ti,ck,contig]
theorem cg68:ckOk ti ck 68:=by simp[ckOk,ti,ck]
theorem cg70:ckOk ti ck 70:=by simp[ckOk,ti,ck,contig]
theorem cg72:ckOk ti ck 72:=by simp[ckOk,ti,ck]
theorem cg74:ckOk ti ck 74:=by simp[ckOk,ti,ck,contig]
theorem cg81:ckOk ti ck 81:=by simp[ckOk,ti,ck]
theorem cg87:ckOk ti ck 87:=by simp[ckOk,ti,ck,contig]
theorem cg92:ckOk ti ck 92:=by simp[ckOk,ti,ck,contig]
theorem cg98:ckOk ti ck 98:=by simp[ckOk,ti,ck,contig]
theorem cg100:ckOk ti ck 100:=by simp[ckOk,ti,ck,contig]
theorem cg104:ckOk ti ck 104:=by simp[ckOk,ti,ck,contig]
theorem cg109:ckOk ti ck 109:=by simp[ckOk,ti,ck,contig]
theorem cg118:ckOk ti ck 118:=by simp[ckOk,ti,ck]
theorem cg120:ckOk ti ck 120:=by simp[ckOk,ti,ck,contig]
theorem cg121:ckOk ti ck 121:=by simp[ckOk,ti,ck]
theorem cg122:ckOk ti ck 122:=by simp[ckOk,ti,ck]
theorem cg124:ckOk ti ck 124:=by simp[ckOk,ti,ck,contig]
theorem cg126:ckOk ti ck 126:=by simp[ckOk,ti,ck,contig]
theorem cg128:ckOk ti ck 128:=by simp[ckOk,ti,ck,contig]
theorem cg139:ckOk ti ck 139:=by simp[ckOk,ti,ck]
theorem cg141:ckOk ti ck 141:=by simp[ckOk,ti,ck,contig]
theorem cg142:ckOk ti ck 142:=by simp[ckOk,ti,ck]
theorem cg144:ckOk ti ck 144:=by simp[ckOk,ti,ck,contig]
theorem cg146:ckOk ti ck 146:=by simp[ckOk,ti,ck,contig]
theorem cg150:ckOk ti ck 150:=by simp[ckOk,ti,ck,contig]
theorem cg171:ckOk ti ck 171:=by simp[ckOk,ti,ck,contig]
theorem cg172:ckOk ti ck 172:=by simp[ckOk,ti,ck]
theorem cg201:ckOk ti ck 201:=by simp[ckOk,ti,ck,contig]
theorem cg203:ckOk ti ck 203:=by simp[ckOk,ti,ck]
theorem cg205:ckOk ti ck 205:=by simp[ckOk,ti,ck,contig]
theorem cg222:ckOk ti ck 222:=by simp[ckOk,ti,ck]
theorem cg224:ckOk ti ck 224:=by simp[ckOk,ti,ck,contig]
theorem cg234:ckOk ti ck 234:=by simp[ckOk,ti,ck,contig]
theorem cg236:ckOk ti ck 236:=by simp[ckOk,ti,ck,contig]
theorem cg277:ckOk ti ck 277:=by simp[ckOk,ti,ck,contig]
theorem cg308:ckOk ti ck 308:=by simp[ckOk,ti,ck,contig]
theorem cg311:ckOk ti ck 311:=by simp[ckOk,ti,ck,contig]
theorem cg367:ckOk ti ck 367:=by simp[ckOk,ti,ck,contig]
theorem cg394:ckOk ti ck 394:=by simp[ckOk,ti,ck]
theorem cg415:ckOk ti ck 415:=by simp[ckOk,ti,ck]
theorem cg417:ckOk ti ck 417:=by simp[ckOk,ti,ck]
theorem cgood:CGood ti ck:=by
 intro t h
 unfold ti at h
 split at h
 ·exact cg2
 ·exact cg3
 ·exact cg4
 ·exact cg5
 ·exact cg9
 ·exact cg21
 ·exact cg22
 ·exact cg24
 ·exact cg25
 ·exact cg27
 ·exact cg28
 ·exact cg31
 ·exact cg34
 ·exact cg36
 ·exact cg37
 ·exact cg39
 ·exact cg41
 ·exact cg50
 ·exact cg52
 ·exact cg54
 ·exact cg62
 ·exact cg68
 ·exact cg70
 ·exact cg72
 ·exact cg74
 ·exact cg81
 ·exact cg87
 ·exact cg92
 ·exact cg98
 ·exact cg100
 ·exact cg104
 ·exact cg109
 ·exact cg118
 ·exact cg120
 ·exact cg121
 ·exact cg122
 ·exact cg124
 ·exact cg126
 ·exact cg128
 ·exact cg139
 ·exact cg141
 ·exact cg142
 ·exact cg144
 ·exact cg146
 ·exact cg150
 ·exact cg171
 ·exact cg172
 ·exact cg201
 ·exact cg203
 ·exact cg205
 ·exact cg222
 ·exact cg224
 ·exact cg234
 ·exact cg236
 ·exact cg277
 ·exact cg308
 ·exact cg311
 ·exact cg367
 ·exact cg394
 ·exact cg415
 ·exact cg417
 ·cases h
theorem hm:Tryz.prog.follows .mixedOrders=true:=by kernel_rfl
end Go.Proofs.YteeolohhmfjafaaGreat
namespace Go.Proofs.YteeolohhmfjafaaGreat
open Go Go.Proofs Go.Sm
attribute [local simp] ti
set_option linter.unusedVariables false
set_option linter.unusedSimpArgs false
theorem markText_ok (k':Int) (k:Nat) (hkk:k'=(k:Int)) (hk:k≤4611686018427387904):VC Tryz.prog 103 [int .i64 k'] [(false,[(.s,.sc (.string (mtext k)))])]:=by
 subst hkk
 refine vc_of_ew good hm [0,2,5,3,7] Tryz.func103 rfl (by kernel_rfl) (by kernel_rfl) rfl ?_
 simp[Tryz.f103]
 refine ⟨fun h=>by simp[mtext,h],fun h0=> ?_⟩
 refine ew_loop (fun E=> ∃ (j f:Nat) (out:ByteArray),j≤f∧out.size+j≤k∧dgo f j out=dgo k k ⟨#[]⟩∧E= {nt:=20,sl:= [(0,int .i64 j),(3,str out)],bx:= [],rt:= []}) (fun E=>(E.num 0).toNat) _ (Gh.kb _ [0,3] [] []) ⟨k,k,⟨#[]⟩,by omega,by simp[ByteArray.size],rfl,by simp⟩ ?_
 rintro E1 ⟨j,f,out,hjf,hsz,hd,rfl⟩
 have q1:(j:Int).tmod 10=((j%10:Nat):Int):=(Int.ofNat_tmod j 10).symm
 have q2:IntKind.i64.wrap (48+((j%10:Nat):Int))=((48+j%10:Nat):Int):=by rw[wrapI (by omega) (by omega)];omega
 have q3:(j:Int).tdiv 10=((j/10:Nat):Int):=(Int.ofNat_tdiv j 10).symm
 have q4:IntKind.i64.wrap ((j/10:Nat):Int)=((j/10:Nat):Int):=wrapI (by omega) (by omega)
 have q5:=wrapU8 (48+j%10)
 obtain ⟨b,hb⟩: ∃b:UInt8,b=UInt8.ofNat (48+j%10):=⟨_,rfl⟩
 rw[←hb] at q5
 simp only[Int.natCast_add,Int.natCast_emod,Int.natCast_ediv,Int.cast_ofNat_Int] at q1 q2 q3 q4 q5
 simp[q1,q2,q3,q4,q5,md]
 have hba: ∀s:ByteArray,(⟨#[b]⟩++s:ByteArray).size=1+s.size:=fun s=>by rw[ByteArray.size_append];rfl
 refine ⟨fun hj=> ?_,fun hj=> ?_⟩
 ·obtain ⟨f',rfl⟩: ∃f',f=f'+1:=⟨f-1,by omega⟩
  rw[dgo,if_neg (by omega),←hb] at hd
  refine ⟨by have h1:(⟨#[b]⟩:ByteArray).size=1:=rfl;omega,.of _ (Gh.kb _ [0,3] [] []) ⟨j/10,f',by omega,_, ?_,hd,by simp⟩ (by simp;omega)⟩
  rw[hba];omega
 ·subst hj
  have:dgo f 0 out=out:=by cases f<;>simp[dgo]
  rw[this] at hd
  subst hd
  exact ⟨by have h1:(⟨#[109]⟩:ByteArray).size=1:=rfl;omega,by simp[mtext,h0]⟩
def wStr (s:ByteArray):List Nat:= [s.size]
def okStr (s:ByteArray):Prop:=okM s.size
theorem okw_Str (x:ByteArray) (h:okStr x): ∀n∈wStr x,okM n:=by
 intro n hn
 rcases List.mem_singleton.1 hn with rfl
 exact h
theorem fit_Str (ls:List Lf) (h:Fit ti ck 9 ls): ∃x:ByteArray,ls=eStr x∧okStr x:=by
 obtain ⟨x,r,rfl,h1,h2⟩:=All2.cons_inv h
 obtain rfl:=All2.nil_inv h2
 obtain ⟨s,rfl,hs⟩:=h1.str_inv
 exact ⟨s,rfl,hs⟩
structure GVal where
 fTy:Int
 fN:Int
 fS:ByteArray
def eVal (x:GVal):List Lf:= [.sc (.int .i64 x.fTy),.sc (.int .i64 x.fN),.sc (.string x.fS)]
def cVal (x:GVal):List LV:= [.s (.sc (.int .i64 x.fTy)),.s (.sc (.int .i64 x.fN)),.s (.sc (.string x.fS))]
def vVal (x:GVal):SV:= .v true [.s (.sc (.int .i64 x.fTy)),.s (.sc (.int .i64 x.fN)),.s (.sc (.string x.fS))]
def dVal:GVal:=⟨0,0,⟨#[]⟩⟩
@[simp] theorem row_Val (l:List GVal) (i:Nat):(Option.map eVal l[i]?).getD [.sc (.int .i64 0),.sc (.int .i64 0),.sc (.string ⟨#[]⟩)]=eVal (l[i]?.getD dVal):=by cases l[i]? <;>rfl
def wVal (x:GVal):List Nat:=x.fS.size::([])
def okVal (x:GVal):Prop:=okI x.fTy∧okI x.fN∧okM x.fS.size∧True
theorem okw_Val (x:GVal) (h:okVal x): ∀n∈wVal x,okM n:=by
 obtain ⟨h0,h1,h2,_⟩:=h
 intro n hn
 simp only[wVal,List.mem_cons,List.mem_append,List.not_mem_nil,or_false,false_or] at hn
 rcases hn with rfl
 ·exact h2
theorem fit_Val (ls:List Lf) (h:Fit ti ck 311 ls): ∃x:GVal,ls=eVal x∧okVal x:=by
 obtain ⟨c0,r0,rfl,h0,g0⟩:=All2.cons_inv h
 obtain ⟨a0,rfl,b0⟩:=h0.int_inv
 obtain ⟨c1,r1,rfl,h1,g1⟩:=All2.cons_inv g0
 obtain ⟨a1,rfl,b1⟩:=h1.int_inv
 obtain ⟨c2,r2,rfl,h2,g2⟩:=All2.cons_inv g1
 obtain ⟨a2,rfl,b2⟩:=h2.str_inv
 obtain rfl:=All2.nil_inv g2
 exact ⟨⟨a0,a1,a2⟩,rfl,⟨okI_wf b0,okI_wf b1,b2,trivial⟩⟩
def mVal (x:GVal):ML:= [(.s,.sc (.int .i64 x.fTy)),(.s,.sc (.int .i64 x.fN)),(.s,.sc (.string x.fS))]
theorem szVal_ok (x:GVal) (left:Int) (h0:0≤left) (h1:left≤1048576) (hs: ∀n∈wVal x,okM n):VC Tryz.prog 277 [vVal x,int .i64 left] [(false,[(.s,.sc (.int .i64 (szL (wVal x) left)))])]:=by
 refine vc_of_ew good hm [0,1,2,4,11] Tryz.func277 rfl (by kernel_rfl) (by kernel_rfl) rfl ?_
 simp[Tryz.f277,vVal]
 have hb0:x.fS.size≤9223372036854775807:=hs _ (by simp[wVal])
 rw[wrapI (i:=left- (x.fS.size:Nat)) (by omega) (by omega)]
 by_cases hn:(left- (x.fS.size:Nat))<0
 ·have e:szL (wVal x) left= -1:=by rw[wVal,szL,if_pos hn]
  rw[e]
  try omega
 ·have e:szL (wVal x) left=(left- (x.fS.size:Nat)):=by rw[wVal,szL,if_neg hn];rfl
  rw[e]
  try omega
theorem toVal_ok (x:GVal) (hs: ∀n∈wVal x,n≤1048576):VC Tryz.prog 296 [vVal x] [(true,mVal x)]:=by
 refine vc_of_ew good hm [0,1,2,3] Tryz.func296 rfl (by kernel_rfl) (by kernel_rfl) rfl ?_
 simp[Tryz.f296,vVal,mVal]
theorem eqVal_ok (x:GVal) (hs: ∀n∈wVal x,n≤1048576):VC Tryz.prog 323 [vVal x,vVal x] [(false,[(.s,.sc (.bool true))])]:=by
 refine vc_of_ew good hm [0,1,2,3,4,9,14,19] Tryz.func323 rfl (by kernel_rfl) (by kernel_rfl) rfl ?_
 simp[Tryz.f323,vVal]
def eValS (l:List GVal):List Lf:= [.ls [.sc (.int .i64 0),.sc (.int .i64 0),.sc (.string ⟨#[]⟩)] (l.map eVal)]
def vValS (l:List GVal):SV:=list [.sc (.int .i64 0),.sc (.int .i64 0),.sc (.string ⟨#[]⟩)] (l.map eVal)
@[simp] theorem row_ValS (l:List (List GVal)) (i:Nat):(Option.map eValS l[i]?).getD [.ls [.sc (.int .i64 0),.sc (.int .i64 0),.sc (.string ⟨#[]⟩)] []]=eValS (l[i]?.getD []):=by cases l[i]? <;>rfl
def wValS (l:List GVal):List Nat:=l.length::l.flatMap wVal
def okValS (l:List GVal):Prop:=okM l.length∧ ∀a∈l,okVal a
theorem okw_ValS (l:List GVal) (h:okValS l): ∀n∈wValS l,okM n:=by
 intro n hn
 rcases List.mem_cons.1 hn with rfl|hn
 ·exact h.1
 ·obtain ⟨a,ha,hn⟩:=List.mem_flatMap.1 hn
  exact okw_Val a (h.2 a ha) n hn
def mValS (x:List GVal):ML:= [(.o 234 (fun _=> [.s,.s,.s]),.ls [.sc (.int .i64 0),.sc (.int .i64 0),.sc (.string ⟨#[]⟩)] (x.map eVal))]
@[simp] theorem ow_ValS (l:List GVal):Ow (.o 234 (fun _=> [.s,.s,.s])) (.ls [.sc (.int .i64 0),.sc (.int .i64 0),.sc (.string ⟨#[]⟩)] (l.map eVal))=True:=eq_true (Ow_rows (fun x j hj=>match j,hj with|0,_=> .sc|1,_=> .sc|2,_=> .sc|n+3,hj=>absurd hj (by simp)) l)
@[simp] theorem full_ValS (l:List GVal):Full (.o 234 (fun _=> [.s,.s,.s])) (.ls [.sc (.int .i64 0),.sc (.int .i64 0),.sc (.string ⟨#[]⟩)] (l.map eVal))=True:=eq_true (Full_rows (fun x j hj=>match j,hj with|0,_=> .s|1,_=> .s|2,_=> .s|n+3,hj=>absurd hj (by simp)) l)
theorem szValS_ok (x:List GVal) (left:Int) (h0:0≤left) (h1:left≤1048576) (hs: ∀n∈wValS x,okM n):VC Tryz.prog 176 [vValS x,int .i64 left] [(false,[(.s,.sc (.int .i64 (szL (wValS x) left)))])]:=by
 refine vc_of_ew good hm [0,1,4,11,5,15,25] Tryz.func176 rfl (by kernel_rfl) (by kernel_rfl) rfl ?_
 have hl:x.length≤9223372036854775807:=hs _ (by simp[wValS])
 simp[Tryz.f176,vValS]
 rw[wrapI (i:=left-x.length) (by omega) (by omega)]
 refine ⟨fun h=>by simp[wValS,szL,h],fun hk=> ?_⟩
 refine ew_loop (fun E=> ∃i:Nat,i≤x.length∧0≤szL ((x.take i).flatMap wVal) (left-x.length)∧E= {nt:=27,sl:= [(0,vValS x),(1,int .i64 (szL ((x.take i).flatMap wVal) (left-x.length))),(5,int .i64 i)],bx:= [],rt:= []}) (fun E=>x.length- (E.num 5).toNat) _ (Gh.keep _ [0,1,5]) ⟨0,by omega,by simp[szL];omega,by simp[szL,vValS]⟩ ?_
 rintro E1 ⟨i,hi,hr0,rfl⟩
 have hr1:=szL_le' (l:=(x.take i).flatMap wVal) (left:=left-x.length) (by omega)
 simp[vValS,eVal]
 refine ⟨fun h=> ?_,fun h=> ?_⟩
 ·obtain ⟨q1,q2⟩:=szF_step wVal (dVal) h (by omega:0≤left-x.length) hr0
  have hm: ∀n∈wVal (x[i]?.getD (dVal)),okM n:=fun n hn=>hs n (List.mem_cons_of_mem _ (mem_flat h hn))
  have hn1:=szL_neg (wVal (x[i]?.getD (dVal))) _ hr0
  refine ⟨h,.of (szVal_ok _ _ hr0 (by omega) hm) ?_⟩
  simp
  refine ⟨fun h2=> ?_,fun h2=> .of _ (Gh.keep _ [0,1,5]) ⟨i+1,by omega, ?_, ?_⟩ ?_⟩
  ·rw[wValS,szL,if_neg (by omega),q1 h2]
  ·rw[q2];exact h2
  ·rw[q2];simp[wrapS (show i<9223372036854775807 by omega)]
  ·simp[wrapS (show i<9223372036854775807 by omega)];omega
 ·rw[wValS,szL,if_neg (by omega),List.take_of_length_le (by simpa using h)]
theorem toValS_ok (x:List GVal) (hs: ∀n∈wValS x,n≤1048576):VC Tryz.prog 189 [vValS x] [(false,mValS x)]:=by
 refine vc_of_ew good hm [0,2,3,4,11] Tryz.func189 rfl (by kernel_rfl) (by kernel_rfl) rfl ?_
 have hl:x.length≤1048576:=hs _ (by simp[wValS])
 simp[Tryz.f189,vValS,mValS]
 refine ⟨by omega, ?_⟩
 refine ew_loop (fun E=> ∃i:Nat,i≤x.length∧E= {nt:=23,sl:= [(0,vValS x),(3,.v false [.r [7]]),(4,int .i64 i)],bx:= [],rt:= [(7,.o 234 (fun _=> [.s,.s,.s]),.ls [.sc (.int .i64 0),.sc (.int .i64 0),.sc (.string ⟨#[]⟩)] (fillR [.sc (.int .i64 0),.sc (.int .i64 0),.sc (.string ⟨#[]⟩)] (x.map eVal) i))]}) (fun E=>x.length- (E.num 4).toNat) _ (Gh.keep _ [0,3,4]) ⟨0,by omega,by simp[vValS,fillR]⟩ ?_
 rintro E1 ⟨i,hi,rfl⟩
 have hfl:(fillR [.sc (.int .i64 0),.sc (.int .i64 0),.sc (.string ⟨#[]⟩)] (x.map eVal) i).length=x.length:=by rw[fillR_len _ _ (by simpa using hi)];simp
 simp[vValS,eVal] at hfl⊢
 try simp[hfl]
 refine ⟨fun h=>⟨h,.of (toVal_ok (x[i]?.getD dVal) (fun n hn=>hs n (List.mem_cons_of_mem _ (mem_flat (wt:=wVal) h hn)))) ?_⟩,fun h=>fillR_all _ _ (by simpa using h)⟩
 simp[mVal]
 try simp[hfl,h]
 refine .of _ (Gh.keep _ [0,3,4]) ⟨i+1,by omega, ?_⟩ ?_
 ·have:=fillR_set [.sc (.int .i64 0),.sc (.int .i64 0),.sc (.string ⟨#[]⟩)] (x.map eVal) (i:=i) (by simpa using h)
  simp[wrapS (show i<9223372036854775807 by omega),vValS,eVal,h] at this⊢
  rw[←this]
 ·simp[wrapS (show i<9223372036854775807 by omega)];omega
theorem eqValS_ok (x:List GVal) (hs: ∀n∈wValS x,n≤1048576):VC Tryz.prog 209 [vValS x,vValS x] [(false,[(.s,.sc (.bool true))])]:=by
 refine vc_of_ew good hm [0,1,4,10,5,14,26] Tryz.func209 rfl (by kernel_rfl) (by kernel_rfl) rfl ?_
 have hl:x.length≤1048576:=hs _ (by simp[wValS])
 simp[Tryz.f209,vValS]
 refine ew_loop (fun E=> ∃i:Nat,i≤x.length∧E= {nt:=27,sl:= [(0,vValS x),(1,vValS x),(5,int .i64 i)],bx:= [],rt:= []}) (fun E=>x.length- (E.num 5).toNat) _ (Gh.keep _ [0,1,5]) ⟨0,by omega,by simp[vValS]⟩ ?_
 rintro E1 ⟨i,hi,rfl⟩
 simp[vValS,eVal]
 intro h
 refine ⟨h,.of (eqVal_ok (x[i]?.getD dVal) (fun n hn=>hs n (List.mem_cons_of_mem _ (mem_flat (wt:=wVal) h hn)))) ?_⟩
 simp
 refine .of _ (Gh.keep _ [0,1,5]) ⟨i+1,by omega, ?_⟩ ?_
 ·simp[wrapS (show i<9223372036854775807 by omega),vValS]
 ·simp[wrapS (show i<9223372036854775807 by omega)];omega
def ctVal (x:GVal):Nat:=3
def mkVal (k:Nat) (x:GVal):GVal:=⟨mkInt (k) x.fTy,mkInt (k+1) x.fN,mkStr (k+2) x.fS⟩
theorem ctle_Val (x:GVal):ctVal x≤64+64* (wVal x).sum:=by
 simp only[ctVal,wVal,List.sum_cons,List.sum_append,List.sum_nil]
 omega
def ctValS (l:List GVal):Nat:=ctRw ctVal l
def mkValS (k:Nat) (l:List GVal):List GVal:=mkRw mkVal ctVal k l
theorem ctle_ValS (l:List GVal):ctValS l≤64* (wValS l).sum:=by
 have:=ctRw_le64 ctVal wVal l (fun x _=>ctle_Val x)
 simp only[wValS,List.sum_cons]
 exact this
theorem markValS_ok (x:List GVal) (k:Nat) (k':Int) (hkk':k'=(k:Int)) (hk:k+ctValS x≤4611686018427387904) (hs: ∀n∈wValS x,n≤4611686018427387904):VM Tryz.prog 104 [.v false [.r [900]],int .i64 k'] [(.o 234 (fun _=> [.s,.s,.s]),.ls [.sc (.int .i64 0),.sc (.int .i64 0),.sc (.string ⟨#[]⟩)] (x.map eVal),.ls [.sc (.int .i64 0),.sc (.int .i64 0),.sc (.string ⟨#[]⟩)] ((mkValS k x).map eVal))] (some ((k:Int)+(ctValS x:Int))):=by
 subst hkk'
 have hl:x.length≤4611686018427387904:=hs _ (by simp[wValS])
 refine vm_of_ew good hm [0,1,4,5,9,5000] Tryz.func104 rfl (by kernel_rfl) (by kernel_rfl) rfl fun pv=> ?_
 simp[Tryz.f104]
 refine ew_loop (fun E=> ∃ (i K:Nat) (M:List (GVal)),i≤x.length∧K=k+ctRw ctVal (x.take i)∧M=mixR mkVal ctVal k x i∧E= {nt:=35,sl:= [(0,.v false [.r [900]]),(1,int .i64 (K:Int)),(5,int .i64 i),(5000,.pin 900 [] (pv 900))],bx:= [],rt:= [(900,.o 234 (fun _=> [.s,.s,.s]),.ls [.sc (.int .i64 0),.sc (.int .i64 0),.sc (.string ⟨#[]⟩)] (M.map eVal))]}) (fun E=>x.length- (E.num 5).toNat) _ (Gh.kb _ [0,1,5,5000] [] [900]) ⟨0,k,x,by omega,by simp[ctRw],by simp[mixR_zero],by simp⟩ ?_
 rintro E1 ⟨i,K,M,hi,hK,hM,rfl⟩
 have hfl:M.length=x.length:=by rw[hM];exact mixR_len mkVal ctVal k x i
 have hct:=ctRw_le ctVal x i
 simp only[ctValS] at hk
 simp[hfl]
 refine ⟨fun h=> ?_,fun h=> ?_⟩
 ·have hg:M[i]? =x[i]? :=by rw[hM];exact mixR_get mkVal ctVal k x i h
  have hst:=mixR_set mkVal ctVal k x i (dVal) h
  have hc1:=ctRw_lt ctVal (dVal) h
  have hs1:ctRw ctVal (x.take (i+1))=ctRw ctVal (x.take i)+ctVal (x[i]?.getD (dVal)):=ctRw_succ ctVal (dVal) h
  have hxi:x[i]? =some (x[i]?.getD (dVal)):=by rw[List.getElem?_eq_getElem h];rfl
  have hy:(x[i]?.getD (dVal))∈x:=getD_mem _ h
  rw[hxi] at hg
  rw[←hK,←hM] at hst
  generalize (x[i]?.getD (dVal))=y at*
  have hg': ∀h',M[i]'h'=y:=fun h'=>by simpa [List.getElem?_eq_getElem h'] using hg
  have hse: ∀n∈wVal y,n≤4611686018427387904:=fun n hn=>hs n (List.mem_cons_of_mem _ (List.mem_flatMap.2 ⟨y,hy,hn⟩))
  simp only[ctVal] at hc1 hs1
  have w0:IntKind.i64.wrap ((K:Int)+1)=(K:Int)+1:=(wrapI (by omega) (by omega)).trans (by omega)
  have w1:IntKind.i64.wrap ((K:Int)+1+1)=(K:Int)+2:=(wrapI (by omega) (by omega)).trans (by omega)
  simp[md,lf,hg',hg,h,hfl,eVal,w0,w1]
  refine .of (markText_ok _ (K+2) (by omega) (by omega)) ?_
  have w2:IntKind.i64.wrap ((K:Int)+2+1)=(K:Int)+3:=(wrapI (by omega) (by omega)).trans (by omega)
  simp[md,lf,hg',hg,h,hfl,eVal,w0,w1,w2]
  have e1:(k:Int)+(ctRw ctVal (x.take (i+1)):Int)=(K:Int)+3:=by omega
  refine .of _ (Gh.kb _ [0,1,5,5000] [] [900]) ⟨i+1,by omega, ?_⟩ ?_
  ·simp[wrapS (show i<9223372036854775807 by omega),e1,←hst,List.map_set,mkVal,mkInt,mkStr,eVal,wrapU8]
  ·simp[wrapS (show i<9223372036854775807 by omega)];omega
 ·have:i=x.length:=by omega
  subst this
  subst hM
  subst hK
  simp[mixR_all,ctValS,mkValS]
theorem heldValS_ok (x:List GVal) (k:Nat) (k':Int) (hkk':k'=(k:Int)) (hk:k+ctValS x≤4611686018427387904) (hs: ∀n∈wValS x,n≤4611686018427387904):VC Tryz.prog 107 [vValS (mkValS k x),int .i64 k'] [(false,[(.s,.sc (.int .i64 ((k:Int)+(ctValS x:Int))))])]:=by
 subst hkk'
 have hl:x.length≤4611686018427387904:=hs _ (by simp[wValS])
 refine vc_of_ew good hm [0,1,4,5,9,18,27,37] Tryz.func107 rfl (by kernel_rfl) (by kernel_rfl) rfl ?_
 simp[Tryz.f107,vValS]
 refine ew_loop (fun E=> ∃ (i K:Nat),i≤x.length∧K=k+ctRw ctVal (x.take i)∧E= {nt:=41,sl:= [(0,vValS (mkValS k x)),(1,int .i64 (K:Int)),(5,int .i64 i)],bx:= [],rt:= []}) (fun E=>x.length- (E.num 5).toNat) _ (Gh.kb _ [0,1,5] [] []) ⟨0,k,by omega,by simp[ctRw],by simp[vValS]⟩ ?_
 rintro E1 ⟨i,K,hi,hK,rfl⟩
 have hfl:(mkValS k x).length=x.length:=mkRw_len mkVal ctVal k x
 have hct:=ctRw_le ctVal x i
 simp only[ctValS] at hk
 simp[vValS,hfl]
 refine ⟨fun h=> ?_,fun h=> ?_⟩
 ·have hg:(mkValS k x)[i]? =some (mkVal (k+ctRw ctVal (x.take i)) (x[i]?.getD (dVal))):=mkRw_get mkVal ctVal (dVal) k x i h
  have hc1:=ctRw_lt ctVal (dVal) h
  have hs1:ctRw ctVal (x.take (i+1))=ctRw ctVal (x.take i)+ctVal (x[i]?.getD (dVal)):=ctRw_succ ctVal (dVal) h
  have hy:(x[i]?.getD (dVal))∈x:=getD_mem _ h
  rw[←hK] at hg
  generalize (x[i]?.getD (dVal))=y at*
  have hg2: ∀hh:i< (mkValS k x).length,(mkValS k x)[i]=mkVal K y:=fun hh=>(List.getElem_eq_iff hh).2 hg
  have hse: ∀n∈wVal y,n≤4611686018427387904:=fun n hn=>hs n (List.mem_cons_of_mem _ (List.mem_flatMap.2 ⟨y,hy,hn⟩))
  simp only[ctVal] at hc1 hs1
  have w0:IntKind.i64.wrap ((K:Int)+1)=(K:Int)+1:=(wrapI (by omega) (by omega)).trans (by omega)
  have w1:IntKind.i64.wrap ((K:Int)+1+1)=(K:Int)+2:=(wrapI (by omega) (by omega)).trans (by omega)
  simp[md,lf,hg,hg2,h,hfl,eVal,mkVal,mkInt,mkStr,wrapU8,w0,w1]
  refine .of (markText_ok _ (K+2) (by omega) (by omega)) ?_
  have w2:IntKind.i64.wrap ((K:Int)+2+1)=(K:Int)+3:=(wrapI (by omega) (by omega)).trans (by omega)
  simp[md,lf,hg,hg2,h,hfl,eVal,mkVal,mkInt,mkStr,wrapU8,w0,w1,w2]
  have e1:(k:Int)+(ctRw ctVal (x.take (i+1)):Int)=(K:Int)+3:=by omega
  refine .of _ (Gh.kb _ [0,1,5] [] []) ⟨i+1,by omega, ?_⟩ ?_
  ·simp[wrapS (show i<9223372036854775807 by omega),e1,vValS]
  ·simp[wrapS (show i<9223372036854775807 by omega)];omega
 ·have:i=x.length:=by omega
  subst this
  subst hK
  simp[ctValS]
structure GRow where
 fVals:List GVal
def eRow (x:GRow):List Lf:= [.ls [.sc (.int .i64 0),.sc (.int .i64 0),.sc (.string ⟨#[]⟩)] (x.fVals.map eVal)]
def cRow (x:GRow):List LV:= [.s (.ls [.sc (.int .i64 0),.sc (.int .i64 0),.sc (.string ⟨#[]⟩)] (x.fVals.map eVal))]
def vRow (x:GRow):SV:= .v true [.s (.ls [.sc (.int .i64 0),.sc (.int .i64 0),.sc (.string ⟨#[]⟩)] (x.fVals.map eVal))]
def dRow:GRow:=⟨[]⟩
@[simp] theorem row_Row (l:List GRow) (i:Nat):(Option.map eRow l[i]?).getD [.ls [.sc (.int .i64 0),.sc (.int .i64 0),.sc (.string ⟨#[]⟩)] []]=eRow (l[i]?.getD dRow):=by cases l[i]? <;>rfl
def wRow (x:GRow):List Nat:=wValS x.fVals++([])
def okRow (x:GRow):Prop:=okValS x.fVals∧True
theorem okw_Row (x:GRow) (h:okRow x): ∀n∈wRow x,okM n:=by
 obtain ⟨h0,_⟩:=h
 intro n hn
 simp only[wRow,List.mem_cons,List.mem_append,List.not_mem_nil,or_false,false_or] at hn
 rcases hn with hn
 ·exact okw_ValS _ h0 n hn
theorem fit_Row (ls:List Lf) (h:Fit ti ck 141 ls): ∃x:GRow,ls=eRow x∧okRow x:=by
 obtain ⟨c0,r0,rfl,h0,g0⟩:=All2.cons_inv h
 obtain ⟨a0,rfl,b0,b0'⟩:=h0.list eVal okVal fit_Val
 obtain rfl:=All2.nil_inv g0
 exact ⟨⟨a0⟩,rfl,⟨⟨b0,b0'⟩,trivial⟩⟩
def mRow (x:GRow):ML:= [(.o 234 (fun _=> [.s,.s,.s]),.ls [.sc (.int .i64 0),.sc (.int .i64 0),.sc (.string ⟨#[]⟩)] (x.fVals.map eVal))]
theorem szRow_ok (x:GRow) (left:Int) (h0:0≤left) (h1:left≤1048576) (hs: ∀n∈wRow x,okM n):VC Tryz.prog 177 [vRow x,int .i64 left] [(false,[(.s,.sc (.int .i64 (szL (wRow x) left)))])]:=by
 refine vc_of_ew good hm [0,1,2,4,10] Tryz.func177 rfl (by kernel_rfl) (by kernel_rfl) rfl ?_
 simp[Tryz.f177,vRow]
 refine .of (szValS_ok x.fVals left (by omega) (by omega) (fun n hn=>hs n (by simp[wRow,hn]))) ?_
 simp
 have hb0:=szL_le' (l:=wValS x.fVals) (left:=left) (by omega)
 have hc0:=szL_neg (wValS x.fVals) left (by omega)
 by_cases hn:(szL (wValS x.fVals) left)<0
 ·have e:szL (wRow x) left= -1:=by rw[wRow,szL_app _ _ _ h0,if_pos hn]
  rw[e]
  try omega
 ·have e:szL (wRow x) left=(szL (wValS x.fVals) left):=by rw[wRow,szL_app _ _ _ h0,if_neg hn];rfl
  rw[e]
  try omega
theorem toRow_ok (x:GRow) (hs: ∀n∈wRow x,n≤1048576):VC Tryz.prog 190 [vRow x] [(true,mRow x)]:=by
 refine vc_of_ew good hm [0,1,2,3] Tryz.func190 rfl (by kernel_rfl) (by kernel_rfl) rfl ?_
 simp[Tryz.f190,vRow,mRow]
 refine .of (toValS_ok x.fVals (fun n hn=>hs n (by simp[wRow,hn]))) ?_
 simp[mValS]
theorem eqRow_ok (x:GRow) (hs: ∀n∈wRow x,n≤1048576):VC Tryz.prog 210 [vRow x,vRow x] [(false,[(.s,.sc (.bool true))])]:=by
 refine vc_of_ew good hm [0,1,2,3,4,10] Tryz.func210 rfl (by kernel_rfl) (by kernel_rfl) rfl ?_
 simp[Tryz.f210,vRow]
 refine .of (eqValS_ok x.fVals (fun n hn=>hs n (by simp[wRow,hn]))) ?_
 simp
def cvRow (x:GRow):Nat:=ctValS x.fVals
def mvRow (k:Nat) (x:GRow):GRow:= {x with fVals:=mkValS (k) x.fVals}
structure GCol where
 fName:ByteArray
 fTy:Int
 fNot:Bool
 fHas:Bool
 fDef:GVal
def eCol (x:GCol):List Lf:= [.sc (.string x.fName),.sc (.int .i64 x.fTy),.sc (.bool x.fNot),.sc (.bool x.fHas),.sc (.int .i64 x.fDef.fTy),.sc (.int .i64 x.fDef.fN),.sc (.string x.fDef.fS)]
def cCol (x:GCol):List LV:= [.s (.sc (.string x.fName)),.s (.sc (.int .i64 x.fTy)),.s (.sc (.bool x.fNot)),.s (.sc (.bool x.fHas)),.s (.sc (.int .i64 x.fDef.fTy)),.s (.sc (.int .i64 x.fDef.fN)),.s (.sc (.string x.fDef.fS))]
def vCol (x:GCol):SV:= .v true [.s (.sc (.string x.fName)),.s (.sc (.int .i64 x.fTy)),.s (.sc (.bool x.fNot)),.s (.sc (.bool x.fHas)),.s (.sc (.int .i64 x.fDef.fTy)),.s (.sc (.int .i64 x.fDef.fN)),.s (.sc (.string x.fDef.fS))]
def dCol:GCol:=⟨⟨#[]⟩,0,false,false,⟨0,0,⟨#[]⟩⟩⟩
@[simp] theorem row_Col (l:List GCol) (i:Nat):(Option.map eCol l[i]?).getD [.sc (.string ⟨#[]⟩),.sc (.int .i64 0),.sc (.bool false),.sc (.bool false),.sc (.int .i64 0),.sc (.int .i64 0),.sc (.string ⟨#[]⟩)]=eCol (l[i]?.getD dCol):=by cases l[i]? <;>rfl
def wCol (x:GCol):List Nat:=x.fName.size::(wVal x.fDef++([]))
def okCol (x:GCol):Prop:=okM x.fName.size∧okI x.fTy∧okVal x.fDef∧True
theorem okw_Col (x:GCol) (h:okCol x): ∀n∈wCol x,okM n:=by
 obtain ⟨h0,h1,h4,_⟩:=h
 intro n hn
 simp only[wCol,List.mem_cons,List.mem_append,List.not_mem_nil,or_false,false_or] at hn
 rcases hn with rfl|hn
 ·exact h0
 ·exact okw_Val _ h4 n hn
theorem fit_Col (ls:List Lf) (h:Fit ti ck 367 ls): ∃x:GCol,ls=eCol x∧okCol x:=by
 obtain ⟨c0,r0,rfl,h0,g0⟩:=All2.cons_inv h
 obtain ⟨a0,rfl,b0⟩:=h0.str_inv
 obtain ⟨c1,r1,rfl,h1,g1⟩:=All2.cons_inv g0
 obtain ⟨a1,rfl,b1⟩:=h1.int_inv
 obtain ⟨c2,r2,rfl,h2,g2⟩:=All2.cons_inv g1
 obtain ⟨a2,rfl⟩:=h2.bool_inv
 obtain ⟨c3,r3,rfl,h3,g3⟩:=All2.cons_inv g2
 obtain ⟨a3,rfl⟩:=h3.bool_inv
 obtain ⟨c4,r4,rfl,h4,g4⟩:=All2.cons_inv g3
 obtain ⟨a4,rfl,b4⟩:=h4.int_inv
 obtain ⟨c5,r5,rfl,h5,g5⟩:=All2.cons_inv g4
 obtain ⟨a5,rfl,b5⟩:=h5.int_inv
 obtain ⟨c6,r6,rfl,h6,g6⟩:=All2.cons_inv g5
 obtain ⟨a6,rfl,b6⟩:=h6.str_inv
 obtain rfl:=All2.nil_inv g6
 exact ⟨⟨a0,a1,a2,a3,⟨a4,a5,a6⟩⟩,rfl,⟨b0,okI_wf b1,⟨okI_wf b4,okI_wf b5,b6,trivial⟩,trivial⟩⟩
def mCol (x:GCol):ML:= [(.s,.sc (.string x.fName)),(.s,.sc (.int .i64 x.fTy)),(.s,.sc (.bool x.fNot)),(.s,.sc (.bool x.fHas)),(.s,.sc (.int .i64 x.fDef.fTy)),(.s,.sc (.int .i64 x.fDef.fN)),(.s,.sc (.string x.fDef.fS))]
theorem szCol_ok (x:GCol) (left:Int) (h0:0≤left) (h1:left≤1048576) (hs: ∀n∈wCol x,okM n):VC Tryz.prog 374 [vCol x,int .i64 left] [(false,[(.s,.sc (.int .i64 (szL (wCol x) left)))])]:=by
 refine vc_of_ew good hm [0,1,2,4,11,17] Tryz.func374 rfl (by kernel_rfl) (by kernel_rfl) rfl ?_
 simp[Tryz.f374,vCol]
 have hb0:x.fName.size≤9223372036854775807:=hs _ (by simp[wCol])
 rw[wrapI (i:=left- (x.fName.size:Nat)) (by omega) (by omega)]
 refine ⟨fun hn=> ?_,fun hk0=> ?_⟩
 ·have e:szL (wCol x) left= -1:=by rw[wCol,szL,if_pos (by omega)]
  rw[e]
  try omega
 have hq0: ¬(left- (x.fName.size:Nat))<0:=by omega
 have hz0:0≤(left- (x.fName.size:Nat)):=by omega
 refine .of (szVal_ok x.fDef (left- (x.fName.size:Nat)) (by omega) (by omega) (fun n hn=>hs n (by simp[wCol,hn]))) ?_
 simp
 have hb1:=szL_le' (l:=wVal x.fDef) (left:=(left- (x.fName.size:Nat))) (by omega)
 have hc1:=szL_neg (wVal x.fDef) (left- (x.fName.size:Nat)) (by omega)
 by_cases hn:(szL (wVal x.fDef) (left- (x.fName.size:Nat)))<0
 ·have e:szL (wCol x) left= -1:=by rw[wCol,szL,if_neg hq0,szL_app _ _ _ hz0,if_pos hn]
  rw[e]
  try omega
 ·have e:szL (wCol x) left=(szL (wVal x.fDef) (left- (x.fName.size:Nat))):=by rw[wCol,szL,if_neg hq0,szL_app _ _ _ hz0,if_neg hn];rfl
  rw[e]
  try omega
theorem toCol_ok (x:GCol) (hs: ∀n∈wCol x,n≤1048576):VC Tryz.prog 384 [vCol x] [(true,mCol x)]:=by
 refine vc_of_ew good hm [0,1,2,3] Tryz.func384 rfl (by kernel_rfl) (by kernel_rfl) rfl ?_
 simp[Tryz.f384,vCol,mCol]
 refine .of (toVal_ok x.fDef (fun n hn=>hs n (by simp[wCol,hn]))) ?_
 simp[mVal]
theorem eqCol_ok (x:GCol) (hs: ∀n∈wCol x,n≤1048576):VC Tryz.prog 399 [vCol x,vCol x] [(false,[(.s,.sc (.bool true))])]:=by
 refine vc_of_ew good hm [0,1,2,3,4,9,14,19,24,30] Tryz.func399 rfl (by kernel_rfl) (by kernel_rfl) rfl ?_
 simp[Tryz.f399,vCol]
 refine .of (eqVal_ok x.fDef (fun n hn=>hs n (by simp[wCol,hn]))) ?_
 simp
def vColS (l:List GCol):SV:=list [.sc (.string ⟨#[]⟩),.sc (.int .i64 0),.sc (.bool false),.sc (.bool false),.sc (.int .i64 0),.sc (.int .i64 0),.sc (.string ⟨#[]⟩)] (l.map eCol)
def wColS (l:List GCol):List Nat:=l.length::l.flatMap wCol
def okColS (l:List GCol):Prop:=okM l.length∧ ∀a∈l,okCol a
theorem okw_ColS (l:List GCol) (h:okColS l): ∀n∈wColS l,okM n:=by
 intro n hn
 rcases List.mem_cons.1 hn with rfl|hn
 ·exact h.1
 ·obtain ⟨a,ha,hn⟩:=List.mem_flatMap.1 hn
  exact okw_Col a (h.2 a ha) n hn
def mColS (x:List GCol):ML:= [(.o 236 (fun _=> [.s,.s,.s,.s,.s,.s,.s]),.ls [.sc (.string ⟨#[]⟩),.sc (.int .i64 0),.sc (.bool false),.sc (.bool false),.sc (.int .i64 0),.sc (.int .i64 0),.sc (.string ⟨#[]⟩)] (x.map eCol))]
@[simp] theorem ow_ColS (l:List GCol):Ow (.o 236 (fun _=> [.s,.s,.s,.s,.s,.s,.s])) (.ls [.sc (.string ⟨#[]⟩),.sc (.int .i64 0),.sc (.bool false),.sc (.bool false),.sc (.int .i64 0),.sc (.int .i64 0),.sc (.string ⟨#[]⟩)] (l.map eCol))=True:=eq_true (Ow_rows (fun x j hj=>match j,hj with|0,_=> .sc|1,_=> .sc|2,_=> .sc|3,_=> .sc|4,_=> .sc|5,_=> .sc|6,_=> .sc|n+7,hj=>absurd hj (by simp)) l)
@[simp] theorem full_ColS (l:List GCol):Full (.o 236 (fun _=> [.s,.s,.s,.s,.s,.s,.s])) (.ls [.sc (.string ⟨#[]⟩),.sc (.int .i64 0),.sc (.bool false),.sc (.bool false),.sc (.int .i64 0),.sc (.int .i64 0),.sc (.string ⟨#[]⟩)] (l.map eCol))=True:=eq_true (Full_rows (fun x j hj=>match j,hj with|0,_=> .s|1,_=> .s|2,_=> .s|3,_=> .s|4,_=> .s|5,_=> .s|6,_=> .s|n+7,hj=>absurd hj (by simp)) l)
theorem szColS_ok (x:List GCol) (left:Int) (h0:0≤left) (h1:left≤1048576) (hs: ∀n∈wColS x,okM n):VC Tryz.prog 278 [vColS x,int .i64 left] [(false,[(.s,.sc (.int .i64 (szL (wColS x) left)))])]:=by
 refine vc_of_ew good hm [0,1,4,11,5,15,25] Tryz.func278 rfl (by kernel_rfl) (by kernel_rfl) rfl ?_
 have hl:x.length≤9223372036854775807:=hs _ (by simp[wColS])
 simp[Tryz.f278,vColS]
 rw[wrapI (i:=left-x.length) (by omega) (by omega)]
 refine ⟨fun h=>by simp[wColS,szL,h],fun hk=> ?_⟩
 refine ew_loop (fun E=> ∃i:Nat,i≤x.length∧0≤szL ((x.take i).flatMap wCol) (left-x.length)∧E= {nt:=27,sl:= [(0,vColS x),(1,int .i64 (szL ((x.take i).flatMap wCol) (left-x.length))),(5,int .i64 i)],bx:= [],rt:= []}) (fun E=>x.length- (E.num 5).toNat) _ (Gh.keep _ [0,1,5]) ⟨0,by omega,by simp[szL];omega,by simp[szL,vColS]⟩ ?_
 rintro E1 ⟨i,hi,hr0,rfl⟩
 have hr1:=szL_le' (l:=(x.take i).flatMap wCol) (left:=left-x.length) (by omega)
 simp[vColS,eCol]
 refine ⟨fun h=> ?_,fun h=> ?_⟩
 ·obtain ⟨q1,q2⟩:=szF_step wCol (dCol) h (by omega:0≤left-x.length) hr0
  have hm: ∀n∈wCol (x[i]?.getD (dCol)),okM n:=fun n hn=>hs n (List.mem_cons_of_mem _ (mem_flat h hn))
  have hn1:=szL_neg (wCol (x[i]?.getD (dCol))) _ hr0
  refine ⟨h,.of (szCol_ok _ _ hr0 (by omega) hm) ?_⟩
  simp
  refine ⟨fun h2=> ?_,fun h2=> .of _ (Gh.keep _ [0,1,5]) ⟨i+1,by omega, ?_, ?_⟩ ?_⟩
  ·rw[wColS,szL,if_neg (by omega),q1 h2]
  ·rw[q2];exact h2
  ·rw[q2];simp[wrapS (show i<9223372036854775807 by omega)]
  ·simp[wrapS (show i<9223372036854775807 by omega)];omega
 ·rw[wColS,szL,if_neg (by omega),List.take_of_length_le (by simpa using h)]
theorem toColS_ok (x:List GCol) (hs: ∀n∈wColS x,n≤1048576):VC Tryz.prog 297 [vColS x] [(false,mColS x)]:=by
 refine vc_of_ew good hm [0,2,3,4,11] Tryz.func297 rfl (by kernel_rfl) (by kernel_rfl) rfl ?_
 have hl:x.length≤1048576:=hs _ (by simp[wColS])
 simp[Tryz.f297,vColS,mColS]
 refine ⟨by omega, ?_⟩
 refine ew_loop (fun E=> ∃i:Nat,i≤x.length∧E= {nt:=23,sl:= [(0,vColS x),(3,.v false [.r [7]]),(4,int .i64 i)],bx:= [],rt:= [(7,.o 236 (fun _=> [.s,.s,.s,.s,.s,.s,.s]),.ls [.sc (.string ⟨#[]⟩),.sc (.int .i64 0),.sc (.bool false),.sc (.bool false),.sc (.int .i64 0),.sc (.int .i64 0),.sc (.string ⟨#[]⟩)] (fillR [.sc (.string ⟨#[]⟩),.sc (.int .i64 0),.sc (.bool false),.sc (.bool false),.sc (.int .i64 0),.sc (.int .i64 0),.sc (.string ⟨#[]⟩)] (x.map eCol) i))]}) (fun E=>x.length- (E.num 4).toNat) _ (Gh.keep _ [0,3,4]) ⟨0,by omega,by simp[vColS,fillR]⟩ ?_
 rintro E1 ⟨i,hi,rfl⟩
 have hfl:(fillR [.sc (.string ⟨#[]⟩),.sc (.int .i64 0),.sc (.bool false),.sc (.bool false),.sc (.int .i64 0),.sc (.int .i64 0),.sc (.string ⟨#[]⟩)] (x.map eCol) i).length=x.length:=by rw[fillR_len _ _ (by simpa using hi)];simp
 simp[vColS,eCol] at hfl⊢
 try simp[hfl]
 refine ⟨fun h=>⟨h,.of (toCol_ok (x[i]?.getD dCol) (fun n hn=>hs n (List.mem_cons_of_mem _ (mem_flat (wt:=wCol) h hn)))) ?_⟩,fun h=>fillR_all _ _ (by simpa using h)⟩
 simp[mCol]
 try simp[hfl,h]
 refine .of _ (Gh.keep _ [0,3,4]) ⟨i+1,by omega, ?_⟩ ?_
 ·have:=fillR_set [.sc (.string ⟨#[]⟩),.sc (.int .i64 0),.sc (.bool false),.sc (.bool false),.sc (.int .i64 0),.sc (.int .i64 0),.sc (.string ⟨#[]⟩)] (x.map eCol) (i:=i) (by simpa using h)
  simp[wrapS (show i<9223372036854775807 by omega),vColS,eCol,h] at this⊢
  rw[←this]
 ·simp[wrapS (show i<9223372036854775807 by omega)];omega
theorem eqColS_ok (x:List GCol) (hs: ∀n∈wColS x,n≤1048576):VC Tryz.prog 324 [vColS x,vColS x] [(false,[(.s,.sc (.bool true))])]:=by
 refine vc_of_ew good hm [0,1,4,10,5,14,26] Tryz.func324 rfl (by kernel_rfl) (by kernel_rfl) rfl ?_
 have hl:x.length≤1048576:=hs _ (by simp[wColS])
 simp[Tryz.f324,vColS]
 refine ew_loop (fun E=> ∃i:Nat,i≤x.length∧E= {nt:=27,sl:= [(0,vColS x),(1,vColS x),(5,int .i64 i)],bx:= [],rt:= []}) (fun E=>x.length- (E.num 5).toNat) _ (Gh.keep _ [0,1,5]) ⟨0,by omega,by simp[vColS]⟩ ?_
 rintro E1 ⟨i,hi,rfl⟩
 simp[vColS,eCol]
 intro h
 refine ⟨h,.of (eqCol_ok (x[i]?.getD dCol) (fun n hn=>hs n (List.mem_cons_of_mem _ (mem_flat (wt:=wCol) h hn)))) ?_⟩
 simp
 refine .of _ (Gh.keep _ [0,1,5]) ⟨i+1,by omega, ?_⟩ ?_
 ·simp[wrapS (show i<9223372036854775807 by omega),vColS]
 ·simp[wrapS (show i<9223372036854775807 by omega)];omega
def ctCol (x:GCol):Nat:=7
def mkCol (k:Nat) (x:GCol):GCol:=⟨mkStr (k) x.fName,mkInt (k+1) x.fTy,mkBool (k+2) x.fNot,mkBool (k+3) x.fHas,⟨mkInt (k+4) x.fDef.fTy,mkInt (k+5) x.fDef.fN,mkStr (k+6) x.fDef.fS⟩⟩
theorem ctle_Col (x:GCol):ctCol x≤64+64* (wCol x).sum:=by
 simp only[ctCol,wCol,wVal,List.sum_cons,List.sum_append,List.sum_nil]
 omega
def ctColS (l:List GCol):Nat:=ctRw ctCol l
def mkColS (k:Nat) (l:List GCol):List GCol:=mkRw mkCol ctCol k l
theorem ctle_ColS (l:List GCol):ctColS l≤64* (wColS l).sum:=by
 have:=ctRw_le64 ctCol wCol l (fun x _=>ctle_Col x)
 simp only[wColS,List.sum_cons]
 exact this
theorem markColS_ok (x:List GCol) (k:Nat) (k':Int) (hkk':k'=(k:Int)) (hk:k+ctColS x≤4611686018427387904) (hs: ∀n∈wColS x,n≤4611686018427387904):VM Tryz.prog 105 [.v false [.r [900]],int .i64 k'] [(.o 236 (fun _=> [.s,.s,.s,.s,.s,.s,.s]),.ls [.sc (.string ⟨#[]⟩),.sc (.int .i64 0),.sc (.bool false),.sc (.bool false),.sc (.int .i64 0),.sc (.int .i64 0),.sc (.string ⟨#[]⟩)] (x.map eCol),.ls [.sc (.string ⟨#[]⟩),.sc (.int .i64 0),.sc (.bool false),.sc (.bool false),.sc (.int .i64 0),.sc (.int .i64 0),.sc (.string ⟨#[]⟩)] ((mkColS k x).map eCol))] (some ((k:Int)+(ctColS x:Int))):=by
 subst hkk'
 have hl:x.length≤4611686018427387904:=hs _ (by simp[wColS])
 refine vm_of_ew good hm [0,1,4,5,9,5000] Tryz.func105 rfl (by kernel_rfl) (by kernel_rfl) rfl fun pv=> ?_
 simp[Tryz.f105]
 refine ew_loop (fun E=> ∃ (i K:Nat) (M:List (GCol)),i≤x.length∧K=k+ctRw ctCol (x.take i)∧M=mixR mkCol ctCol k x i∧E= {nt:=71,sl:= [(0,.v false [.r [900]]),(1,int .i64 (K:Int)),(5,int .i64 i),(5000,.pin 900 [] (pv 900))],bx:= [],rt:= [(900,.o 236 (fun _=> [.s,.s,.s,.s,.s,.s,.s]),.ls [.sc (.string ⟨#[]⟩),.sc (.int .i64 0),.sc (.bool false),.sc (.bool false),.sc (.int .i64 0),.sc (.int .i64 0),.sc (.string ⟨#[]⟩)] (M.map eCol))]}) (fun E=>x.length- (E.num 5).toNat) _ (Gh.kb _ [0,1,5,5000] [] [900]) ⟨0,k,x,by omega,by simp[ctRw],by simp[mixR_zero],by simp⟩ ?_
 rintro E1 ⟨i,K,M,hi,hK,hM,rfl⟩
 have hfl:M.length=x.length:=by rw[hM];exact mixR_len mkCol ctCol k x i
 have hct:=ctRw_le ctCol x i
 simp only[ctColS] at hk
 simp[hfl]
 refine ⟨fun h=> ?_,fun h=> ?_⟩
 ·have hg:M[i]? =x[i]? :=by rw[hM];exact mixR_get mkCol ctCol k x i h
  have hst:=mixR_set mkCol ctCol k x i (dCol) h
  have hc1:=ctRw_lt ctCol (dCol) h
  have hs1:ctRw ctCol (x.take (i+1))=ctRw ctCol (x.take i)+ctCol (x[i]?.getD (dCol)):=ctRw_succ ctCol (dCol) h
  have hxi:x[i]? =some (x[i]?.getD (dCol)):=by rw[List.getElem?_eq_getElem h];rfl
  have hy:(x[i]?.getD (dCol))∈x:=getD_mem _ h
  rw[hxi] at hg
  rw[←hK,←hM] at hst
  generalize (x[i]?.getD (dCol))=y at*
  have hg': ∀h',M[i]'h'=y:=fun h'=>by simpa [List.getElem?_eq_getElem h'] using hg
  have hse: ∀n∈wCol y,n≤4611686018427387904:=fun n hn=>hs n (List.mem_cons_of_mem _ (List.mem_flatMap.2 ⟨y,hy,hn⟩))
  simp only[ctCol] at hc1 hs1
  simp[md,lf,hg',hg,h,hfl,eCol]
  refine .of (markText_ok _ (K) (by omega) (by omega)) ?_
  have w0:IntKind.i64.wrap ((K:Int)+1)=(K:Int)+1:=(wrapI (by omega) (by omega)).trans (by omega)
  have w1:IntKind.i64.wrap ((K:Int)+1+1)=(K:Int)+2:=(wrapI (by omega) (by omega)).trans (by omega)
  have w2:IntKind.i64.wrap ((K:Int)+2+1)=(K:Int)+3:=(wrapI (by omega) (by omega)).trans (by omega)
  have w3:IntKind.i64.wrap ((K:Int)+3+1)=(K:Int)+4:=(wrapI (by omega) (by omega)).trans (by omega)
  have w4:IntKind.i64.wrap ((K:Int)+4+1)=(K:Int)+5:=(wrapI (by omega) (by omega)).trans (by omega)
  have w5:IntKind.i64.wrap ((K:Int)+5+1)=(K:Int)+6:=(wrapI (by omega) (by omega)).trans (by omega)
  simp[md,lf,hg',hg,h,hfl,eCol,w0,w1,w2,w3,w4,w5]
  refine .of (markText_ok _ (K+6) (by omega) (by omega)) ?_
  have w6:IntKind.i64.wrap ((K:Int)+6+1)=(K:Int)+7:=(wrapI (by omega) (by omega)).trans (by omega)
  simp[md,lf,hg',hg,h,hfl,eCol,w0,w1,w2,w3,w4,w5,w6]
  have e1:(k:Int)+(ctRw ctCol (x.take (i+1)):Int)=(K:Int)+7:=by omega
  refine .of _ (Gh.kb _ [0,1,5,5000] [] [900]) ⟨i+1,by omega, ?_⟩ ?_
  ·simp[wrapS (show i<9223372036854775807 by omega),e1,←hst,List.map_set,mkCol,mkBool,mkInt,mkStr,eCol,wrapU8]
  ·simp[wrapS (show i<9223372036854775807 by omega)];omega
 ·have:i=x.length:=by omega
  subst this
  subst hM
  subst hK
  simp[mixR_all,ctColS,mkColS]
theorem heldColS_ok (x:List GCol) (k:Nat) (k':Int) (hkk':k'=(k:Int)) (hk:k+ctColS x≤4611686018427387904) (hs: ∀n∈wColS x,n≤4611686018427387904):VC Tryz.prog 108 [vColS (mkColS k x),int .i64 k'] [(false,[(.s,.sc (.int .i64 ((k:Int)+(ctColS x:Int))))])]:=by
 subst hkk'
 have hl:x.length≤4611686018427387904:=hs _ (by simp[wColS])
 refine vc_of_ew good hm [0,1,4,5,9,19,28,39,50,60,70,81] Tryz.func108 rfl (by kernel_rfl) (by kernel_rfl) rfl ?_
 simp[Tryz.f108,vColS]
 refine ew_loop (fun E=> ∃ (i K:Nat),i≤x.length∧K=k+ctRw ctCol (x.take i)∧E= {nt:=85,sl:= [(0,vColS (mkColS k x)),(1,int .i64 (K:Int)),(5,int .i64 i)],bx:= [],rt:= []}) (fun E=>x.length- (E.num 5).toNat) _ (Gh.kb _ [0,1,5] [] []) ⟨0,k,by omega,by simp[ctRw],by simp[vColS]⟩ ?_
 rintro E1 ⟨i,K,hi,hK,rfl⟩
 have hfl:(mkColS k x).length=x.length:=mkRw_len mkCol ctCol k x
 have hct:=ctRw_le ctCol x i
 simp only[ctColS] at hk
 simp[vColS,hfl]
 refine ⟨fun h=> ?_,fun h=> ?_⟩
 ·have hg:(mkColS k x)[i]? =some (mkCol (k+ctRw ctCol (x.take i)) (x[i]?.getD (dCol))):=mkRw_get mkCol ctCol (dCol) k x i h
  have hc1:=ctRw_lt ctCol (dCol) h
  have hs1:ctRw ctCol (x.take (i+1))=ctRw ctCol (x.take i)+ctCol (x[i]?.getD (dCol)):=ctRw_succ ctCol (dCol) h
  have hy:(x[i]?.getD (dCol))∈x:=getD_mem _ h
  rw[←hK] at hg
  generalize (x[i]?.getD (dCol))=y at*
  have hg2: ∀hh:i< (mkColS k x).length,(mkColS k x)[i]=mkCol K y:=fun hh=>(List.getElem_eq_iff hh).2 hg
  have hse: ∀n∈wCol y,n≤4611686018427387904:=fun n hn=>hs n (List.mem_cons_of_mem _ (List.mem_flatMap.2 ⟨y,hy,hn⟩))
  simp only[ctCol] at hc1 hs1
  simp[md,lf,hg,hg2,h,hfl,eCol,mkCol,mkBool,mkInt,mkStr,wrapU8]
  refine .of (markText_ok _ (K) (by omega) (by omega)) ?_
  have w0:IntKind.i64.wrap ((K:Int)+1)=(K:Int)+1:=(wrapI (by omega) (by omega)).trans (by omega)
  have w1:IntKind.i64.wrap ((K:Int)+1+1)=(K:Int)+2:=(wrapI (by omega) (by omega)).trans (by omega)
  have w2:IntKind.i64.wrap ((K:Int)+2+1)=(K:Int)+3:=(wrapI (by omega) (by omega)).trans (by omega)
  have w3:IntKind.i64.wrap ((K:Int)+3+1)=(K:Int)+4:=(wrapI (by omega) (by omega)).trans (by omega)
  have w4:IntKind.i64.wrap ((K:Int)+4+1)=(K:Int)+5:=(wrapI (by omega) (by omega)).trans (by omega)
  have w5:IntKind.i64.wrap ((K:Int)+5+1)=(K:Int)+6:=(wrapI (by omega) (by omega)).trans (by omega)
  simp[md,lf,hg,hg2,h,hfl,eCol,mkCol,mkBool,mkInt,mkStr,wrapU8,w0,w1,w2,w3,w4,w5]
  refine .of (markText_ok _ (K+6) (by omega) (by omega)) ?_
  have w6:IntKind.i64.wrap ((K:Int)+6+1)=(K:Int)+7:=(wrapI (by omega) (by omega)).trans (by omega)
  simp[md,lf,hg,hg2,h,hfl,eCol,mkCol,mkBool,mkInt,mkStr,wrapU8,w0,w1,w2,w3,w4,w5,w6]
  have e1:(k:Int)+(ctRw ctCol (x.take (i+1)):Int)=(K:Int)+7:=by omega
  refine .of _ (Gh.kb _ [0,1,5] [] []) ⟨i+1,by omega, ?_⟩ ?_
  ·simp[wrapS (show i<9223372036854775807 by omega),e1,vColS]
  ·simp[wrapS (show i<9223372036854775807 by omega)];omega
 ·have:i=x.length:=by omega
  subst this
  subst hK
  simp[ctColS]
def eStrS (l:List ByteArray):List Lf:= [.ls [.sc (.string ⟨#[]⟩)] (l.map eStr)]
def vStrS (l:List ByteArray):SV:=list [.sc (.string ⟨#[]⟩)] (l.map eStr)
@[simp] theorem row_StrS (l:List (List ByteArray)) (i:Nat):(Option.map eStrS l[i]?).getD [.ls [.sc (.string ⟨#[]⟩)] []]=eStrS (l[i]?.getD []):=by cases l[i]? <;>rfl
def wStrS (l:List ByteArray):List Nat:=l.length::l.flatMap wStr
def okStrS (l:List ByteArray):Prop:=okM l.length∧ ∀a∈l,okStr a
theorem okw_StrS (l:List ByteArray) (h:okStrS l): ∀n∈wStrS l,okM n:=by
 intro n hn
 rcases List.mem_cons.1 hn with rfl|hn
 ·exact h.1
 ·obtain ⟨a,ha,hn⟩:=List.mem_flatMap.1 hn
  exact okw_Str a (h.2 a ha) n hn
def mStrS (x:List ByteArray):ML:= [(.o 9 (fun _=> [.s]),.ls [.sc (.string ⟨#[]⟩)] (x.map eStr))]
@[simp] theorem ow_StrS (l:List ByteArray):Ow (.o 9 (fun _=> [.s])) (.ls [.sc (.string ⟨#[]⟩)] (l.map eStr))=True:=eq_true (Ow_rows (fun x j hj=>match j,hj with|0,_=> .sc|n+1,hj=>absurd hj (by simp)) l)
@[simp] theorem full_StrS (l:List ByteArray):Full (.o 9 (fun _=> [.s])) (.ls [.sc (.string ⟨#[]⟩)] (l.map eStr))=True:=eq_true (Full_rows (fun x j hj=>match j,hj with|0,_=> .s|n+1,hj=>absurd hj (by simp)) l)
theorem szStrS_ok (x:List ByteArray) (left:Int) (h0:0≤left) (h1:left≤1048576) (hs: ∀n∈wStrS x,okM n):VC Tryz.prog 279 [vStrS x,int .i64 left] [(false,[(.s,.sc (.int .i64 (szL (wStrS x) left)))])]:=by
 refine vc_of_ew good hm [0,1,4,11,5,15,26] Tryz.func279 rfl (by kernel_rfl) (by kernel_rfl) rfl ?_
 have hl:x.length≤9223372036854775807:=hs _ (by simp[wStrS])
 simp[Tryz.f279,vStrS]
 rw[wrapI (i:=left-x.length) (by omega) (by omega)]
 refine ⟨fun h=>by simp[wStrS,szL,h],fun hk=> ?_⟩
 refine ew_loop (fun E=> ∃i:Nat,i≤x.length∧0≤szL ((x.take i).flatMap wStr) (left-x.length)∧E= {nt:=28,sl:= [(0,vStrS x),(1,int .i64 (szL ((x.take i).flatMap wStr) (left-x.length))),(5,int .i64 i)],bx:= [],rt:= []}) (fun E=>x.length- (E.num 5).toNat) _ (Gh.keep _ [0,1,5]) ⟨0,by omega,by simp[szL];omega,by simp[szL,vStrS]⟩ ?_
 rintro E1 ⟨i,hi,hr0,rfl⟩
 have hr1:=szL_le' (l:=(x.take i).flatMap wStr) (left:=left-x.length) (by omega)
 simp[vStrS,eStr]
 refine ⟨fun h=> ?_,fun h=> ?_⟩
 ·obtain ⟨q1,q2⟩:=szF_step wStr (⟨#[]⟩) h (by omega:0≤left-x.length) hr0
  have hm: ∀n∈wStr (x[i]?.getD (⟨#[]⟩)),okM n:=fun n hn=>hs n (List.mem_cons_of_mem _ (mem_flat h hn))
  have hb:(x[i]?.getD (⟨#[]⟩:ByteArray)).size≤9223372036854775807:=hm _ (by simp[wStr])
  simp only[wStr,szL] at q1 q2
  try simp[eStr]
  rw[wrapI (i:=szL ((x.take i).flatMap wStr) (left-x.length)- ((x[i]?.getD (⟨#[]⟩:ByteArray)).size:Nat)) (by omega) (by omega)]
  refine ⟨h,fun h2=> ?_,fun h2=> .of _ (Gh.keep _ [0,1,5]) ⟨i+1,by omega, ?_, ?_⟩ ?_⟩
  ·simp[h2] at q1;rw[wStrS,szL,if_neg (by omega),q1]
  ·rw[q2,if_neg (by omega)];exact h2
  ·rw[q2,if_neg (by omega)];simp[wrapS (show i<9223372036854775807 by omega)]
  ·simp[wrapS (show i<9223372036854775807 by omega)];omega
 ·rw[wStrS,szL,if_neg (by omega),List.take_of_length_le (by simpa using h)]
theorem toStrS_ok (x:List ByteArray) (hs: ∀n∈wStrS x,n≤1048576):VC Tryz.prog 298 [vStrS x] [(false,mStrS x)]:=by
 refine vc_of_ew good hm [0,2,3,4,11] Tryz.func298 rfl (by kernel_rfl) (by kernel_rfl) rfl ?_
 have hl:x.length≤1048576:=hs _ (by simp[wStrS])
 simp[Tryz.f298,vStrS,mStrS]
 refine ⟨by omega, ?_⟩
 refine ew_loop (fun E=> ∃i:Nat,i≤x.length∧E= {nt:=22,sl:= [(0,vStrS x),(3,.v false [.r [7]]),(4,int .i64 i)],bx:= [],rt:= [(7,.o 9 (fun _=> [.s]),.ls [.sc (.string ⟨#[]⟩)] (fillR [.sc (.string ⟨#[]⟩)] (x.map eStr) i))]}) (fun E=>x.length- (E.num 4).toNat) _ (Gh.keep _ [0,3,4]) ⟨0,by omega,by simp[vStrS,fillR]⟩ ?_
 rintro E1 ⟨i,hi,rfl⟩
 have hfl:(fillR [.sc (.string ⟨#[]⟩)] (x.map eStr) i).length=x.length:=by rw[fillR_len _ _ (by simpa using hi)];simp
 simp[vStrS,eStr] at hfl⊢
 try simp[hfl]
 refine ⟨fun h=> ?_,fun h=>fillR_all _ _ (by simpa using h)⟩
 simp[eStr,hfl,h]
 refine .of _ (Gh.keep _ [0,3,4]) ⟨i+1,by omega, ?_⟩ ?_
 ·have:=fillR_set [.sc (.string ⟨#[]⟩)] (x.map eStr) (i:=i) (by simpa using h)
  simp[wrapS (show i<9223372036854775807 by omega),vStrS,eStr,h] at this⊢
  rw[←this]
 ·simp[wrapS (show i<9223372036854775807 by omega)];omega
theorem eqStrS_ok (x:List ByteArray) (hs: ∀n∈wStrS x,n≤1048576):VC Tryz.prog 206 [vStrS x,vStrS x] [(false,[(.s,.sc (.bool true))])]:=by
 refine vc_of_ew good hm [0,1,4,10,5,14,25] Tryz.func206 rfl (by kernel_rfl) (by kernel_rfl) rfl ?_
 have hl:x.length≤1048576:=hs _ (by simp[wStrS])
 simp[Tryz.f206,vStrS]
 refine ew_loop (fun E=> ∃i:Nat,i≤x.length∧E= {nt:=26,sl:= [(0,vStrS x),(1,vStrS x),(5,int .i64 i)],bx:= [],rt:= []}) (fun E=>x.length- (E.num 5).toNat) _ (Gh.keep _ [0,1,5]) ⟨0,by omega,by simp[vStrS]⟩ ?_
 rintro E1 ⟨i,hi,rfl⟩
 simp[vStrS,eStr]
 intro h
 simp[eStr,h]
 refine .of _ (Gh.keep _ [0,1,5]) ⟨i+1,by omega, ?_⟩ ?_
 ·simp[wrapS (show i<9223372036854775807 by omega),vStrS]
 ·simp[wrapS (show i<9223372036854775807 by omega)];omega
def ctStrS (l:List ByteArray):Nat:=ctRw ctStr l
def mkStrS (k:Nat) (l:List ByteArray):List ByteArray:=mkRw mkStr ctStr k l
theorem ctle_StrS (l:List ByteArray):ctStrS l≤64* (wStrS l).sum:=by
 have:=ctRw_le64 ctStr wStr l (fun x _=>by simp only[ctStr];omega)
 simp only[wStrS,List.sum_cons]
 exact this
theorem markStrS_ok (x:List ByteArray) (k:Nat) (k':Int) (hkk':k'=(k:Int)) (hk:k+ctStrS x≤4611686018427387904) (hs: ∀n∈wStrS x,n≤4611686018427387904):VM Tryz.prog 106 [.v false [.r [900]],int .i64 k'] [(.o 9 (fun _=> [.s]),.ls [.sc (.string ⟨#[]⟩)] (x.map eStr),.ls [.sc (.string ⟨#[]⟩)] ((mkStrS k x).map eStr))] (some ((k:Int)+(ctStrS x:Int))):=by
 subst hkk'
 have hl:x.length≤4611686018427387904:=hs _ (by simp[wStrS])
 refine vm_of_ew good hm [0,1,4,5,9,5000] Tryz.func106 rfl (by kernel_rfl) (by kernel_rfl) rfl fun pv=> ?_
 simp[Tryz.f106]
 refine ew_loop (fun E=> ∃ (i K:Nat) (M:List (ByteArray)),i≤x.length∧K=k+ctRw ctStr (x.take i)∧M=mixR mkStr ctStr k x i∧E= {nt:=20,sl:= [(0,.v false [.r [900]]),(1,int .i64 (K:Int)),(5,int .i64 i),(5000,.pin 900 [] (pv 900))],bx:= [],rt:= [(900,.o 9 (fun _=> [.s]),.ls [.sc (.string ⟨#[]⟩)] (M.map eStr))]}) (fun E=>x.length- (E.num 5).toNat) _ (Gh.kb _ [0,1,5,5000] [] [900]) ⟨0,k,x,by omega,by simp[ctRw],by simp[mixR_zero],by simp⟩ ?_
 rintro E1 ⟨i,K,M,hi,hK,hM,rfl⟩
 have hfl:M.length=x.length:=by rw[hM];exact mixR_len mkStr ctStr k x i
 have hct:=ctRw_le ctStr x i
 simp only[ctStrS] at hk
 simp[hfl]
 refine ⟨fun h=> ?_,fun h=> ?_⟩
 ·have hg:M[i]? =x[i]? :=by rw[hM];exact mixR_get mkStr ctStr k x i h
  have hst:=mixR_set mkStr ctStr k x i (⟨#[]⟩) h
  have hc1:=ctRw_lt ctStr (⟨#[]⟩) h
  have hs1:ctRw ctStr (x.take (i+1))=ctRw ctStr (x.take i)+ctStr (x[i]?.getD (⟨#[]⟩)):=ctRw_succ ctStr (⟨#[]⟩) h
  have hxi:x[i]? =some (x[i]?.getD (⟨#[]⟩)):=by rw[List.getElem?_eq_getElem h];rfl
  have hy:(x[i]?.getD (⟨#[]⟩))∈x:=getD_mem _ h
  rw[hxi] at hg
  rw[←hK,←hM] at hst
  generalize (x[i]?.getD (⟨#[]⟩))=y at*
  have hg': ∀h',M[i]'h'=y:=fun h'=>by simpa [List.getElem?_eq_getElem h'] using hg
  have hse: ∀n∈wStr y,n≤4611686018427387904:=fun n hn=>hs n (List.mem_cons_of_mem _ (List.mem_flatMap.2 ⟨y,hy,hn⟩))
  simp only[ctStr] at hc1 hs1
  simp[md,lf,hg',hg,h,hfl,eStr]
  refine .of (markText_ok _ (K) (by omega) (by omega)) ?_
  have w0:IntKind.i64.wrap ((K:Int)+1)=(K:Int)+1:=(wrapI (by omega) (by omega)).trans (by omega)
  simp[md,lf,hg',hg,h,hfl,eStr,w0]
  have e1:(k:Int)+(ctRw ctStr (x.take (i+1)):Int)=(K:Int)+1:=by omega
  refine .of _ (Gh.kb _ [0,1,5,5000] [] [900]) ⟨i+1,by omega, ?_⟩ ?_
  ·simp[wrapS (show i<9223372036854775807 by omega),e1,←hst,List.map_set,mkStr,eStr,wrapU8]
  ·simp[wrapS (show i<9223372036854775807 by omega)];omega
 ·have:i=x.length:=by omega
  subst this
  subst hM
  subst hK
  simp[mixR_all,ctStrS,mkStrS]
theorem heldStrS_ok (x:List ByteArray) (k:Nat) (k':Int) (hkk':k'=(k:Int)) (hk:k+ctStrS x≤4611686018427387904) (hs: ∀n∈wStrS x,n≤4611686018427387904):VC Tryz.prog 109 [vStrS (mkStrS k x),int .i64 k'] [(false,[(.s,.sc (.int .i64 ((k:Int)+(ctStrS x:Int))))])]:=by
 subst hkk'
 have hl:x.length≤4611686018427387904:=hs _ (by simp[wStrS])
 refine vc_of_ew good hm [0,1,4,5,9,18] Tryz.func109 rfl (by kernel_rfl) (by kernel_rfl) rfl ?_
 simp[Tryz.f109,vStrS]
 refine ew_loop (fun E=> ∃ (i K:Nat),i≤x.length∧K=k+ctRw ctStr (x.take i)∧E= {nt:=22,sl:= [(0,vStrS (mkStrS k x)),(1,int .i64 (K:Int)),(5,int .i64 i)],bx:= [],rt:= []}) (fun E=>x.length- (E.num 5).toNat) _ (Gh.kb _ [0,1,5] [] []) ⟨0,k,by omega,by simp[ctRw],by simp[vStrS]⟩ ?_
 rintro E1 ⟨i,K,hi,hK,rfl⟩
 have hfl:(mkStrS k x).length=x.length:=mkRw_len mkStr ctStr k x
 have hct:=ctRw_le ctStr x i
 simp only[ctStrS] at hk
 simp[vStrS,hfl]
 refine ⟨fun h=> ?_,fun h=> ?_⟩
 ·have hg:(mkStrS k x)[i]? =some (mkStr (k+ctRw ctStr (x.take i)) (x[i]?.getD (⟨#[]⟩))):=mkRw_get mkStr ctStr (⟨#[]⟩) k x i h
  have hc1:=ctRw_lt ctStr (⟨#[]⟩) h
  have hs1:ctRw ctStr (x.take (i+1))=ctRw ctStr (x.take i)+ctStr (x[i]?.getD (⟨#[]⟩)):=ctRw_succ ctStr (⟨#[]⟩) h
  have hy:(x[i]?.getD (⟨#[]⟩))∈x:=getD_mem _ h
  rw[←hK] at hg
  generalize (x[i]?.getD (⟨#[]⟩))=y at*
  have hg2: ∀hh:i< (mkStrS k x).length,(mkStrS k x)[i]=mkStr K y:=fun hh=>(List.getElem_eq_iff hh).2 hg
  have hse: ∀n∈wStr y,n≤4611686018427387904:=fun n hn=>hs n (List.mem_cons_of_mem _ (List.mem_flatMap.2 ⟨y,hy,hn⟩))
  simp only[ctStr] at hc1 hs1
  simp[md,lf,hg,hg2,h,hfl,eStr,mkStr,wrapU8]
  refine .of (markText_ok _ (K) (by omega) (by omega)) ?_
  have w0:IntKind.i64.wrap ((K:Int)+1)=(K:Int)+1:=(wrapI (by omega) (by omega)).trans (by omega)
  simp[md,lf,hg,hg2,h,hfl,eStr,mkStr,wrapU8,w0]
  have e1:(k:Int)+(ctRw ctStr (x.take (i+1)):Int)=(K:Int)+1:=by omega
  refine .of _ (Gh.kb _ [0,1,5] [] []) ⟨i+1,by omega, ?_⟩ ?_
  ·simp[wrapS (show i<9223372036854775807 by omega),e1,vStrS]
  ·simp[wrapS (show i<9223372036854775807 by omega)];omega
 ·have:i=x.length:=by omega
  subst this
  subst hK
  simp[ctStrS]
structure GDdl where
 fKind:Int
 fTable:ByteArray
 fCols:List GCol
 fKeys:List ByteArray
 fName:ByteArray
 fTo:ByteArray
def eDdl (x:GDdl):List Lf:= [.sc (.int .i64 x.fKind),.sc (.string x.fTable),.ls [.sc (.string ⟨#[]⟩),.sc (.int .i64 0),.sc (.bool false),.sc (.bool false),.sc (.int .i64 0),.sc (.int .i64 0),.sc (.string ⟨#[]⟩)] (x.fCols.map eCol),.ls [.sc (.string ⟨#[]⟩)] (x.fKeys.map eStr),.sc (.string x.fName),.sc (.string x.fTo)]
def cDdl (x:GDdl):List LV:= [.s (.sc (.int .i64 x.fKind)),.s (.sc (.string x.fTable)),.s (.ls [.sc (.string ⟨#[]⟩),.sc (.int .i64 0),.sc (.bool false),.sc (.bool false),.sc (.int .i64 0),.sc (.int .i64 0),.sc (.string ⟨#[]⟩)] (x.fCols.map eCol)),.s (.ls [.sc (.string ⟨#[]⟩)] (x.fKeys.map eStr)),.s (.sc (.string x.fName)),.s (.sc (.string x.fTo))]
def vDdl (x:GDdl):SV:= .v true [.s (.sc (.int .i64 x.fKind)),.s (.sc (.string x.fTable)),.s (.ls [.sc (.string ⟨#[]⟩),.sc (.int .i64 0),.sc (.bool false),.sc (.bool false),.sc (.int .i64 0),.sc (.int .i64 0),.sc (.string ⟨#[]⟩)] (x.fCols.map eCol)),.s (.ls [.sc (.string ⟨#[]⟩)] (x.fKeys.map eStr)),.s (.sc (.string x.fName)),.s (.sc (.string x.fTo))]
def dDdl:GDdl:=⟨0,⟨#[]⟩,[],[],⟨#[]⟩,⟨#[]⟩⟩
@[simp] theorem row_Ddl (l:List GDdl) (i:Nat):(Option.map eDdl l[i]?).getD [.sc (.int .i64 0),.sc (.string ⟨#[]⟩),.ls [.sc (.string ⟨#[]⟩),.sc (.int .i64 0),.sc (.bool false),.sc (.bool false),.sc (.int .i64 0),.sc (.int .i64 0),.sc (.string ⟨#[]⟩)] [],.ls [.sc (.string ⟨#[]⟩)] [],.sc (.string ⟨#[]⟩),.sc (.string ⟨#[]⟩)]=eDdl (l[i]?.getD dDdl):=by cases l[i]? <;>rfl
def wDdl (x:GDdl):List Nat:=x.fTable.size::(wColS x.fCols++(wStrS x.fKeys++(x.fName.size::(x.fTo.size::([])))))
def okDdl (x:GDdl):Prop:=okI x.fKind∧okM x.fTable.size∧okColS x.fCols∧okStrS x.fKeys∧okM x.fName.size∧okM x.fTo.size∧True
def mDdl (x:GDdl):ML:= [(.s,.sc (.int .i64 x.fKind)),(.s,.sc (.string x.fTable)),(.o 236 (fun _=> [.s,.s,.s,.s,.s,.s,.s]),.ls [.sc (.string ⟨#[]⟩),.sc (.int .i64 0),.sc (.bool false),.sc (.bool false),.sc (.int .i64 0),.sc (.int .i64 0),.sc (.string ⟨#[]⟩)] (x.fCols.map eCol)),(.o 9 (fun _=> [.s]),.ls [.sc (.string ⟨#[]⟩)] (x.fKeys.map eStr)),(.s,.sc (.string x.fName)),(.s,.sc (.string x.fTo))]
def mvDdl (k:Nat) (x:GDdl):GDdl:= {x with fCols:=mkColS (k) x.fCols,fKeys:=mkStrS (k+ctColS x.fCols) x.fKeys}
structure GStmt where
 fKind:Int
 fTable:ByteArray
 fKey:List GVal
 fRow:GRow
 fDdl:GDdl
def cStmt (x:GStmt):List LV:= [.s (.sc (.int .i64 x.fKind)),.s (.sc (.string x.fTable)),.s (.ls [.sc (.int .i64 0),.sc (.int .i64 0),.sc (.string ⟨#[]⟩)] (x.fKey.map eVal)),.s (.ls [.sc (.int .i64 0),.sc (.int .i64 0),.sc (.string ⟨#[]⟩)] (x.fRow.fVals.map eVal)),.s (.sc (.int .i64 x.fDdl.fKind)),.s (.sc (.string x.fDdl.fTable)),.s (.ls [.sc (.string ⟨#[]⟩),.sc (.int .i64 0),.sc (.bool false),.sc (.bool false),.sc (.int .i64 0),.sc (.int .i64 0),.sc (.string ⟨#[]⟩)] (x.fDdl.fCols.map eCol)),.s (.ls [.sc (.string ⟨#[]⟩)] (x.fDdl.fKeys.map eStr)),.s (.sc (.string x.fDdl.fName)),.s (.sc (.string x.fDdl.fTo))]
def vStmt (x:GStmt):SV:= .v true [.s (.sc (.int .i64 x.fKind)),.s (.sc (.string x.fTable)),.s (.ls [.sc (.int .i64 0),.sc (.int .i64 0),.sc (.string ⟨#[]⟩)] (x.fKey.map eVal)),.s (.ls [.sc (.int .i64 0),.sc (.int .i64 0),.sc (.string ⟨#[]⟩)] (x.fRow.fVals.map eVal)),.s (.sc (.int .i64 x.fDdl.fKind)),.s (.sc (.string x.fDdl.fTable)),.s (.ls [.sc (.string ⟨#[]⟩),.sc (.int .i64 0),.sc (.bool false),.sc (.bool false),.sc (.int .i64 0),.sc (.int .i64 0),.sc (.string ⟨#[]⟩)] (x.fDdl.fCols.map eCol)),.s (.ls [.sc (.string ⟨#[]⟩)] (x.fDdl.fKeys.map eStr)),.s (.sc (.string x.fDdl.fName)),.s (.sc (.string x.fDdl.fTo))]
def dStmt:GStmt:=⟨0,⟨#[]⟩,[],⟨[]⟩,⟨0,⟨#[]⟩,[],[],⟨#[]⟩,⟨#[]⟩⟩⟩
def okStmt (x:GStmt):Prop:=okI x.fKind∧okM x.fTable.size∧okValS x.fKey∧okRow x.fRow∧okDdl x.fDdl∧True
def mStmt (x:GStmt):ML:= [(.s,.sc (.int .i64 x.fKind)),(.s,.sc (.string x.fTable)),(.o 234 (fun _=> [.s,.s,.s]),.ls [.sc (.int .i64 0),.sc (.int .i64 0),.sc (.string ⟨#[]⟩)] (x.fKey.map eVal)),(.o 234 (fun _=> [.s,.s,.s]),.ls [.sc (.int .i64 0),.sc (.int .i64 0),.sc (.string ⟨#[]⟩)] (x.fRow.fVals.map eVal)),(.s,.sc (.int .i64 x.fDdl.fKind)),(.s,.sc (.string x.fDdl.fTable)),(.o 236 (fun _=> [.s,.s,.s,.s,.s,.s,.s]),.ls [.sc (.string ⟨#[]⟩),.sc (.int .i64 0),.sc (.bool false),.sc (.bool false),.sc (.int .i64 0),.sc (.int .i64 0),.sc (.string ⟨#[]⟩)] (x.fDdl.fCols.map eCol)),(.o 9 (fun _=> [.s]),.ls [.sc (.string ⟨#[]⟩)] (x.fDdl.fKeys.map eStr)),(.s,.sc (.string x.fDdl.fName)),(.s,.sc (.string x.fDdl.fTo))]
def mvStmt (k:Nat) (x:GStmt):GStmt:= {x with fKey:=mkValS (k) x.fKey,fRow:=mvRow (k+ctValS x.fKey) x.fRow,fDdl:=mvDdl (k+ctValS x.fKey+cvRow x.fRow) x.fDdl}
structure GPart where
 fStmt:GStmt
 fCols:List ByteArray
 fKeys:List ByteArray
def ePart (x:GPart):List Lf:= [.sc (.int .i64 x.fStmt.fKind),.sc (.string x.fStmt.fTable),.ls [.sc (.int .i64 0),.sc (.int .i64 0),.sc (.string ⟨#[]⟩)] (x.fStmt.fKey.map eVal),.ls [.sc (.int .i64 0),.sc (.int .i64 0),.sc (.string ⟨#[]⟩)] (x.fStmt.fRow.fVals.map eVal),.sc (.int .i64 x.fStmt.fDdl.fKind),.sc (.string x.fStmt.fDdl.fTable),.ls [.sc (.string ⟨#[]⟩),.sc (.int .i64 0),.sc (.bool false),.sc (.bool false),.sc (.int .i64 0),.sc (.int .i64 0),.sc (.string ⟨#[]⟩)] (x.fStmt.fDdl.fCols.map eCol),.ls [.sc (.string ⟨#[]⟩)] (x.fStmt.fDdl.fKeys.map eStr),.sc (.string x.fStmt.fDdl.fName),.sc (.string x.fStmt.fDdl.fTo),.ls [.sc (.string ⟨#[]⟩)] (x.fCols.map eStr),.ls [.sc (.string ⟨#[]⟩)] (x.fKeys.map eStr)]
def vPart (x:GPart):SV:= .v true [.s (.sc (.int .i64 x.fStmt.fKind)),.s (.sc (.string x.fStmt.fTable)),.s (.ls [.sc (.int .i64 0),.sc (.int .i64 0),.sc (.string ⟨#[]⟩)] (x.fStmt.fKey.map eVal)),.s (.ls [.sc (.int .i64 0),.sc (.int .i64 0),.sc (.string ⟨#[]⟩)] (x.fStmt.fRow.fVals.map eVal)),.s (.sc (.int .i64 x.fStmt.fDdl.fKind)),.s (.sc (.string x.fStmt.fDdl.fTable)),.s (.ls [.sc (.string ⟨#[]⟩),.sc (.int .i64 0),.sc (.bool false),.sc (.bool false),.sc (.int .i64 0),.sc (.int .i64 0),.sc (.string ⟨#[]⟩)] (x.fStmt.fDdl.fCols.map eCol)),.s (.ls [.sc (.string ⟨#[]⟩)] (x.fStmt.fDdl.fKeys.map eStr)),.s (.sc (.string x.fStmt.fDdl.fName)),.s (.sc (.string x.fStmt.fDdl.fTo)),.s (.ls [.sc (.string ⟨#[]⟩)] (x.fCols.map eStr)),.s (.ls [.sc (.string ⟨#[]⟩)] (x.fKeys.map eStr))]
def dPart:GPart:=⟨⟨0,⟨#[]⟩,[],⟨[]⟩,⟨0,⟨#[]⟩,[],[],⟨#[]⟩,⟨#[]⟩⟩⟩,[],[]⟩
@[simp] theorem row_Part (l:List GPart) (i:Nat):(Option.map ePart l[i]?).getD [.sc (.int .i64 0),.sc (.string ⟨#[]⟩),.ls [.sc (.int .i64 0),.sc (.int .i64 0),.sc (.string ⟨#[]⟩)] [],.ls [.sc (.int .i64 0),.sc (.int .i64 0),.sc (.string ⟨#[]⟩)] [],.sc (.int .i64 0),.sc (.string ⟨#[]⟩),.ls [.sc (.string ⟨#[]⟩),.sc (.int .i64 0),.sc (.bool false),.sc (.bool false),.sc (.int .i64 0),.sc (.int .i64 0),.sc (.string ⟨#[]⟩)] [],.ls [.sc (.string ⟨#[]⟩)] [],.sc (.string ⟨#[]⟩),.sc (.string ⟨#[]⟩),.ls [.sc (.string ⟨#[]⟩)] [],.ls [.sc (.string ⟨#[]⟩)] []]=ePart (l[i]?.getD dPart):=by cases l[i]? <;>rfl
def okPart (x:GPart):Prop:=okStmt x.fStmt∧okStrS x.fCols∧okStrS x.fKeys∧True
def vPartS (l:List GPart):SV:=list [.sc (.int .i64 0),.sc (.string ⟨#[]⟩),.ls [.sc (.int .i64 0),.sc (.int .i64 0),.sc (.string ⟨#[]⟩)] [],.ls [.sc (.int .i64 0),.sc (.int .i64 0),.sc (.string ⟨#[]⟩)] [],.sc (.int .i64 0),.sc (.string ⟨#[]⟩),.ls [.sc (.string ⟨#[]⟩),.sc (.int .i64 0),.sc (.bool false),.sc (.bool false),.sc (.int .i64 0),.sc (.int .i64 0),.sc (.string ⟨#[]⟩)] [],.ls [.sc (.string ⟨#[]⟩)] [],.sc (.string ⟨#[]⟩),.sc (.string ⟨#[]⟩),.ls [.sc (.string ⟨#[]⟩)] [],.ls [.sc (.string ⟨#[]⟩)] []] (l.map ePart)
@[simp] theorem ow_PartS (l:List GPart):Ow (.o 150 (fun _=> [.s,.s,.o 234 (fun _=> [.s,.s,.s]),.o 234 (fun _=> [.s,.s,.s]),.s,.s,.o 236 (fun _=> [.s,.s,.s,.s,.s,.s,.s]),.o 9 (fun _=> [.s]),.s,.s,.o 9 (fun _=> [.s]),.o 9 (fun _=> [.s])])) (.ls [.sc (.int .i64 0),.sc (.string ⟨#[]⟩),.ls [.sc (.int .i64 0),.sc (.int .i64 0),.sc (.string ⟨#[]⟩)] [],.ls [.sc (.int .i64 0),.sc (.int .i64 0),.sc (.string ⟨#[]⟩)] [],.sc (.int .i64 0),.sc (.string ⟨#[]⟩),.ls [.sc (.string ⟨#[]⟩),.sc (.int .i64 0),.sc (.bool false),.sc (.bool false),.sc (.int .i64 0),.sc (.int .i64 0),.sc (.string ⟨#[]⟩)] [],.ls [.sc (.string ⟨#[]⟩)] [],.sc (.string ⟨#[]⟩),.sc (.string ⟨#[]⟩),.ls [.sc (.string ⟨#[]⟩)] [],.ls [.sc (.string ⟨#[]⟩)] []] (l.map ePart))=True:=eq_true (Ow_rows (fun x j hj=>match j,hj with|0,_=> .sc|1,_=> .sc|2,_=>of_eq_true (ow_ValS x.fStmt.fKey)|3,_=>of_eq_true (ow_ValS x.fStmt.fRow.fVals)|4,_=> .sc|5,_=> .sc|6,_=>of_eq_true (ow_ColS x.fStmt.fDdl.fCols)|7,_=>of_eq_true (ow_StrS x.fStmt.fDdl.fKeys)|8,_=> .sc|9,_=> .sc|10,_=>of_eq_true (ow_StrS x.fCols)|11,_=>of_eq_true (ow_StrS x.fKeys)|n+12,hj=>absurd hj (by simp)) l)
@[simp] theorem full_PartS (l:List GPart):Full (.o 150 (fun _=> [.s,.s,.o 234 (fun _=> [.s,.s,.s]),.o 234 (fun _=> [.s,.s,.s]),.s,.s,.o 236 (fun _=> [.s,.s,.s,.s,.s,.s,.s]),.o 9 (fun _=> [.s]),.s,.s,.o 9 (fun _=> [.s]),.o 9 (fun _=> [.s])])) (.ls [.sc (.int .i64 0),.sc (.string ⟨#[]⟩),.ls [.sc (.int .i64 0),.sc (.int .i64 0),.sc (.string ⟨#[]⟩)] [],.ls [.sc (.int .i64 0),.sc (.int .i64 0),.sc (.string ⟨#[]⟩)] [],.sc (.int .i64 0),.sc (.string ⟨#[]⟩),.ls [.sc (.string ⟨#[]⟩),.sc (.int .i64 0),.sc (.bool false),.sc (.bool false),.sc (.int .i64 0),.sc (.int .i64 0),.sc (.string ⟨#[]⟩)] [],.ls [.sc (.string ⟨#[]⟩)] [],.sc (.string ⟨#[]⟩),.sc (.string ⟨#[]⟩),.ls [.sc (.string ⟨#[]⟩)] [],.ls [.sc (.string ⟨#[]⟩)] []] (l.map ePart))=True:=eq_true (Full_rows (fun x j hj=>match j,hj with|0,_=> .s|1,_=> .s|2,_=>of_eq_true (full_ValS x.fStmt.fKey)|3,_=>of_eq_true (full_ValS x.fStmt.fRow.fVals)|4,_=> .s|5,_=> .s|6,_=>of_eq_true (full_ColS x.fStmt.fDdl.fCols)|7,_=>of_eq_true (full_StrS x.fStmt.fDdl.fKeys)|8,_=> .s|9,_=> .s|10,_=>of_eq_true (full_StrS x.fCols)|11,_=>of_eq_true (full_StrS x.fKeys)|n+12,hj=>absurd hj (by simp)) l)
def ctPart (x:GPart):Nat:=6+ctValS x.fStmt.fKey+ctValS x.fStmt.fRow.fVals+ctColS x.fStmt.fDdl.fCols+ctStrS x.fStmt.fDdl.fKeys+ctStrS x.fCols+ctStrS x.fKeys
def mkPart (k:Nat) (x:GPart):GPart:=⟨⟨mkInt (k) x.fStmt.fKind,mkStr (k+1) x.fStmt.fTable,mkValS (k+2) x.fStmt.fKey,⟨mkValS (k+2+ctValS x.fStmt.fKey) x.fStmt.fRow.fVals⟩,⟨mkInt (k+2+ctValS x.fStmt.fKey+ctValS x.fStmt.fRow.fVals) x.fStmt.fDdl.fKind,mkStr (k+3+ctValS x.fStmt.fKey+ctValS x.fStmt.fRow.fVals) x.fStmt.fDdl.fTable,mkColS (k+4+ctValS x.fStmt.fKey+ctValS x.fStmt.fRow.fVals) x.fStmt.fDdl.fCols,mkStrS (k+4+ctValS x.fStmt.fKey+ctValS x.fStmt.fRow.fVals+ctColS x.fStmt.fDdl.fCols) x.fStmt.fDdl.fKeys,mkStr (k+4+ctValS x.fStmt.fKey+ctValS x.fStmt.fRow.fVals+ctColS x.fStmt.fDdl.fCols+ctStrS x.fStmt.fDdl.fKeys) x.fStmt.fDdl.fName,mkStr (k+5+ctValS x.fStmt.fKey+ctValS x.fStmt.fRow.fVals+ctColS x.fStmt.fDdl.fCols+ctStrS x.fStmt.fDdl.fKeys) x.fStmt.fDdl.fTo⟩⟩,mkStrS (k+6+ctValS x.fStmt.fKey+ctValS x.fStmt.fRow.fVals+ctColS x.fStmt.fDdl.fCols+ctStrS x.fStmt.fDdl.fKeys) x.fCols,mkStrS (k+6+ctValS x.fStmt.fKey+ctValS x.fStmt.fRow.fVals+ctColS x.fStmt.fDdl.fCols+ctStrS x.fStmt.fDdl.fKeys+ctStrS x.fCols) x.fKeys⟩
def mkPartS (k:Nat) (l:List GPart):List GPart:=mkRw mkPart ctPart k l
structure GBatch where
 fLsn:Int
 fPrev:Int
 fParts:List GPart
def mvBatch (k:Nat) (x:GBatch):GBatch:= {x with fParts:=mkPartS (k) x.fParts}
structure GTable where
 fName:ByteArray
 fCols:List GCol
 fKeys:List ByteArray
def eTable (x:GTable):List Lf:= [.sc (.string x.fName),.ls [.sc (.string ⟨#[]⟩),.sc (.int .i64 0),.sc (.bool false),.sc (.bool false),.sc (.int .i64 0),.sc (.int .i64 0),.sc (.string ⟨#[]⟩)] (x.fCols.map eCol),.ls [.sc (.string ⟨#[]⟩)] (x.fKeys.map eStr)]
def cTable (x:GTable):List LV:= [.s (.sc (.string x.fName)),.s (.ls [.sc (.string ⟨#[]⟩),.sc (.int .i64 0),.sc (.bool false),.sc (.bool false),.sc (.int .i64 0),.sc (.int .i64 0),.sc (.string ⟨#[]⟩)] (x.fCols.map eCol)),.s (.ls [.sc (.string ⟨#[]⟩)] (x.fKeys.map eStr))]
def vTable (x:GTable):SV:= .v true [.s (.sc (.string x.fName)),.s (.ls [.sc (.string ⟨#[]⟩),.sc (.int .i64 0),.sc (.bool false),.sc (.bool false),.sc (.int .i64 0),.sc (.int .i64 0),.sc (.string ⟨#[]⟩)] (x.fCols.map eCol)),.s (.ls [.sc (.string ⟨#[]⟩)] (x.fKeys.map eStr))]
def dTable:GTable:=⟨⟨#[]⟩,[],[]⟩
@[simp] theorem row_Table (l:List GTable) (i:Nat):(Option.map eTable l[i]?).getD [.sc (.string ⟨#[]⟩),.ls [.sc (.string ⟨#[]⟩),.sc (.int .i64 0),.sc (.bool false),.sc (.bool false),.sc (.int .i64 0),.sc (.int .i64 0),.sc (.string ⟨#[]⟩)] [],.ls [.sc (.string ⟨#[]⟩)] []]=eTable (l[i]?.getD dTable):=by cases l[i]? <;>rfl
def wTable (x:GTable):List Nat:=x.fName.size::(wColS x.fCols++(wStrS x.fKeys++([])))
def okTable (x:GTable):Prop:=okM x.fName.size∧okColS x.fCols∧okStrS x.fKeys∧True
theorem okw_Table (x:GTable) (h:okTable x): ∀n∈wTable x,okM n:=by
 obtain ⟨h0,h1,h2,_⟩:=h
 intro n hn
 simp only[wTable,List.mem_cons,List.mem_append,List.not_mem_nil,or_false,false_or] at hn
 rcases hn with rfl|hn|hn
 ·exact h0
 ·exact okw_ColS _ h1 n hn
 ·exact okw_StrS _ h2 n hn
theorem fit_Table (ls:List Lf) (h:Fit ti ck 308 ls): ∃x:GTable,ls=eTable x∧okTable x:=by
 obtain ⟨c0,r0,rfl,h0,g0⟩:=All2.cons_inv h
 obtain ⟨a0,rfl,b0⟩:=h0.str_inv
 obtain ⟨c1,r1,rfl,h1,g1⟩:=All2.cons_inv g0
 obtain ⟨a1,rfl,b1,b1'⟩:=h1.list eCol okCol fit_Col
 obtain ⟨c2,r2,rfl,h2,g2⟩:=All2.cons_inv g1
 obtain ⟨a2,rfl,b2,b2'⟩:=h2.list eStr okStr fit_Str
 obtain rfl:=All2.nil_inv g2
 exact ⟨⟨a0,a1,a2⟩,rfl,⟨b0,⟨b1,b1'⟩,⟨b2,b2'⟩,trivial⟩⟩
def mTable (x:GTable):ML:= [(.s,.sc (.string x.fName)),(.o 236 (fun _=> [.s,.s,.s,.s,.s,.s,.s]),.ls [.sc (.string ⟨#[]⟩),.sc (.int .i64 0),.sc (.bool false),.sc (.bool false),.sc (.int .i64 0),.sc (.int .i64 0),.sc (.string ⟨#[]⟩)] (x.fCols.map eCol)),(.o 9 (fun _=> [.s]),.ls [.sc (.string ⟨#[]⟩)] (x.fKeys.map eStr))]
theorem szTable_ok (x:GTable) (left:Int) (h0:0≤left) (h1:left≤1048576) (hs: ∀n∈wTable x,okM n):VC Tryz.prog 275 [vTable x,int .i64 left] [(false,[(.s,.sc (.int .i64 (szL (wTable x) left)))])]:=by
 refine vc_of_ew good hm [0,1,2,4,11,17,23] Tryz.func275 rfl (by kernel_rfl) (by kernel_rfl) rfl ?_
 simp[Tryz.f275,vTable]
 have hb0:x.fName.size≤9223372036854775807:=hs _ (by simp[wTable])
 rw[wrapI (i:=left- (x.fName.size:Nat)) (by omega) (by omega)]
 refine ⟨fun hn=> ?_,fun hk0=> ?_⟩
 ·have e:szL (wTable x) left= -1:=by rw[wTable,szL,if_pos (by omega)]
  rw[e]
  try omega
 have hq0: ¬(left- (x.fName.size:Nat))<0:=by omega
 have hz0:0≤(left- (x.fName.size:Nat)):=by omega
 refine .of (szColS_ok x.fCols (left- (x.fName.size:Nat)) (by omega) (by omega) (fun n hn=>hs n (by simp[wTable,hn]))) ?_
 simp
 have hb1:=szL_le' (l:=wColS x.fCols) (left:=(left- (x.fName.size:Nat))) (by omega)
 have hc1:=szL_neg (wColS x.fCols) (left- (x.fName.size:Nat)) (by omega)
 refine ⟨fun hn=> ?_,fun hk1=> ?_⟩
 ·have e:szL (wTable x) left= -1:=by rw[wTable,szL,if_neg hq0,szL_app _ _ _ hz0,if_pos (by omega)]
  rw[e]
  try omega
 have hq1: ¬(szL (wColS x.fCols) (left- (x.fName.size:Nat)))<0:=by omega
 have hz1:0≤(szL (wColS x.fCols) (left- (x.fName.size:Nat))):=by omega
 refine .of (szStrS_ok x.fKeys (szL (wColS x.fCols) (left- (x.fName.size:Nat))) (by omega) (by omega) (fun n hn=>hs n (by simp[wTable,hn]))) ?_
 simp
 have hb2:=szL_le' (l:=wStrS x.fKeys) (left:=(szL (wColS x.fCols) (left- (x.fName.size:Nat)))) (by omega)
 have hc2:=szL_neg (wStrS x.fKeys) (szL (wColS x.fCols) (left- (x.fName.size:Nat))) (by omega)
 by_cases hn:(szL (wStrS x.fKeys) (szL (wColS x.fCols) (left- (x.fName.size:Nat))))<0
 ·have e:szL (wTable x) left= -1:=by rw[wTable,szL,if_neg hq0,szL_app _ _ _ hz0,if_neg hq1,szL_app _ _ _ hz1,if_pos hn]
  rw[e]
  try omega
 ·have e:szL (wTable x) left=(szL (wStrS x.fKeys) (szL (wColS x.fCols) (left- (x.fName.size:Nat)))):=by rw[wTable,szL,if_neg hq0,szL_app _ _ _ hz0,if_neg hq1,szL_app _ _ _ hz1,if_neg hn];rfl
  rw[e]
  try omega
theorem toTable_ok (x:GTable) (hs: ∀n∈wTable x,n≤1048576):VC Tryz.prog 294 [vTable x] [(true,mTable x)]:=by
 refine vc_of_ew good hm [0,1,2,3] Tryz.func294 rfl (by kernel_rfl) (by kernel_rfl) rfl ?_
 simp[Tryz.f294,vTable,mTable]
 refine .of (toColS_ok x.fCols (fun n hn=>hs n (by simp[wTable,hn]))) ?_
 simp[mColS]
 refine .of (toStrS_ok x.fKeys (fun n hn=>hs n (by simp[wTable,hn]))) ?_
 simp[mStrS]
theorem eqTable_ok (x:GTable) (hs: ∀n∈wTable x,n≤1048576):VC Tryz.prog 321 [vTable x,vTable x] [(false,[(.s,.sc (.bool true))])]:=by
 refine vc_of_ew good hm [0,1,2,3,4,9,15,21] Tryz.func321 rfl (by kernel_rfl) (by kernel_rfl) rfl ?_
 simp[Tryz.f321,vTable]
 refine .of (eqColS_ok x.fCols (fun n hn=>hs n (by simp[wTable,hn]))) ?_
 simp
 refine .of (eqStrS_ok x.fKeys (fun n hn=>hs n (by simp[wTable,hn]))) ?_
 simp
def vTableS (l:List GTable):SV:=list [.sc (.string ⟨#[]⟩),.ls [.sc (.string ⟨#[]⟩),.sc (.int .i64 0),.sc (.bool false),.sc (.bool false),.sc (.int .i64 0),.sc (.int .i64 0),.sc (.string ⟨#[]⟩)] [],.ls [.sc (.string ⟨#[]⟩)] []] (l.map eTable)
def wTableS (l:List GTable):List Nat:=l.length::l.flatMap wTable
def okTableS (l:List GTable):Prop:=okM l.length∧ ∀a∈l,okTable a
theorem okw_TableS (l:List GTable) (h:okTableS l): ∀n∈wTableS l,okM n:=by
 intro n hn
 rcases List.mem_cons.1 hn with rfl|hn
 ·exact h.1
 ·obtain ⟨a,ha,hn⟩:=List.mem_flatMap.1 hn
  exact okw_Table a (h.2 a ha) n hn
def mTableS (x:List GTable):ML:= [(.o 201 (fun _=> [.s,.o 236 (fun _=> [.s,.s,.s,.s,.s,.s,.s]),.o 9 (fun _=> [.s])]),.ls [.sc (.string ⟨#[]⟩),.ls [.sc (.string ⟨#[]⟩),.sc (.int .i64 0),.sc (.bool false),.sc (.bool false),.sc (.int .i64 0),.sc (.int .i64 0),.sc (.string ⟨#[]⟩)] [],.ls [.sc (.string ⟨#[]⟩)] []] (x.map eTable))]
@[simp] theorem ow_TableS (l:List GTable):Ow (.o 201 (fun _=> [.s,.o 236 (fun _=> [.s,.s,.s,.s,.s,.s,.s]),.o 9 (fun _=> [.s])])) (.ls [.sc (.string ⟨#[]⟩),.ls [.sc (.string ⟨#[]⟩),.sc (.int .i64 0),.sc (.bool false),.sc (.bool false),.sc (.int .i64 0),.sc (.int .i64 0),.sc (.string ⟨#[]⟩)] [],.ls [.sc (.string ⟨#[]⟩)] []] (l.map eTable))=True:=eq_true (Ow_rows (fun x j hj=>match j,hj with|0,_=> .sc|1,_=>of_eq_true (ow_ColS x.fCols)|2,_=>of_eq_true (ow_StrS x.fKeys)|n+3,hj=>absurd hj (by simp)) l)
@[simp] theorem full_TableS (l:List GTable):Full (.o 201 (fun _=> [.s,.o 236 (fun _=> [.s,.s,.s,.s,.s,.s,.s]),.o 9 (fun _=> [.s])])) (.ls [.sc (.string ⟨#[]⟩),.ls [.sc (.string ⟨#[]⟩),.sc (.int .i64 0),.sc (.bool false),.sc (.bool false),.sc (.int .i64 0),.sc (.int .i64 0),.sc (.string ⟨#[]⟩)] [],.ls [.sc (.string ⟨#[]⟩)] []] (l.map eTable))=True:=eq_true (Full_rows (fun x j hj=>match j,hj with|0,_=> .s|1,_=>of_eq_true (full_ColS x.fCols)|2,_=>of_eq_true (full_StrS x.fKeys)|n+3,hj=>absurd hj (by simp)) l)
theorem szTableS_ok (x:List GTable) (left:Int) (h0:0≤left) (h1:left≤1048576) (hs: ∀n∈wTableS x,okM n):VC Tryz.prog 174 [vTableS x,int .i64 left] [(false,[(.s,.sc (.int .i64 (szL (wTableS x) left)))])]:=by
 refine vc_of_ew good hm [0,1,4,11,5,15,25] Tryz.func174 rfl (by kernel_rfl) (by kernel_rfl) rfl ?_
 have hl:x.length≤9223372036854775807:=hs _ (by simp[wTableS])
 simp[Tryz.f174,vTableS]
 rw[wrapI (i:=left-x.length) (by omega) (by omega)]
 refine ⟨fun h=>by simp[wTableS,szL,h],fun hk=> ?_⟩
 refine ew_loop (fun E=> ∃i:Nat,i≤x.length∧0≤szL ((x.take i).flatMap wTable) (left-x.length)∧E= {nt:=27,sl:= [(0,vTableS x),(1,int .i64 (szL ((x.take i).flatMap wTable) (left-x.length))),(5,int .i64 i)],bx:= [],rt:= []}) (fun E=>x.length- (E.num 5).toNat) _ (Gh.keep _ [0,1,5]) ⟨0,by omega,by simp[szL];omega,by simp[szL,vTableS]⟩ ?_
 rintro E1 ⟨i,hi,hr0,rfl⟩
 have hr1:=szL_le' (l:=(x.take i).flatMap wTable) (left:=left-x.length) (by omega)
 simp[vTableS,eTable]
 refine ⟨fun h=> ?_,fun h=> ?_⟩
 ·obtain ⟨q1,q2⟩:=szF_step wTable (dTable) h (by omega:0≤left-x.length) hr0
  have hm: ∀n∈wTable (x[i]?.getD (dTable)),okM n:=fun n hn=>hs n (List.mem_cons_of_mem _ (mem_flat h hn))
  have hn1:=szL_neg (wTable (x[i]?.getD (dTable))) _ hr0
  refine ⟨h,.of (szTable_ok _ _ hr0 (by omega) hm) ?_⟩
  simp
  refine ⟨fun h2=> ?_,fun h2=> .of _ (Gh.keep _ [0,1,5]) ⟨i+1,by omega, ?_, ?_⟩ ?_⟩
  ·rw[wTableS,szL,if_neg (by omega),q1 h2]
  ·rw[q2];exact h2
  ·rw[q2];simp[wrapS (show i<9223372036854775807 by omega)]
  ·simp[wrapS (show i<9223372036854775807 by omega)];omega
 ·rw[wTableS,szL,if_neg (by omega),List.take_of_length_le (by simpa using h)]
theorem toTableS_ok (x:List GTable) (hs: ∀n∈wTableS x,n≤1048576):VC Tryz.prog 187 [vTableS x] [(false,mTableS x)]:=by
 refine vc_of_ew good hm [0,2,3,4,11] Tryz.func187 rfl (by kernel_rfl) (by kernel_rfl) rfl ?_
 have hl:x.length≤1048576:=hs _ (by simp[wTableS])
 simp[Tryz.f187,vTableS,mTableS]
 refine ⟨by omega, ?_⟩
 refine ew_loop (fun E=> ∃i:Nat,i≤x.length∧E= {nt:=23,sl:= [(0,vTableS x),(3,.v false [.r [7]]),(4,int .i64 i)],bx:= [],rt:= [(7,.o 201 (fun _=> [.s,.o 236 (fun _=> [.s,.s,.s,.s,.s,.s,.s]),.o 9 (fun _=> [.s])]),.ls [.sc (.string ⟨#[]⟩),.ls [.sc (.string ⟨#[]⟩),.sc (.int .i64 0),.sc (.bool false),.sc (.bool false),.sc (.int .i64 0),.sc (.int .i64 0),.sc (.string ⟨#[]⟩)] [],.ls [.sc (.string ⟨#[]⟩)] []] (fillR [.sc (.string ⟨#[]⟩),.ls [.sc (.string ⟨#[]⟩),.sc (.int .i64 0),.sc (.bool false),.sc (.bool false),.sc (.int .i64 0),.sc (.int .i64 0),.sc (.string ⟨#[]⟩)] [],.ls [.sc (.string ⟨#[]⟩)] []] (x.map eTable) i))]}) (fun E=>x.length- (E.num 4).toNat) _ (Gh.keep _ [0,3,4]) ⟨0,by omega,by simp[vTableS,fillR]⟩ ?_
 rintro E1 ⟨i,hi,rfl⟩
 have hfl:(fillR [.sc (.string ⟨#[]⟩),.ls [.sc (.string ⟨#[]⟩),.sc (.int .i64 0),.sc (.bool false),.sc (.bool false),.sc (.int .i64 0),.sc (.int .i64 0),.sc (.string ⟨#[]⟩)] [],.ls [.sc (.string ⟨#[]⟩)] []] (x.map eTable) i).length=x.length:=by rw[fillR_len _ _ (by simpa using hi)];simp
 simp[vTableS,eTable] at hfl⊢
 try simp[hfl]
 refine ⟨fun h=>⟨h,.of (toTable_ok (x[i]?.getD dTable) (fun n hn=>hs n (List.mem_cons_of_mem _ (mem_flat (wt:=wTable) h hn)))) ?_⟩,fun h=>fillR_all _ _ (by simpa using h)⟩
 simp[mTable]
 try simp[hfl,h]
 refine .of _ (Gh.keep _ [0,3,4]) ⟨i+1,by omega, ?_⟩ ?_
 ·have:=fillR_set [.sc (.string ⟨#[]⟩),.ls [.sc (.string ⟨#[]⟩),.sc (.int .i64 0),.sc (.bool false),.sc (.bool false),.sc (.int .i64 0),.sc (.int .i64 0),.sc (.string ⟨#[]⟩)] [],.ls [.sc (.string ⟨#[]⟩)] []] (x.map eTable) (i:=i) (by simpa using h)
  simp[wrapS (show i<9223372036854775807 by omega),vTableS,eTable,h] at this⊢
  rw[←this]
 ·simp[wrapS (show i<9223372036854775807 by omega)];omega
theorem eqTableS_ok (x:List GTable) (hs: ∀n∈wTableS x,n≤1048576):VC Tryz.prog 207 [vTableS x,vTableS x] [(false,[(.s,.sc (.bool true))])]:=by
 refine vc_of_ew good hm [0,1,4,10,5,14,26] Tryz.func207 rfl (by kernel_rfl) (by kernel_rfl) rfl ?_
 have hl:x.length≤1048576:=hs _ (by simp[wTableS])
 simp[Tryz.f207,vTableS]
 refine ew_loop (fun E=> ∃i:Nat,i≤x.length∧E= {nt:=27,sl:= [(0,vTableS x),(1,vTableS x),(5,int .i64 i)],bx:= [],rt:= []}) (fun E=>x.length- (E.num 5).toNat) _ (Gh.keep _ [0,1,5]) ⟨0,by omega,by simp[vTableS]⟩ ?_
 rintro E1 ⟨i,hi,rfl⟩
 simp[vTableS,eTable]
 intro h
 refine ⟨h,.of (eqTable_ok (x[i]?.getD dTable) (fun n hn=>hs n (List.mem_cons_of_mem _ (mem_flat (wt:=wTable) h hn)))) ?_⟩
 simp
 refine .of _ (Gh.keep _ [0,1,5]) ⟨i+1,by omega, ?_⟩ ?_
 ·simp[wrapS (show i<9223372036854775807 by omega),vTableS]
 ·simp[wrapS (show i<9223372036854775807 by omega)];omega
def ctTable (x:GTable):Nat:=1+ctColS x.fCols+ctStrS x.fKeys
def mkTable (k:Nat) (x:GTable):GTable:=⟨mkStr (k) x.fName,mkColS (k+1) x.fCols,mkStrS (k+1+ctColS x.fCols) x.fKeys⟩
theorem ctle_Table (x:GTable):ctTable x≤64+64* (wTable x).sum:=by
 have:=ctle_ColS x.fCols
 have:=ctle_StrS x.fKeys
 simp only[ctTable,wTable,List.sum_cons,List.sum_append,List.sum_nil]
 omega
def ctTableS (l:List GTable):Nat:=ctRw ctTable l
def mkTableS (k:Nat) (l:List GTable):List GTable:=mkRw mkTable ctTable k l
theorem ctle_TableS (l:List GTable):ctTableS l≤64* (wTableS l).sum:=by
 have:=ctRw_le64 ctTable wTable l (fun x _=>ctle_Table x)
 simp only[wTableS,List.sum_cons]
 exact this
theorem markTableS_ok (x:List GTable) (k:Nat) (k':Int) (hkk':k'=(k:Int)) (hk:k+ctTableS x≤4611686018427387904) (hs: ∀n∈wTableS x,n≤4611686018427387904):VM Tryz.prog 212 [.v false [.r [900]],int .i64 k'] [(.o 201 (fun _=> [.s,.o 236 (fun _=> [.s,.s,.s,.s,.s,.s,.s]),.o 9 (fun _=> [.s])]),.ls [.sc (.string ⟨#[]⟩),.ls [.sc (.string ⟨#[]⟩),.sc (.int .i64 0),.sc (.bool false),.sc (.bool false),.sc (.int .i64 0),.sc (.int .i64 0),.sc (.string ⟨#[]⟩)] [],.ls [.sc (.string ⟨#[]⟩)] []] (x.map eTable),.ls [.sc (.string ⟨#[]⟩),.ls [.sc (.string ⟨#[]⟩),.sc (.int .i64 0),.sc (.bool false),.sc (.bool false),.sc (.int .i64 0),.sc (.int .i64 0),.sc (.string ⟨#[]⟩)] [],.ls [.sc (.string ⟨#[]⟩)] []] ((mkTableS k x).map eTable))] (some ((k:Int)+(ctTableS x:Int))):=by
 subst hkk'
 have hl:x.length≤4611686018427387904:=hs _ (by simp[wTableS])
 refine vm_of_ew good hm [0,1,4,5,9,5000] Tryz.func212 rfl (by kernel_rfl) (by kernel_rfl) rfl fun pv=> ?_
 simp[Tryz.f212]
 refine ew_loop (fun E=> ∃ (i K:Nat) (M:List (GTable)),i≤x.length∧K=k+ctRw ctTable (x.take i)∧M=mixR mkTable ctTable k x i∧E= {nt:=35,sl:= [(0,.v false [.r [900]]),(1,int .i64 (K:Int)),(5,int .i64 i),(5000,.pin 900 [] (pv 900))],bx:= [],rt:= [(900,.o 201 (fun _=> [.s,.o 236 (fun _=> [.s,.s,.s,.s,.s,.s,.s]),.o 9 (fun _=> [.s])]),.ls [.sc (.string ⟨#[]⟩),.ls [.sc (.string ⟨#[]⟩),.sc (.int .i64 0),.sc (.bool false),.sc (.bool false),.sc (.int .i64 0),.sc (.int .i64 0),.sc (.string ⟨#[]⟩)] [],.ls [.sc (.string ⟨#[]⟩)] []] (M.map eTable))]}) (fun E=>x.length- (E.num 5).toNat) _ (Gh.kb _ [0,1,5,5000] [] [900]) ⟨0,k,x,by omega,by simp[ctRw],by simp[mixR_zero],by simp⟩ ?_
 rintro E1 ⟨i,K,M,hi,hK,hM,rfl⟩
 have hfl:M.length=x.length:=by rw[hM];exact mixR_len mkTable ctTable k x i
 have hct:=ctRw_le ctTable x i
 simp only[ctTableS] at hk
 simp[hfl]
 refine ⟨fun h=> ?_,fun h=> ?_⟩
 ·have hg:M[i]? =x[i]? :=by rw[hM];exact mixR_get mkTable ctTable k x i h
  have hst:=mixR_set mkTable ctTable k x i (dTable) h
  have hc1:=ctRw_lt ctTable (dTable) h
  have hs1:ctRw ctTable (x.take (i+1))=ctRw ctTable (x.take i)+ctTable (x[i]?.getD (dTable)):=ctRw_succ ctTable (dTable) h
  have hxi:x[i]? =some (x[i]?.getD (dTable)):=by rw[List.getElem?_eq_getElem h];rfl
  have hy:(x[i]?.getD (dTable))∈x:=getD_mem _ h
  rw[hxi] at hg
  rw[←hK,←hM] at hst
  generalize (x[i]?.getD (dTable))=y at*
  have hg': ∀h',M[i]'h'=y:=fun h'=>by simpa [List.getElem?_eq_getElem h'] using hg
  have hse: ∀n∈wTable y,n≤4611686018427387904:=fun n hn=>hs n (List.mem_cons_of_mem _ (List.mem_flatMap.2 ⟨y,hy,hn⟩))
  simp only[ctTable] at hc1 hs1
  simp[md,lf,hg',hg,h,hfl,eTable]
  refine .of (markText_ok _ (K) (by omega) (by omega)) ?_
  have w0:IntKind.i64.wrap ((K:Int)+1)=(K:Int)+1:=(wrapI (by omega) (by omega)).trans (by omega)
  simp[md,lf,hg',hg,h,hfl,eTable,w0]
  refine .mut (markColS_ok y.fCols (K+1) ((K:Int)+1) (by omega) (by omega) (fun n hn=>hse n (by simp[wTable,hn]))) ?_
  simp[md,lf,hg',hg,h,hfl,eTable,w0]
  refine .mut (markStrS_ok y.fKeys (K+1+ctColS y.fCols) ((K:Int)+1+(ctColS y.fCols:Int)) (by omega) (by omega) (fun n hn=>hse n (by simp[wTable,hn]))) ?_
  simp[md,lf,hg',hg,h,hfl,eTable,w0]
  have e1:(k:Int)+(ctRw ctTable (x.take (i+1)):Int)=(K:Int)+1+(ctColS y.fCols:Int)+(ctStrS y.fKeys:Int):=by omega
  refine .of _ (Gh.kb _ [0,1,5,5000] [] [900]) ⟨i+1,by omega, ?_⟩ ?_
  ·simp[wrapS (show i<9223372036854775807 by omega),e1,←hst,List.map_set,mkTable,mkStr,eTable,wrapU8]
  ·simp[wrapS (show i<9223372036854775807 by omega)];omega
 ·have:i=x.length:=by omega
  subst this
  subst hM
  subst hK
  simp[mixR_all,ctTableS,mkTableS]
theorem heldTableS_ok (x:List GTable) (k:Nat) (k':Int) (hkk':k'=(k:Int)) (hk:k+ctTableS x≤4611686018427387904) (hs: ∀n∈wTableS x,n≤4611686018427387904):VC Tryz.prog 358 [vTableS (mkTableS k x),int .i64 k'] [(false,[(.s,.sc (.int .i64 ((k:Int)+(ctTableS x:Int))))])]:=by
 subst hkk'
 have hl:x.length≤4611686018427387904:=hs _ (by simp[wTableS])
 refine vc_of_ew good hm [0,1,4,5,9,19,30,39] Tryz.func358 rfl (by kernel_rfl) (by kernel_rfl) rfl ?_
 simp[Tryz.f358,vTableS]
 refine ew_loop (fun E=> ∃ (i K:Nat),i≤x.length∧K=k+ctRw ctTable (x.take i)∧E= {nt:=41,sl:= [(0,vTableS (mkTableS k x)),(1,int .i64 (K:Int)),(5,int .i64 i)],bx:= [],rt:= []}) (fun E=>x.length- (E.num 5).toNat) _ (Gh.kb _ [0,1,5] [] []) ⟨0,k,by omega,by simp[ctRw],by simp[vTableS]⟩ ?_
 rintro E1 ⟨i,K,hi,hK,rfl⟩
 have hfl:(mkTableS k x).length=x.length:=mkRw_len mkTable ctTable k x
 have hct:=ctRw_le ctTable x i
 simp only[ctTableS] at hk
 simp[vTableS,hfl]
 refine ⟨fun h=> ?_,fun h=> ?_⟩
 ·have hg:(mkTableS k x)[i]? =some (mkTable (k+ctRw ctTable (x.take i)) (x[i]?.getD (dTable))):=mkRw_get mkTable ctTable (dTable) k x i h
  have hc1:=ctRw_lt ctTable (dTable) h
  have hs1:ctRw ctTable (x.take (i+1))=ctRw ctTable (x.take i)+ctTable (x[i]?.getD (dTable)):=ctRw_succ ctTable (dTable) h
  have hy:(x[i]?.getD (dTable))∈x:=getD_mem _ h
  rw[←hK] at hg
  generalize (x[i]?.getD (dTable))=y at*
  have hg2: ∀hh:i< (mkTableS k x).length,(mkTableS k x)[i]=mkTable K y:=fun hh=>(List.getElem_eq_iff hh).2 hg
  have hse: ∀n∈wTable y,n≤4611686018427387904:=fun n hn=>hs n (List.mem_cons_of_mem _ (List.mem_flatMap.2 ⟨y,hy,hn⟩))
  simp only[ctTable] at hc1 hs1
  simp[md,lf,hg,hg2,h,hfl,eTable,mkTable,mkStr,wrapU8]
  refine .of (markText_ok _ (K) (by omega) (by omega)) ?_
  have w0:IntKind.i64.wrap ((K:Int)+1)=(K:Int)+1:=(wrapI (by omega) (by omega)).trans (by omega)
  simp[md,lf,hg,hg2,h,hfl,eTable,mkTable,mkStr,wrapU8,w0]
  refine .of (heldColS_ok y.fCols (K+1) _ (by omega) (by omega) (fun n hn=>hse n (by simp[wTable,hn]))) ?_
  have v1: ¬((K:Int)+1+(ctColS y.fCols:Int)<0):=by omega
  have v2:0≤(K:Int)+1+(ctColS y.fCols:Int):=by omega
  simp[md,lf,hg,hg2,h,hfl,eTable,mkTable,mkStr,wrapU8,w0,v1,v2]
  refine .of (heldStrS_ok y.fKeys (K+1+ctColS y.fCols) _ (by omega) (by omega) (fun n hn=>hse n (by simp[wTable,hn]))) ?_
  have v3: ¬((K:Int)+1+(ctColS y.fCols:Int)+(ctStrS y.fKeys:Int)<0):=by omega
  have v4:0≤(K:Int)+1+(ctColS y.fCols:Int)+(ctStrS y.fKeys:Int):=by omega
  simp[md,lf,hg,hg2,h,hfl,eTable,mkTable,mkStr,wrapU8,w0,v1,v2,v3,v4]
  have e1:(k:Int)+(ctRw ctTable (x.take (i+1)):Int)=(K:Int)+1+(ctColS y.fCols:Int)+(ctStrS y.fKeys:Int):=by omega
  refine .of _ (Gh.kb _ [0,1,5] [] []) ⟨i+1,by omega, ?_⟩ ?_
  ·simp[wrapS (show i<9223372036854775807 by omega),e1,vTableS]
  ·simp[wrapS (show i<9223372036854775807 by omega)];omega
 ·have:i=x.length:=by omega
  subst this
  subst hK
  simp[ctTableS]
structure GCat where
 fTables:List GTable
def cCat (x:GCat):List LV:= [.s (.ls [.sc (.string ⟨#[]⟩),.ls [.sc (.string ⟨#[]⟩),.sc (.int .i64 0),.sc (.bool false),.sc (.bool false),.sc (.int .i64 0),.sc (.int .i64 0),.sc (.string ⟨#[]⟩)] [],.ls [.sc (.string ⟨#[]⟩)] []] (x.fTables.map eTable))]
def vCat (x:GCat):SV:= .v true [.s (.ls [.sc (.string ⟨#[]⟩),.ls [.sc (.string ⟨#[]⟩),.sc (.int .i64 0),.sc (.bool false),.sc (.bool false),.sc (.int .i64 0),.sc (.int .i64 0),.sc (.string ⟨#[]⟩)] [],.ls [.sc (.string ⟨#[]⟩)] []] (x.fTables.map eTable))]
def dCat:GCat:=⟨[]⟩
def wCat (x:GCat):List Nat:=wTableS x.fTables++([])
def okCat (x:GCat):Prop:=okTableS x.fTables∧True
theorem okw_Cat (x:GCat) (h:okCat x): ∀n∈wCat x,okM n:=by
 obtain ⟨h0,_⟩:=h
 intro n hn
 simp only[wCat,List.mem_cons,List.mem_append,List.not_mem_nil,or_false,false_or] at hn
 rcases hn with hn
 ·exact okw_TableS _ h0 n hn
def mCat (x:GCat):ML:= [(.o 201 (fun _=> [.s,.o 236 (fun _=> [.s,.s,.s,.s,.s,.s,.s]),.o 9 (fun _=> [.s])]),.ls [.sc (.string ⟨#[]⟩),.ls [.sc (.string ⟨#[]⟩),.sc (.int .i64 0),.sc (.bool false),.sc (.bool false),.sc (.int .i64 0),.sc (.int .i64 0),.sc (.string ⟨#[]⟩)] [],.ls [.sc (.string ⟨#[]⟩)] []] (x.fTables.map eTable))]
theorem szCat_ok (x:GCat) (left:Int) (h0:0≤left) (h1:left≤1048576) (hs: ∀n∈wCat x,okM n):VC Tryz.prog 82 [vCat x,int .i64 left] [(false,[(.s,.sc (.int .i64 (szL (wCat x) left)))])]:=by
 refine vc_of_ew good hm [0,1,2,4,10] Tryz.func82 rfl (by kernel_rfl) (by kernel_rfl) rfl ?_
 simp[Tryz.f82,vCat]
 refine .of (szTableS_ok x.fTables left (by omega) (by omega) (fun n hn=>hs n (by simp[wCat,hn]))) ?_
 simp
 have hb0:=szL_le' (l:=wTableS x.fTables) (left:=left) (by omega)
 have hc0:=szL_neg (wTableS x.fTables) left (by omega)
 by_cases hn:(szL (wTableS x.fTables) left)<0
 ·have e:szL (wCat x) left= -1:=by rw[wCat,szL_app _ _ _ h0,if_pos hn]
  rw[e]
  try omega
 ·have e:szL (wCat x) left=(szL (wTableS x.fTables) left):=by rw[wCat,szL_app _ _ _ h0,if_neg hn];rfl
  rw[e]
  try omega
theorem toCat_ok (x:GCat) (hs: ∀n∈wCat x,n≤1048576):VC Tryz.prog 89 [vCat x] [(true,mCat x)]:=by
 refine vc_of_ew good hm [0,1,2,3] Tryz.func89 rfl (by kernel_rfl) (by kernel_rfl) rfl ?_
 simp[Tryz.f89,vCat,mCat]
 refine .of (toTableS_ok x.fTables (fun n hn=>hs n (by simp[wCat,hn]))) ?_
 simp[mTableS]
theorem eqCat_ok (x:GCat) (hs: ∀n∈wCat x,n≤1048576):VC Tryz.prog 98 [vCat x,vCat x] [(false,[(.s,.sc (.bool true))])]:=by
 refine vc_of_ew good hm [0,1,2,3,4,10] Tryz.func98 rfl (by kernel_rfl) (by kernel_rfl) rfl ?_
 simp[Tryz.f98,vCat]
 refine .of (eqTableS_ok x.fTables (fun n hn=>hs n (by simp[wCat,hn]))) ?_
 simp
def cvCat (x:GCat):Nat:=ctTableS x.fTables
def mvCat (k:Nat) (x:GCat):GCat:= {x with fTables:=mkTableS (k) x.fTables}
theorem cvle_Cat (x:GCat):cvCat x≤64* (wCat x).sum:=by
 have:=ctle_TableS x.fTables
 simp only[cvCat,wCat,List.sum_cons,List.sum_append,List.sum_nil]
 omega
theorem markVCat_ok (x:GCat) (k:Nat) (k':Int) (hkk':k'=(k:Int)) (hk:k+cvCat x≤4611686018427387904) (hs: ∀n∈wCat x,n≤4611686018427387904):VM Tryz.prog 101 [.v true [.r [900]],int .i64 k'] [(.o 201 (fun _=> [.s,.o 236 (fun _=> [.s,.s,.s,.s,.s,.s,.s]),.o 9 (fun _=> [.s])]),.ls [.sc (.string ⟨#[]⟩),.ls [.sc (.string ⟨#[]⟩),.sc (.int .i64 0),.sc (.bool false),.sc (.bool false),.sc (.int .i64 0),.sc (.int .i64 0),.sc (.string ⟨#[]⟩)] [],.ls [.sc (.string ⟨#[]⟩)] []] (x.fTables.map eTable),.ls [.sc (.string ⟨#[]⟩),.ls [.sc (.string ⟨#[]⟩),.sc (.int .i64 0),.sc (.bool false),.sc (.bool false),.sc (.int .i64 0),.sc (.int .i64 0),.sc (.string ⟨#[]⟩)] [],.ls [.sc (.string ⟨#[]⟩)] []] ((mvCat k x).fTables.map eTable))] (some ((k:Int)+(cvCat x:Int))):=by
 subst hkk'
 refine vm_of_ew good hm [0,1,2,4,5000] Tryz.func101 rfl (by kernel_rfl) (by kernel_rfl) rfl fun pv=> ?_
 simp only[cvCat] at hk
 simp[Tryz.f101,mvCat,cvCat]
 refine .mut (markTableS_ok x.fTables (k) ((k:Int)) (by omega) (by omega) (fun n hn=>hs n (by simp[wCat,hn]))) ?_
 simp[mvCat,mvDdl,mvRow,mvStmt,mvBatch]
theorem heldVCat_ok (x:GCat) (k:Nat) (k':Int) (hkk':k'=(k:Int)) (hk:k+cvCat x≤4611686018427387904) (hs: ∀n∈wCat x,n≤4611686018427387904):VC Tryz.prog 254 [vCat (mvCat k x),int .i64 k'] [(false,[(.s,.sc (.int .i64 ((k:Int)+(cvCat x:Int))))])]:=by
 subst hkk'
 simp only[cvCat] at hk
 refine vc_of_ew good hm [0,1,2,4,10] Tryz.func254 rfl (by kernel_rfl) (by kernel_rfl) rfl ?_
 simp[Tryz.f254,vCat,mvCat,cvCat]
 refine .of (heldTableS_ok x.fTables (k) _ (by omega) (by omega) (fun n hn=>hs n (by simp[wCat,hn]))) ?_
 have v0: ¬((k:Int)+(ctTableS x.fTables:Int)<0):=by omega
 have v1:0≤(k:Int)+(ctTableS x.fTables:Int):=by omega
 simp[v0,v1]
def vRowS (l:List GRow):SV:=list [.ls [.sc (.int .i64 0),.sc (.int .i64 0),.sc (.string ⟨#[]⟩)] []] (l.map eRow)
def wRowS (l:List GRow):List Nat:=l.length::l.flatMap wRow
def okRowS (l:List GRow):Prop:=okM l.length∧ ∀a∈l,okRow a
theorem okw_RowS (l:List GRow) (h:okRowS l): ∀n∈wRowS l,okM n:=by
 intro n hn
 rcases List.mem_cons.1 hn with rfl|hn
 ·exact h.1
 ·obtain ⟨a,ha,hn⟩:=List.mem_flatMap.1 hn
  exact okw_Row a (h.2 a ha) n hn
def mRowS (x:List GRow):ML:= [(.o 120 (fun _=> [.o 234 (fun _=> [.s,.s,.s])]),.ls [.ls [.sc (.int .i64 0),.sc (.int .i64 0),.sc (.string ⟨#[]⟩)] []] (x.map eRow))]
@[simp] theorem ow_RowS (l:List GRow):Ow (.o 120 (fun _=> [.o 234 (fun _=> [.s,.s,.s])])) (.ls [.ls [.sc (.int .i64 0),.sc (.int .i64 0),.sc (.string ⟨#[]⟩)] []] (l.map eRow))=True:=eq_true (Ow_rows (fun x j hj=>match j,hj with|0,_=>of_eq_true (ow_ValS x.fVals)|n+1,hj=>absurd hj (by simp)) l)
@[simp] theorem full_RowS (l:List GRow):Full (.o 120 (fun _=> [.o 234 (fun _=> [.s,.s,.s])])) (.ls [.ls [.sc (.int .i64 0),.sc (.int .i64 0),.sc (.string ⟨#[]⟩)] []] (l.map eRow))=True:=eq_true (Full_rows (fun x j hj=>match j,hj with|0,_=>of_eq_true (full_ValS x.fVals)|n+1,hj=>absurd hj (by simp)) l)
theorem szRowS_ok (x:List GRow) (left:Int) (h0:0≤left) (h1:left≤1048576) (hs: ∀n∈wRowS x,okM n):VC Tryz.prog 276 [vRowS x,int .i64 left] [(false,[(.s,.sc (.int .i64 (szL (wRowS x) left)))])]:=by
 refine vc_of_ew good hm [0,1,4,11,5,15,25] Tryz.func276 rfl (by kernel_rfl) (by kernel_rfl) rfl ?_
 have hl:x.length≤9223372036854775807:=hs _ (by simp[wRowS])
 simp[Tryz.f276,vRowS]
 rw[wrapI (i:=left-x.length) (by omega) (by omega)]
 refine ⟨fun h=>by simp[wRowS,szL,h],fun hk=> ?_⟩
 refine ew_loop (fun E=> ∃i:Nat,i≤x.length∧0≤szL ((x.take i).flatMap wRow) (left-x.length)∧E= {nt:=27,sl:= [(0,vRowS x),(1,int .i64 (szL ((x.take i).flatMap wRow) (left-x.length))),(5,int .i64 i)],bx:= [],rt:= []}) (fun E=>x.length- (E.num 5).toNat) _ (Gh.keep _ [0,1,5]) ⟨0,by omega,by simp[szL];omega,by simp[szL,vRowS]⟩ ?_
 rintro E1 ⟨i,hi,hr0,rfl⟩
 have hr1:=szL_le' (l:=(x.take i).flatMap wRow) (left:=left-x.length) (by omega)
 simp[vRowS,eRow]
 refine ⟨fun h=> ?_,fun h=> ?_⟩
 ·obtain ⟨q1,q2⟩:=szF_step wRow (dRow) h (by omega:0≤left-x.length) hr0
  have hm: ∀n∈wRow (x[i]?.getD (dRow)),okM n:=fun n hn=>hs n (List.mem_cons_of_mem _ (mem_flat h hn))
  have hn1:=szL_neg (wRow (x[i]?.getD (dRow))) _ hr0
  refine ⟨h,.of (szRow_ok _ _ hr0 (by omega) hm) ?_⟩
  simp
  refine ⟨fun h2=> ?_,fun h2=> .of _ (Gh.keep _ [0,1,5]) ⟨i+1,by omega, ?_, ?_⟩ ?_⟩
  ·rw[wRowS,szL,if_neg (by omega),q1 h2]
  ·rw[q2];exact h2
  ·rw[q2];simp[wrapS (show i<9223372036854775807 by omega)]
  ·simp[wrapS (show i<9223372036854775807 by omega)];omega
 ·rw[wRowS,szL,if_neg (by omega),List.take_of_length_le (by simpa using h)]
theorem toRowS_ok (x:List GRow) (hs: ∀n∈wRowS x,n≤1048576):VC Tryz.prog 295 [vRowS x] [(false,mRowS x)]:=by
 refine vc_of_ew good hm [0,2,3,4,11] Tryz.func295 rfl (by kernel_rfl) (by kernel_rfl) rfl ?_
 have hl:x.length≤1048576:=hs _ (by simp[wRowS])
 simp[Tryz.f295,vRowS,mRowS]
 refine ⟨by omega, ?_⟩
 refine ew_loop (fun E=> ∃i:Nat,i≤x.length∧E= {nt:=23,sl:= [(0,vRowS x),(3,.v false [.r [7]]),(4,int .i64 i)],bx:= [],rt:= [(7,.o 120 (fun _=> [.o 234 (fun _=> [.s,.s,.s])]),.ls [.ls [.sc (.int .i64 0),.sc (.int .i64 0),.sc (.string ⟨#[]⟩)] []] (fillR [.ls [.sc (.int .i64 0),.sc (.int .i64 0),.sc (.string ⟨#[]⟩)] []] (x.map eRow) i))]}) (fun E=>x.length- (E.num 4).toNat) _ (Gh.keep _ [0,3,4]) ⟨0,by omega,by simp[vRowS,fillR]⟩ ?_
 rintro E1 ⟨i,hi,rfl⟩
 have hfl:(fillR [.ls [.sc (.int .i64 0),.sc (.int .i64 0),.sc (.string ⟨#[]⟩)] []] (x.map eRow) i).length=x.length:=by rw[fillR_len _ _ (by simpa using hi)];simp
 simp[vRowS,eRow] at hfl⊢
 try simp[hfl]
 refine ⟨fun h=>⟨h,.of (toRow_ok (x[i]?.getD dRow) (fun n hn=>hs n (List.mem_cons_of_mem _ (mem_flat (wt:=wRow) h hn)))) ?_⟩,fun h=>fillR_all _ _ (by simpa using h)⟩
 simp[mRow]
 try simp[hfl,h]
 refine .of _ (Gh.keep _ [0,3,4]) ⟨i+1,by omega, ?_⟩ ?_
 ·have:=fillR_set [.ls [.sc (.int .i64 0),.sc (.int .i64 0),.sc (.string ⟨#[]⟩)] []] (x.map eRow) (i:=i) (by simpa using h)
  simp[wrapS (show i<9223372036854775807 by omega),vRowS,eRow,h] at this⊢
  rw[←this]
 ·simp[wrapS (show i<9223372036854775807 by omega)];omega
theorem eqRowS_ok (x:List GRow) (hs: ∀n∈wRowS x,n≤1048576):VC Tryz.prog 322 [vRowS x,vRowS x] [(false,[(.s,.sc (.bool true))])]:=by
 refine vc_of_ew good hm [0,1,4,10,5,14,26] Tryz.func322 rfl (by kernel_rfl) (by kernel_rfl) rfl ?_
 have hl:x.length≤1048576:=hs _ (by simp[wRowS])
 simp[Tryz.f322,vRowS]
 refine ew_loop (fun E=> ∃i:Nat,i≤x.length∧E= {nt:=27,sl:= [(0,vRowS x),(1,vRowS x),(5,int .i64 i)],bx:= [],rt:= []}) (fun E=>x.length- (E.num 5).toNat) _ (Gh.keep _ [0,1,5]) ⟨0,by omega,by simp[vRowS]⟩ ?_
 rintro E1 ⟨i,hi,rfl⟩
 simp[vRowS,eRow]
 intro h
 refine ⟨h,.of (eqRow_ok (x[i]?.getD dRow) (fun n hn=>hs n (List.mem_cons_of_mem _ (mem_flat (wt:=wRow) h hn)))) ?_⟩
 simp
 refine .of _ (Gh.keep _ [0,1,5]) ⟨i+1,by omega, ?_⟩ ?_
 ·simp[wrapS (show i<9223372036854775807 by omega),vRowS]
 ·simp[wrapS (show i<9223372036854775807 by omega)];omega
def ctRow (x:GRow):Nat:=0+ctValS x.fVals
def mkRow (k:Nat) (x:GRow):GRow:=⟨mkValS (k) x.fVals⟩
theorem ctle_Row (x:GRow):ctRow x≤64+64* (wRow x).sum:=by
 have:=ctle_ValS x.fVals
 simp only[ctRow,wRow,List.sum_cons,List.sum_append,List.sum_nil]
 omega
def ctRowS (l:List GRow):Nat:=ctRw ctRow l
def mkRowS (k:Nat) (l:List GRow):List GRow:=mkRw mkRow ctRow k l
theorem ctle_RowS (l:List GRow):ctRowS l≤64* (wRowS l).sum:=by
 have:=ctRw_le64 ctRow wRow l (fun x _=>ctle_Row x)
 simp only[wRowS,List.sum_cons]
 exact this
theorem markRowS_ok (x:List GRow) (k:Nat) (k':Int) (hkk':k'=(k:Int)) (hk:k+ctRowS x≤4611686018427387904) (hs: ∀n∈wRowS x,n≤4611686018427387904):VM Tryz.prog 213 [.v false [.r [900]],int .i64 k'] [(.o 120 (fun _=> [.o 234 (fun _=> [.s,.s,.s])]),.ls [.ls [.sc (.int .i64 0),.sc (.int .i64 0),.sc (.string ⟨#[]⟩)] []] (x.map eRow),.ls [.ls [.sc (.int .i64 0),.sc (.int .i64 0),.sc (.string ⟨#[]⟩)] []] ((mkRowS k x).map eRow))] (some ((k:Int)+(ctRowS x:Int))):=by
 subst hkk'
 have hl:x.length≤4611686018427387904:=hs _ (by simp[wRowS])
 refine vm_of_ew good hm [0,1,4,5,9,5000] Tryz.func213 rfl (by kernel_rfl) (by kernel_rfl) rfl fun pv=> ?_
 simp[Tryz.f213]
 refine ew_loop (fun E=> ∃ (i K:Nat) (M:List (GRow)),i≤x.length∧K=k+ctRw ctRow (x.take i)∧M=mixR mkRow ctRow k x i∧E= {nt:=20,sl:= [(0,.v false [.r [900]]),(1,int .i64 (K:Int)),(5,int .i64 i),(5000,.pin 900 [] (pv 900))],bx:= [],rt:= [(900,.o 120 (fun _=> [.o 234 (fun _=> [.s,.s,.s])]),.ls [.ls [.sc (.int .i64 0),.sc (.int .i64 0),.sc (.string ⟨#[]⟩)] []] (M.map eRow))]}) (fun E=>x.length- (E.num 5).toNat) _ (Gh.kb _ [0,1,5,5000] [] [900]) ⟨0,k,x,by omega,by simp[ctRw],by simp[mixR_zero],by simp⟩ ?_
 rintro E1 ⟨i,K,M,hi,hK,hM,rfl⟩
 have hfl:M.length=x.length:=by rw[hM];exact mixR_len mkRow ctRow k x i
 have hct:=ctRw_le ctRow x i
 simp only[ctRowS] at hk
 simp[hfl]
 refine ⟨fun h=> ?_,fun h=> ?_⟩
 ·have hg:M[i]? =x[i]? :=by rw[hM];exact mixR_get mkRow ctRow k x i h
  have hst:=mixR_set mkRow ctRow k x i (dRow) h
  have hc1:=ctRw_lt ctRow (dRow) h
  have hs1:ctRw ctRow (x.take (i+1))=ctRw ctRow (x.take i)+ctRow (x[i]?.getD (dRow)):=ctRw_succ ctRow (dRow) h
  have hxi:x[i]? =some (x[i]?.getD (dRow)):=by rw[List.getElem?_eq_getElem h];rfl
  have hy:(x[i]?.getD (dRow))∈x:=getD_mem _ h
  rw[hxi] at hg
  rw[←hK,←hM] at hst
  generalize (x[i]?.getD (dRow))=y at*
  have hg': ∀h',M[i]'h'=y:=fun h'=>by simpa [List.getElem?_eq_getElem h'] using hg
  have hse: ∀n∈wRow y,n≤4611686018427387904:=fun n hn=>hs n (List.mem_cons_of_mem _ (List.mem_flatMap.2 ⟨y,hy,hn⟩))
  simp only[ctRow] at hc1 hs1
  simp[md,lf,hg',hg,h,hfl,eRow]
  refine .mut (markValS_ok y.fVals (K) ((K:Int)) (by omega) (by omega) (fun n hn=>hse n (by simp[wRow,hn]))) ?_
  simp[md,lf,hg',hg,h,hfl,eRow]
  have e1:(k:Int)+(ctRw ctRow (x.take (i+1)):Int)=(K:Int)+(ctValS y.fVals:Int):=by omega
  refine .of _ (Gh.kb _ [0,1,5,5000] [] [900]) ⟨i+1,by omega, ?_⟩ ?_
  ·simp[wrapS (show i<9223372036854775807 by omega),e1,←hst,List.map_set,mkRow,eRow,wrapU8]
  ·simp[wrapS (show i<9223372036854775807 by omega)];omega
 ·have:i=x.length:=by omega
  subst this
  subst hM
  subst hK
  simp[mixR_all,ctRowS,mkRowS]
theorem heldRowS_ok (x:List GRow) (k:Nat) (k':Int) (hkk':k'=(k:Int)) (hk:k+ctRowS x≤4611686018427387904) (hs: ∀n∈wRowS x,n≤4611686018427387904):VC Tryz.prog 359 [vRowS (mkRowS k x),int .i64 k'] [(false,[(.s,.sc (.int .i64 ((k:Int)+(ctRowS x:Int))))])]:=by
 subst hkk'
 have hl:x.length≤4611686018427387904:=hs _ (by simp[wRowS])
 refine vc_of_ew good hm [0,1,4,5,9,20] Tryz.func359 rfl (by kernel_rfl) (by kernel_rfl) rfl ?_
 simp[Tryz.f359,vRowS]
 refine ew_loop (fun E=> ∃ (i K:Nat),i≤x.length∧K=k+ctRw ctRow (x.take i)∧E= {nt:=22,sl:= [(0,vRowS (mkRowS k x)),(1,int .i64 (K:Int)),(5,int .i64 i)],bx:= [],rt:= []}) (fun E=>x.length- (E.num 5).toNat) _ (Gh.kb _ [0,1,5] [] []) ⟨0,k,by omega,by simp[ctRw],by simp[vRowS]⟩ ?_
 rintro E1 ⟨i,K,hi,hK,rfl⟩
 have hfl:(mkRowS k x).length=x.length:=mkRw_len mkRow ctRow k x
 have hct:=ctRw_le ctRow x i
 simp only[ctRowS] at hk
 simp[vRowS,hfl]
 refine ⟨fun h=> ?_,fun h=> ?_⟩
 ·have hg:(mkRowS k x)[i]? =some (mkRow (k+ctRw ctRow (x.take i)) (x[i]?.getD (dRow))):=mkRw_get mkRow ctRow (dRow) k x i h
  have hc1:=ctRw_lt ctRow (dRow) h
  have hs1:ctRw ctRow (x.take (i+1))=ctRw ctRow (x.take i)+ctRow (x[i]?.getD (dRow)):=ctRw_succ ctRow (dRow) h
  have hy:(x[i]?.getD (dRow))∈x:=getD_mem _ h
  rw[←hK] at hg
  generalize (x[i]?.getD (dRow))=y at*
  have hg2: ∀hh:i< (mkRowS k x).length,(mkRowS k x)[i]=mkRow K y:=fun hh=>(List.getElem_eq_iff hh).2 hg
  have hse: ∀n∈wRow y,n≤4611686018427387904:=fun n hn=>hs n (List.mem_cons_of_mem _ (List.mem_flatMap.2 ⟨y,hy,hn⟩))
  simp only[ctRow] at hc1 hs1
  simp[md,lf,hg,hg2,h,hfl,eRow,mkRow,wrapU8]
  refine .of (heldValS_ok y.fVals (K) _ (by omega) (by omega) (fun n hn=>hse n (by simp[wRow,hn]))) ?_
  have v0: ¬((K:Int)+(ctValS y.fVals:Int)<0):=by omega
  have v1:0≤(K:Int)+(ctValS y.fVals:Int):=by omega
  simp[md,lf,hg,hg2,h,hfl,eRow,mkRow,wrapU8,v0,v1]
  have e1:(k:Int)+(ctRw ctRow (x.take (i+1)):Int)=(K:Int)+(ctValS y.fVals:Int):=by omega
  refine .of _ (Gh.kb _ [0,1,5] [] []) ⟨i+1,by omega, ?_⟩ ?_
  ·simp[wrapS (show i<9223372036854775807 by omega),e1,vRowS]
  ·simp[wrapS (show i<9223372036854775807 by omega)];omega
 ·have:i=x.length:=by omega
  subst this
  subst hK
  simp[ctRowS]
structure GRows where
 fRows:List GRow
def eRows (x:GRows):List Lf:= [.ls [.ls [.sc (.int .i64 0),.sc (.int .i64 0),.sc (.string ⟨#[]⟩)] []] (x.fRows.map eRow)]
def vRows (x:GRows):SV:= .v true [.s (.ls [.ls [.sc (.int .i64 0),.sc (.int .i64 0),.sc (.string ⟨#[]⟩)] []] (x.fRows.map eRow))]
def dRows:GRows:=⟨[]⟩
@[simp] theorem row_Rows (l:List GRows) (i:Nat):(Option.map eRows l[i]?).getD [.ls [.ls [.sc (.int .i64 0),.sc (.int .i64 0),.sc (.string ⟨#[]⟩)] []] []]=eRows (l[i]?.getD dRows):=by cases l[i]? <;>rfl
def wRows (x:GRows):List Nat:=wRowS x.fRows++([])
def okRows (x:GRows):Prop:=okRowS x.fRows∧True
theorem okw_Rows (x:GRows) (h:okRows x): ∀n∈wRows x,okM n:=by
 obtain ⟨h0,_⟩:=h
 intro n hn
 simp only[wRows,List.mem_cons,List.mem_append,List.not_mem_nil,or_false,false_or] at hn
 rcases hn with hn
 ·exact okw_RowS _ h0 n hn
theorem fit_Rows (ls:List Lf) (h:Fit ti ck 224 ls): ∃x:GRows,ls=eRows x∧okRows x:=by
 obtain ⟨c0,r0,rfl,h0,g0⟩:=All2.cons_inv h
 obtain ⟨a0,rfl,b0,b0'⟩:=h0.list eRow okRow fit_Row
 obtain rfl:=All2.nil_inv g0
 exact ⟨⟨a0⟩,rfl,⟨⟨b0,b0'⟩,trivial⟩⟩
def mRows (x:GRows):ML:= [(.o 120 (fun _=> [.o 234 (fun _=> [.s,.s,.s])]),.ls [.ls [.sc (.int .i64 0),.sc (.int .i64 0),.sc (.string ⟨#[]⟩)] []] (x.fRows.map eRow))]
theorem szRows_ok (x:GRows) (left:Int) (h0:0≤left) (h1:left≤1048576) (hs: ∀n∈wRows x,okM n):VC Tryz.prog 175 [vRows x,int .i64 left] [(false,[(.s,.sc (.int .i64 (szL (wRows x) left)))])]:=by
 refine vc_of_ew good hm [0,1,2,4,10] Tryz.func175 rfl (by kernel_rfl) (by kernel_rfl) rfl ?_
 simp[Tryz.f175,vRows]
 refine .of (szRowS_ok x.fRows left (by omega) (by omega) (fun n hn=>hs n (by simp[wRows,hn]))) ?_
 simp
 have hb0:=szL_le' (l:=wRowS x.fRows) (left:=left) (by omega)
 have hc0:=szL_neg (wRowS x.fRows) left (by omega)
 by_cases hn:(szL (wRowS x.fRows) left)<0
 ·have e:szL (wRows x) left= -1:=by rw[wRows,szL_app _ _ _ h0,if_pos hn]
  rw[e]
  try omega
 ·have e:szL (wRows x) left=(szL (wRowS x.fRows) left):=by rw[wRows,szL_app _ _ _ h0,if_neg hn];rfl
  rw[e]
  try omega
theorem toRows_ok (x:GRows) (hs: ∀n∈wRows x,n≤1048576):VC Tryz.prog 188 [vRows x] [(true,mRows x)]:=by
 refine vc_of_ew good hm [0,1,2,3] Tryz.func188 rfl (by kernel_rfl) (by kernel_rfl) rfl ?_
 simp[Tryz.f188,vRows,mRows]
 refine .of (toRowS_ok x.fRows (fun n hn=>hs n (by simp[wRows,hn]))) ?_
 simp[mRowS]
theorem eqRows_ok (x:GRows) (hs: ∀n∈wRows x,n≤1048576):VC Tryz.prog 208 [vRows x,vRows x] [(false,[(.s,.sc (.bool true))])]:=by
 refine vc_of_ew good hm [0,1,2,3,4,10] Tryz.func208 rfl (by kernel_rfl) (by kernel_rfl) rfl ?_
 simp[Tryz.f208,vRows]
 refine .of (eqRowS_ok x.fRows (fun n hn=>hs n (by simp[wRows,hn]))) ?_
 simp
def vRowsS (l:List GRows):SV:=list [.ls [.ls [.sc (.int .i64 0),.sc (.int .i64 0),.sc (.string ⟨#[]⟩)] []] []] (l.map eRows)
def wRowsS (l:List GRows):List Nat:=l.length::l.flatMap wRows
def okRowsS (l:List GRows):Prop:=okM l.length∧ ∀a∈l,okRows a
theorem okw_RowsS (l:List GRows) (h:okRowsS l): ∀n∈wRowsS l,okM n:=by
 intro n hn
 rcases List.mem_cons.1 hn with rfl|hn
 ·exact h.1
 ·obtain ⟨a,ha,hn⟩:=List.mem_flatMap.1 hn
  exact okw_Rows a (h.2 a ha) n hn
def mRowsS (x:List GRows):ML:= [(.o 205 (fun _=> [.o 120 (fun _=> [.o 234 (fun _=> [.s,.s,.s])])]),.ls [.ls [.ls [.sc (.int .i64 0),.sc (.int .i64 0),.sc (.string ⟨#[]⟩)] []] []] (x.map eRows))]
@[simp] theorem ow_RowsS (l:List GRows):Ow (.o 205 (fun _=> [.o 120 (fun _=> [.o 234 (fun _=> [.s,.s,.s])])])) (.ls [.ls [.ls [.sc (.int .i64 0),.sc (.int .i64 0),.sc (.string ⟨#[]⟩)] []] []] (l.map eRows))=True:=eq_true (Ow_rows (fun x j hj=>match j,hj with|0,_=>of_eq_true (ow_RowS x.fRows)|n+1,hj=>absurd hj (by simp)) l)
@[simp] theorem full_RowsS (l:List GRows):Full (.o 205 (fun _=> [.o 120 (fun _=> [.o 234 (fun _=> [.s,.s,.s])])])) (.ls [.ls [.ls [.sc (.int .i64 0),.sc (.int .i64 0),.sc (.string ⟨#[]⟩)] []] []] (l.map eRows))=True:=eq_true (Full_rows (fun x j hj=>match j,hj with|0,_=>of_eq_true (full_RowS x.fRows)|n+1,hj=>absurd hj (by simp)) l)
theorem szRowsS_ok (x:List GRows) (left:Int) (h0:0≤left) (h1:left≤1048576) (hs: ∀n∈wRowsS x,okM n):VC Tryz.prog 83 [vRowsS x,int .i64 left] [(false,[(.s,.sc (.int .i64 (szL (wRowsS x) left)))])]:=by
 refine vc_of_ew good hm [0,1,4,11,5,15,25] Tryz.func83 rfl (by kernel_rfl) (by kernel_rfl) rfl ?_
 have hl:x.length≤9223372036854775807:=hs _ (by simp[wRowsS])
 simp[Tryz.f83,vRowsS]
 rw[wrapI (i:=left-x.length) (by omega) (by omega)]
 refine ⟨fun h=>by simp[wRowsS,szL,h],fun hk=> ?_⟩
 refine ew_loop (fun E=> ∃i:Nat,i≤x.length∧0≤szL ((x.take i).flatMap wRows) (left-x.length)∧E= {nt:=27,sl:= [(0,vRowsS x),(1,int .i64 (szL ((x.take i).flatMap wRows) (left-x.length))),(5,int .i64 i)],bx:= [],rt:= []}) (fun E=>x.length- (E.num 5).toNat) _ (Gh.keep _ [0,1,5]) ⟨0,by omega,by simp[szL];omega,by simp[szL,vRowsS]⟩ ?_
 rintro E1 ⟨i,hi,hr0,rfl⟩
 have hr1:=szL_le' (l:=(x.take i).flatMap wRows) (left:=left-x.length) (by omega)
 simp[vRowsS,eRows]
 refine ⟨fun h=> ?_,fun h=> ?_⟩
 ·obtain ⟨q1,q2⟩:=szF_step wRows (dRows) h (by omega:0≤left-x.length) hr0
  have hm: ∀n∈wRows (x[i]?.getD (dRows)),okM n:=fun n hn=>hs n (List.mem_cons_of_mem _ (mem_flat h hn))
  have hn1:=szL_neg (wRows (x[i]?.getD (dRows))) _ hr0
  refine ⟨h,.of (szRows_ok _ _ hr0 (by omega) hm) ?_⟩
  simp
  refine ⟨fun h2=> ?_,fun h2=> .of _ (Gh.keep _ [0,1,5]) ⟨i+1,by omega, ?_, ?_⟩ ?_⟩
  ·rw[wRowsS,szL,if_neg (by omega),q1 h2]
  ·rw[q2];exact h2
  ·rw[q2];simp[wrapS (show i<9223372036854775807 by omega)]
  ·simp[wrapS (show i<9223372036854775807 by omega)];omega
 ·rw[wRowsS,szL,if_neg (by omega),List.take_of_length_le (by simpa using h)]
theorem toRowsS_ok (x:List GRows) (hs: ∀n∈wRowsS x,n≤1048576):VC Tryz.prog 90 [vRowsS x] [(false,mRowsS x)]:=by
 refine vc_of_ew good hm [0,2,3,4,11] Tryz.func90 rfl (by kernel_rfl) (by kernel_rfl) rfl ?_
 have hl:x.length≤1048576:=hs _ (by simp[wRowsS])
 simp[Tryz.f90,vRowsS,mRowsS]
 refine ⟨by omega, ?_⟩
 refine ew_loop (fun E=> ∃i:Nat,i≤x.length∧E= {nt:=23,sl:= [(0,vRowsS x),(3,.v false [.r [7]]),(4,int .i64 i)],bx:= [],rt:= [(7,.o 205 (fun _=> [.o 120 (fun _=> [.o 234 (fun _=> [.s,.s,.s])])]),.ls [.ls [.ls [.sc (.int .i64 0),.sc (.int .i64 0),.sc (.string ⟨#[]⟩)] []] []] (fillR [.ls [.ls [.sc (.int .i64 0),.sc (.int .i64 0),.sc (.string ⟨#[]⟩)] []] []] (x.map eRows) i))]}) (fun E=>x.length- (E.num 4).toNat) _ (Gh.keep _ [0,3,4]) ⟨0,by omega,by simp[vRowsS,fillR]⟩ ?_
 rintro E1 ⟨i,hi,rfl⟩
 have hfl:(fillR [.ls [.ls [.sc (.int .i64 0),.sc (.int .i64 0),.sc (.string ⟨#[]⟩)] []] []] (x.map eRows) i).length=x.length:=by rw[fillR_len _ _ (by simpa using hi)];simp
 simp[vRowsS,eRows] at hfl⊢
 try simp[hfl]
 refine ⟨fun h=>⟨h,.of (toRows_ok (x[i]?.getD dRows) (fun n hn=>hs n (List.mem_cons_of_mem _ (mem_flat (wt:=wRows) h hn)))) ?_⟩,fun h=>fillR_all _ _ (by simpa using h)⟩
 simp[mRows]
 try simp[hfl,h]
 refine .of _ (Gh.keep _ [0,3,4]) ⟨i+1,by omega, ?_⟩ ?_
 ·have:=fillR_set [.ls [.ls [.sc (.int .i64 0),.sc (.int .i64 0),.sc (.string ⟨#[]⟩)] []] []] (x.map eRows) (i:=i) (by simpa using h)
  simp[wrapS (show i<9223372036854775807 by omega),vRowsS,eRows,h] at this⊢
  rw[←this]
 ·simp[wrapS (show i<9223372036854775807 by omega)];omega
theorem eqRowsS_ok (x:List GRows) (hs: ∀n∈wRowsS x,n≤1048576):VC Tryz.prog 99 [vRowsS x,vRowsS x] [(false,[(.s,.sc (.bool true))])]:=by
 refine vc_of_ew good hm [0,1,4,10,5,14,26] Tryz.func99 rfl (by kernel_rfl) (by kernel_rfl) rfl ?_
 have hl:x.length≤1048576:=hs _ (by simp[wRowsS])
 simp[Tryz.f99,vRowsS]
 refine ew_loop (fun E=> ∃i:Nat,i≤x.length∧E= {nt:=27,sl:= [(0,vRowsS x),(1,vRowsS x),(5,int .i64 i)],bx:= [],rt:= []}) (fun E=>x.length- (E.num 5).toNat) _ (Gh.keep _ [0,1,5]) ⟨0,by omega,by simp[vRowsS]⟩ ?_
 rintro E1 ⟨i,hi,rfl⟩
 simp[vRowsS,eRows]
 intro h
 refine ⟨h,.of (eqRows_ok (x[i]?.getD dRows) (fun n hn=>hs n (List.mem_cons_of_mem _ (mem_flat (wt:=wRows) h hn)))) ?_⟩
 simp
 refine .of _ (Gh.keep _ [0,1,5]) ⟨i+1,by omega, ?_⟩ ?_
 ·simp[wrapS (show i<9223372036854775807 by omega),vRowsS]
 ·simp[wrapS (show i<9223372036854775807 by omega)];omega
def ctRows (x:GRows):Nat:=0+ctRowS x.fRows
def mkRows (k:Nat) (x:GRows):GRows:=⟨mkRowS (k) x.fRows⟩
theorem ctle_Rows (x:GRows):ctRows x≤64+64* (wRows x).sum:=by
 have:=ctle_RowS x.fRows
 simp only[ctRows,wRows,List.sum_cons,List.sum_append,List.sum_nil]
 omega
def ctRowsS (l:List GRows):Nat:=ctRw ctRows l
def mkRowsS (k:Nat) (l:List GRows):List GRows:=mkRw mkRows ctRows k l
theorem ctle_RowsS (l:List GRows):ctRowsS l≤64* (wRowsS l).sum:=by
 have:=ctRw_le64 ctRows wRows l (fun x _=>ctle_Rows x)
 simp only[wRowsS,List.sum_cons]
 exact this
theorem markRowsS_ok (x:List GRows) (k:Nat) (k':Int) (hkk':k'=(k:Int)) (hk:k+ctRowsS x≤4611686018427387904) (hs: ∀n∈wRowsS x,n≤4611686018427387904):VM Tryz.prog 102 [.v false [.r [900]],int .i64 k'] [(.o 205 (fun _=> [.o 120 (fun _=> [.o 234 (fun _=> [.s,.s,.s])])]),.ls [.ls [.ls [.sc (.int .i64 0),.sc (.int .i64 0),.sc (.string ⟨#[]⟩)] []] []] (x.map eRows),.ls [.ls [.ls [.sc (.int .i64 0),.sc (.int .i64 0),.sc (.string ⟨#[]⟩)] []] []] ((mkRowsS k x).map eRows))] (some ((k:Int)+(ctRowsS x:Int))):=by
 subst hkk'
 have hl:x.length≤4611686018427387904:=hs _ (by simp[wRowsS])
 refine vm_of_ew good hm [0,1,4,5,9,5000] Tryz.func102 rfl (by kernel_rfl) (by kernel_rfl) rfl fun pv=> ?_
 simp[Tryz.f102]
 refine ew_loop (fun E=> ∃ (i K:Nat) (M:List (GRows)),i≤x.length∧K=k+ctRw ctRows (x.take i)∧M=mixR mkRows ctRows k x i∧E= {nt:=20,sl:= [(0,.v false [.r [900]]),(1,int .i64 (K:Int)),(5,int .i64 i),(5000,.pin 900 [] (pv 900))],bx:= [],rt:= [(900,.o 205 (fun _=> [.o 120 (fun _=> [.o 234 (fun _=> [.s,.s,.s])])]),.ls [.ls [.ls [.sc (.int .i64 0),.sc (.int .i64 0),.sc (.string ⟨#[]⟩)] []] []] (M.map eRows))]}) (fun E=>x.length- (E.num 5).toNat) _ (Gh.kb _ [0,1,5,5000] [] [900]) ⟨0,k,x,by omega,by simp[ctRw],by simp[mixR_zero],by simp⟩ ?_
 rintro E1 ⟨i,K,M,hi,hK,hM,rfl⟩
 have hfl:M.length=x.length:=by rw[hM];exact mixR_len mkRows ctRows k x i
 have hct:=ctRw_le ctRows x i
 simp only[ctRowsS] at hk
 simp[hfl]
 refine ⟨fun h=> ?_,fun h=> ?_⟩
 ·have hg:M[i]? =x[i]? :=by rw[hM];exact mixR_get mkRows ctRows k x i h
  have hst:=mixR_set mkRows ctRows k x i (dRows) h
  have hc1:=ctRw_lt ctRows (dRows) h
  have hs1:ctRw ctRows (x.take (i+1))=ctRw ctRows (x.take i)+ctRows (x[i]?.getD (dRows)):=ctRw_succ ctRows (dRows) h
  have hxi:x[i]? =some (x[i]?.getD (dRows)):=by rw[List.getElem?_eq_getElem h];rfl
  have hy:(x[i]?.getD (dRows))∈x:=getD_mem _ h
  rw[hxi] at hg
  rw[←hK,←hM] at hst
  generalize (x[i]?.getD (dRows))=y at*
  have hg': ∀h',M[i]'h'=y:=fun h'=>by simpa [List.getElem?_eq_getElem h'] using hg
  have hse: ∀n∈wRows y,n≤4611686018427387904:=fun n hn=>hs n (List.mem_cons_of_mem _ (List.mem_flatMap.2 ⟨y,hy,hn⟩))
  simp only[ctRows] at hc1 hs1
  simp[md,lf,hg',hg,h,hfl,eRows]
  refine .mut (markRowS_ok y.fRows (K) ((K:Int)) (by omega) (by omega) (fun n hn=>hse n (by simp[wRows,hn]))) ?_
  simp[md,lf,hg',hg,h,hfl,eRows]
  have e1:(k:Int)+(ctRw ctRows (x.take (i+1)):Int)=(K:Int)+(ctRowS y.fRows:Int):=by omega
  refine .of _ (Gh.kb _ [0,1,5,5000] [] [900]) ⟨i+1,by omega, ?_⟩ ?_
  ·simp[wrapS (show i<9223372036854775807 by omega),e1,←hst,List.map_set,mkRows,eRows,wrapU8]
  ·simp[wrapS (show i<9223372036854775807 by omega)];omega
 ·have:i=x.length:=by omega
  subst this
  subst hM
  subst hK
  simp[mixR_all,ctRowsS,mkRowsS]
theorem heldRowsS_ok (x:List GRows) (k:Nat) (k':Int) (hkk':k'=(k:Int)) (hk:k+ctRowsS x≤4611686018427387904) (hs: ∀n∈wRowsS x,n≤4611686018427387904):VC Tryz.prog 255 [vRowsS (mkRowsS k x),int .i64 k'] [(false,[(.s,.sc (.int .i64 ((k:Int)+(ctRowsS x:Int))))])]:=by
 subst hkk'
 have hl:x.length≤4611686018427387904:=hs _ (by simp[wRowsS])
 refine vc_of_ew good hm [0,1,4,5,9,20] Tryz.func255 rfl (by kernel_rfl) (by kernel_rfl) rfl ?_
 simp[Tryz.f255,vRowsS]
 refine ew_loop (fun E=> ∃ (i K:Nat),i≤x.length∧K=k+ctRw ctRows (x.take i)∧E= {nt:=22,sl:= [(0,vRowsS (mkRowsS k x)),(1,int .i64 (K:Int)),(5,int .i64 i)],bx:= [],rt:= []}) (fun E=>x.length- (E.num 5).toNat) _ (Gh.kb _ [0,1,5] [] []) ⟨0,k,by omega,by simp[ctRw],by simp[vRowsS]⟩ ?_
 rintro E1 ⟨i,K,hi,hK,rfl⟩
 have hfl:(mkRowsS k x).length=x.length:=mkRw_len mkRows ctRows k x
 have hct:=ctRw_le ctRows x i
 simp only[ctRowsS] at hk
 simp[vRowsS,hfl]
 refine ⟨fun h=> ?_,fun h=> ?_⟩
 ·have hg:(mkRowsS k x)[i]? =some (mkRows (k+ctRw ctRows (x.take i)) (x[i]?.getD (dRows))):=mkRw_get mkRows ctRows (dRows) k x i h
  have hc1:=ctRw_lt ctRows (dRows) h
  have hs1:ctRw ctRows (x.take (i+1))=ctRw ctRows (x.take i)+ctRows (x[i]?.getD (dRows)):=ctRw_succ ctRows (dRows) h
  have hy:(x[i]?.getD (dRows))∈x:=getD_mem _ h
  rw[←hK] at hg
  generalize (x[i]?.getD (dRows))=y at*
  have hg2: ∀hh:i< (mkRowsS k x).length,(mkRowsS k x)[i]=mkRows K y:=fun hh=>(List.getElem_eq_iff hh).2 hg
  have hse: ∀n∈wRows y,n≤4611686018427387904:=fun n hn=>hs n (List.mem_cons_of_mem _ (List.mem_flatMap.2 ⟨y,hy,hn⟩))
  simp only[ctRows] at hc1 hs1
  simp[md,lf,hg,hg2,h,hfl,eRows,mkRows,wrapU8]
  refine .of (heldRowS_ok y.fRows (K) _ (by omega) (by omega) (fun n hn=>hse n (by simp[wRows,hn]))) ?_
  have v0: ¬((K:Int)+(ctRowS y.fRows:Int)<0):=by omega
  have v1:0≤(K:Int)+(ctRowS y.fRows:Int):=by omega
  simp[md,lf,hg,hg2,h,hfl,eRows,mkRows,wrapU8,v0,v1]
  have e1:(k:Int)+(ctRw ctRows (x.take (i+1)):Int)=(K:Int)+(ctRowS y.fRows:Int):=by omega
  refine .of _ (Gh.kb _ [0,1,5] [] []) ⟨i+1,by omega, ?_⟩ ?_
  ·simp[wrapS (show i<9223372036854775807 by omega),e1,vRowsS]
  ·simp[wrapS (show i<9223372036854775807 by omega)];omega
 ·have:i=x.length:=by omega
  subst this
  subst hK
  simp[ctRowsS]
structure GDb where
 fCat:GCat
 fData:List GRows
def eDb (x:GDb):List Lf:= [.ls [.sc (.string ⟨#[]⟩),.ls [.sc (.string ⟨#[]⟩),.sc (.int .i64 0),.sc (.bool false),.sc (.bool false),.sc (.int .i64 0),.sc (.int .i64 0),.sc (.string ⟨#[]⟩)] [],.ls [.sc (.string ⟨#[]⟩)] []] (x.fCat.fTables.map eTable),.ls [.ls [.ls [.sc (.int .i64 0),.sc (.int .i64 0),.sc (.string ⟨#[]⟩)] []] []] (x.fData.map eRows)]
def cDb (x:GDb):List LV:= [.s (.ls [.sc (.string ⟨#[]⟩),.ls [.sc (.string ⟨#[]⟩),.sc (.int .i64 0),.sc (.bool false),.sc (.bool false),.sc (.int .i64 0),.sc (.int .i64 0),.sc (.string ⟨#[]⟩)] [],.ls [.sc (.string ⟨#[]⟩)] []] (x.fCat.fTables.map eTable)),.s (.ls [.ls [.ls [.sc (.int .i64 0),.sc (.int .i64 0),.sc (.string ⟨#[]⟩)] []] []] (x.fData.map eRows))]
def vDb (x:GDb):SV:= .v true [.s (.ls [.sc (.string ⟨#[]⟩),.ls [.sc (.string ⟨#[]⟩),.sc (.int .i64 0),.sc (.bool false),.sc (.bool false),.sc (.int .i64 0),.sc (.int .i64 0),.sc (.string ⟨#[]⟩)] [],.ls [.sc (.string ⟨#[]⟩)] []] (x.fCat.fTables.map eTable)),.s (.ls [.ls [.ls [.sc (.int .i64 0),.sc (.int .i64 0),.sc (.string ⟨#[]⟩)] []] []] (x.fData.map eRows))]
def dDb:GDb:=⟨⟨[]⟩,[]⟩
@[simp] theorem row_Db (l:List GDb) (i:Nat):(Option.map eDb l[i]?).getD [.ls [.sc (.string ⟨#[]⟩),.ls [.sc (.string ⟨#[]⟩),.sc (.int .i64 0),.sc (.bool false),.sc (.bool false),.sc (.int .i64 0),.sc (.int .i64 0),.sc (.string ⟨#[]⟩)] [],.ls [.sc (.string ⟨#[]⟩)] []] [],.ls [.ls [.ls [.sc (.int .i64 0),.sc (.int .i64 0),.sc (.string ⟨#[]⟩)] []] []] []]=eDb (l[i]?.getD dDb):=by cases l[i]? <;>rfl
def wDb (x:GDb):List Nat:=wCat x.fCat++(wRowsS x.fData++([]))
def okDb (x:GDb):Prop:=okCat x.fCat∧okRowsS x.fData∧True
theorem okw_Db (x:GDb) (h:okDb x): ∀n∈wDb x,okM n:=by
 obtain ⟨h0,h1,_⟩:=h
 intro n hn
 simp only[wDb,List.mem_cons,List.mem_append,List.not_mem_nil,or_false,false_or] at hn
 rcases hn with hn|hn
 ·exact okw_Cat _ h0 n hn
 ·exact okw_RowsS _ h1 n hn
def mDb (x:GDb):ML:= [(.o 201 (fun _=> [.s,.o 236 (fun _=> [.s,.s,.s,.s,.s,.s,.s]),.o 9 (fun _=> [.s])]),.ls [.sc (.string ⟨#[]⟩),.ls [.sc (.string ⟨#[]⟩),.sc (.int .i64 0),.sc (.bool false),.sc (.bool false),.sc (.int .i64 0),.sc (.int .i64 0),.sc (.string ⟨#[]⟩)] [],.ls [.sc (.string ⟨#[]⟩)] []] (x.fCat.fTables.map eTable)),(.o 205 (fun _=> [.o 120 (fun _=> [.o 234 (fun _=> [.s,.s,.s])])]),.ls [.ls [.ls [.sc (.int .i64 0),.sc (.int .i64 0),.sc (.string ⟨#[]⟩)] []] []] (x.fData.map eRows))]
theorem szDb_ok (x:GDb) (left:Int) (h0:0≤left) (h1:left≤1048576) (hs: ∀n∈wDb x,okM n):VC Tryz.prog 14 [vDb x,int .i64 left] [(false,[(.s,.sc (.int .i64 (szL (wDb x) left)))])]:=by
 refine vc_of_ew good hm [0,1,2,4,10,16] Tryz.func14 rfl (by kernel_rfl) (by kernel_rfl) rfl ?_
 simp[Tryz.f14,vDb]
 refine .of (szCat_ok x.fCat left (by omega) (by omega) (fun n hn=>hs n (by simp[wDb,hn]))) ?_
 simp
 have hb0:=szL_le' (l:=wCat x.fCat) (left:=left) (by omega)
 have hc0:=szL_neg (wCat x.fCat) left (by omega)
 refine ⟨fun hn=> ?_,fun hk0=> ?_⟩
 ·have e:szL (wDb x) left= -1:=by rw[wDb,szL_app _ _ _ h0,if_pos (by omega)]
  rw[e]
  try omega
 have hq0: ¬(szL (wCat x.fCat) left)<0:=by omega
 have hz0:0≤(szL (wCat x.fCat) left):=by omega
 refine .of (szRowsS_ok x.fData (szL (wCat x.fCat) left) (by omega) (by omega) (fun n hn=>hs n (by simp[wDb,hn]))) ?_
 simp
 have hb1:=szL_le' (l:=wRowsS x.fData) (left:=(szL (wCat x.fCat) left)) (by omega)
 have hc1:=szL_neg (wRowsS x.fData) (szL (wCat x.fCat) left) (by omega)
 by_cases hn:(szL (wRowsS x.fData) (szL (wCat x.fCat) left))<0
 ·have e:szL (wDb x) left= -1:=by rw[wDb,szL_app _ _ _ h0,if_neg hq0,szL_app _ _ _ hz0,if_pos hn]
  rw[e]
  try omega
 ·have e:szL (wDb x) left=(szL (wRowsS x.fData) (szL (wCat x.fCat) left)):=by rw[wDb,szL_app _ _ _ h0,if_neg hq0,szL_app _ _ _ hz0,if_neg hn];rfl
  rw[e]
  try omega
theorem toDb_ok (x:GDb) (hs: ∀n∈wDb x,n≤1048576):VC Tryz.prog 17 [vDb x] [(true,mDb x)]:=by
 refine vc_of_ew good hm [0,1,2,3] Tryz.func17 rfl (by kernel_rfl) (by kernel_rfl) rfl ?_
 simp[Tryz.f17,vDb,mDb]
 refine .of (toCat_ok x.fCat (fun n hn=>hs n (by simp[wDb,hn]))) ?_
 simp[mCat]
 refine .of (toRowsS_ok x.fData (fun n hn=>hs n (by simp[wDb,hn]))) ?_
 simp[mRowsS]
theorem eqDb_ok (x:GDb) (hs: ∀n∈wDb x,n≤1048576):VC Tryz.prog 21 [vDb x,vDb x] [(false,[(.s,.sc (.bool true))])]:=by
 refine vc_of_ew good hm [0,1,2,3,4,10,16] Tryz.func21 rfl (by kernel_rfl) (by kernel_rfl) rfl ?_
 simp[Tryz.f21,vDb]
 refine .of (eqCat_ok x.fCat (fun n hn=>hs n (by simp[wDb,hn]))) ?_
 simp
 refine .of (eqRowsS_ok x.fData (fun n hn=>hs n (by simp[wDb,hn]))) ?_
 simp
def cvDb (x:GDb):Nat:=cvCat x.fCat+ctRowsS x.fData
def mvDb (k:Nat) (x:GDb):GDb:= {x with fCat:=mvCat (k) x.fCat,fData:=mkRowsS (k+cvCat x.fCat) x.fData}
theorem cvle_Db (x:GDb):cvDb x≤64* (wDb x).sum:=by
 have:=cvle_Cat x.fCat
 have:=ctle_RowsS x.fData
 simp only[cvDb,wDb,List.sum_cons,List.sum_append,List.sum_nil]
 omega
theorem markVDb_ok (x:GDb) (k:Nat) (k':Int) (hkk':k'=(k:Int)) (hk:k+cvDb x≤4611686018427387904) (hs: ∀n∈wDb x,n≤4611686018427387904):VM Tryz.prog 23 [.v true [.r [900],.r [901]],int .i64 k'] [(.o 201 (fun _=> [.s,.o 236 (fun _=> [.s,.s,.s,.s,.s,.s,.s]),.o 9 (fun _=> [.s])]),.ls [.sc (.string ⟨#[]⟩),.ls [.sc (.string ⟨#[]⟩),.sc (.int .i64 0),.sc (.bool false),.sc (.bool false),.sc (.int .i64 0),.sc (.int .i64 0),.sc (.string ⟨#[]⟩)] [],.ls [.sc (.string ⟨#[]⟩)] []] (x.fCat.fTables.map eTable),.ls [.sc (.string ⟨#[]⟩),.ls [.sc (.string ⟨#[]⟩),.sc (.int .i64 0),.sc (.bool false),.sc (.bool false),.sc (.int .i64 0),.sc (.int .i64 0),.sc (.string ⟨#[]⟩)] [],.ls [.sc (.string ⟨#[]⟩)] []] ((mvDb k x).fCat.fTables.map eTable)),(.o 205 (fun _=> [.o 120 (fun _=> [.o 234 (fun _=> [.s,.s,.s])])]),.ls [.ls [.ls [.sc (.int .i64 0),.sc (.int .i64 0),.sc (.string ⟨#[]⟩)] []] []] (x.fData.map eRows),.ls [.ls [.ls [.sc (.int .i64 0),.sc (.int .i64 0),.sc (.string ⟨#[]⟩)] []] []] ((mvDb k x).fData.map eRows))] (some ((k:Int)+(cvDb x:Int))):=by
 subst hkk'
 refine vm_of_ew good hm [0,1,2,4,5000,5001] Tryz.func23 rfl (by kernel_rfl) (by kernel_rfl) rfl fun pv=> ?_
 simp only[cvDb] at hk
 simp[Tryz.f23,mvDb,cvDb]
 refine .mut (markVCat_ok x.fCat (k) ((k:Int)) (by omega) (by omega) (fun n hn=>hs n (by simp[wDb,hn]))) ?_
 simp[mvCat,mvDdl,mvRow,mvStmt,mvDb,mvBatch]
 refine .mut (markRowsS_ok x.fData (k+cvCat x.fCat) ((k:Int)+(cvCat x.fCat:Int)) (by omega) (by omega) (fun n hn=>hs n (by simp[wDb,hn]))) ?_
 simp[mvCat,mvDdl,mvRow,mvStmt,mvDb,mvBatch]
 try omega
theorem heldVDb_ok (x:GDb) (k:Nat) (k':Int) (hkk':k'=(k:Int)) (hk:k+cvDb x≤4611686018427387904) (hs: ∀n∈wDb x,n≤4611686018427387904):VC Tryz.prog 153 [vDb (mvDb k x),int .i64 k'] [(false,[(.s,.sc (.int .i64 ((k:Int)+(cvDb x:Int))))])]:=by
 subst hkk'
 simp only[cvDb] at hk
 refine vc_of_ew good hm [0,1,2,4,10,16] Tryz.func153 rfl (by kernel_rfl) (by kernel_rfl) rfl ?_
 simp[Tryz.f153,vDb,mvDb,cvDb]
 refine .of (heldVCat_ok x.fCat (k) _ (by omega) (by omega) (fun n hn=>hs n (by simp[wDb,hn]))) ?_
 have v0: ¬((k:Int)+(cvCat x.fCat:Int)<0):=by omega
 have v1:0≤(k:Int)+(cvCat x.fCat:Int):=by omega
 simp[v0,v1]
 refine .of (heldRowsS_ok x.fData (k+cvCat x.fCat) _ (by omega) (by omega) (fun n hn=>hs n (by simp[wDb,hn]))) ?_
 have v2: ¬((k:Int)+(cvCat x.fCat:Int)+(ctRowsS x.fData:Int)<0):=by omega
 have v3:0≤(k:Int)+(cvCat x.fCat:Int)+(ctRowsS x.fData:Int):=by omega
 simp[v0,v1,v2,v3]
 try omega
structure GFol where
 fDb:GDb
 fAt:Int
 fHalt:Int
def eFol (x:GFol):List Lf:= [.ls [.sc (.string ⟨#[]⟩),.ls [.sc (.string ⟨#[]⟩),.sc (.int .i64 0),.sc (.bool false),.sc (.bool false),.sc (.int .i64 0),.sc (.int .i64 0),.sc (.string ⟨#[]⟩)] [],.ls [.sc (.string ⟨#[]⟩)] []] (x.fDb.fCat.fTables.map eTable),.ls [.ls [.ls [.sc (.int .i64 0),.sc (.int .i64 0),.sc (.string ⟨#[]⟩)] []] []] (x.fDb.fData.map eRows),.sc (.int .i64 x.fAt),.sc (.int .i64 x.fHalt)]
def vFol (x:GFol):SV:= .v true [.s (.ls [.sc (.string ⟨#[]⟩),.ls [.sc (.string ⟨#[]⟩),.sc (.int .i64 0),.sc (.bool false),.sc (.bool false),.sc (.int .i64 0),.sc (.int .i64 0),.sc (.string ⟨#[]⟩)] [],.ls [.sc (.string ⟨#[]⟩)] []] (x.fDb.fCat.fTables.map eTable)),.s (.ls [.ls [.ls [.sc (.int .i64 0),.sc (.int .i64 0),.sc (.string ⟨#[]⟩)] []] []] (x.fDb.fData.map eRows)),.s (.sc (.int .i64 x.fAt)),.s (.sc (.int .i64 x.fHalt))]
def dFol:GFol:=⟨⟨⟨[]⟩,[]⟩,0,0⟩
@[simp] theorem row_Fol (l:List GFol) (i:Nat):(Option.map eFol l[i]?).getD [.ls [.sc (.string ⟨#[]⟩),.ls [.sc (.string ⟨#[]⟩),.sc (.int .i64 0),.sc (.bool false),.sc (.bool false),.sc (.int .i64 0),.sc (.int .i64 0),.sc (.string ⟨#[]⟩)] [],.ls [.sc (.string ⟨#[]⟩)] []] [],.ls [.ls [.ls [.sc (.int .i64 0),.sc (.int .i64 0),.sc (.string ⟨#[]⟩)] []] []] [],.sc (.int .i64 0),.sc (.int .i64 0)]=eFol (l[i]?.getD dFol):=by cases l[i]? <;>rfl
def wFol (x:GFol):List Nat:=wDb x.fDb++([])
def okFol (x:GFol):Prop:=okDb x.fDb∧okI x.fAt∧okI x.fHalt∧True
theorem okw_Fol (x:GFol) (h:okFol x): ∀n∈wFol x,okM n:=by
 obtain ⟨h0,h1,h2,_⟩:=h
 intro n hn
 simp only[wFol,List.mem_cons,List.mem_append,List.not_mem_nil,or_false,false_or] at hn
 rcases hn with hn
 ·exact okw_Db _ h0 n hn
theorem fit_Fol (ls:List Lf) (h:Fit ti ck 98 ls): ∃x:GFol,ls=eFol x∧okFol x:=by
 obtain ⟨c0,r0,rfl,h0,g0⟩:=All2.cons_inv h
 obtain ⟨a0,rfl,b0,b0'⟩:=h0.list eTable okTable fit_Table
 obtain ⟨c1,r1,rfl,h1,g1⟩:=All2.cons_inv g0
 obtain ⟨a1,rfl,b1,b1'⟩:=h1.list eRows okRows fit_Rows
 obtain ⟨c2,r2,rfl,h2,g2⟩:=All2.cons_inv g1
 obtain ⟨a2,rfl,b2⟩:=h2.int_inv
 obtain ⟨c3,r3,rfl,h3,g3⟩:=All2.cons_inv g2
 obtain ⟨a3,rfl,b3⟩:=h3.int_inv
 obtain rfl:=All2.nil_inv g3
 exact ⟨⟨⟨⟨a0⟩,a1⟩,a2,a3⟩,rfl,⟨⟨⟨⟨b0,b0'⟩,trivial⟩,⟨b1,b1'⟩,trivial⟩,okI_wf b2,okI_wf b3,trivial⟩⟩
def mFol (x:GFol):ML:= [(.o 201 (fun _=> [.s,.o 236 (fun _=> [.s,.s,.s,.s,.s,.s,.s]),.o 9 (fun _=> [.s])]),.ls [.sc (.string ⟨#[]⟩),.ls [.sc (.string ⟨#[]⟩),.sc (.int .i64 0),.sc (.bool false),.sc (.bool false),.sc (.int .i64 0),.sc (.int .i64 0),.sc (.string ⟨#[]⟩)] [],.ls [.sc (.string ⟨#[]⟩)] []] (x.fDb.fCat.fTables.map eTable)),(.o 205 (fun _=> [.o 120 (fun _=> [.o 234 (fun _=> [.s,.s,.s])])]),.ls [.ls [.ls [.sc (.int .i64 0),.sc (.int .i64 0),.sc (.string ⟨#[]⟩)] []] []] (x.fDb.fData.map eRows)),(.s,.sc (.int .i64 x.fAt)),(.s,.sc (.int .i64 x.fHalt))]
theorem szFol_ok (x:GFol) (left:Int) (h0:0≤left) (h1:left≤1048576) (hs: ∀n∈wFol x,okM n):VC Tryz.prog 61 [vFol x,int .i64 left] [(false,[(.s,.sc (.int .i64 (szL (wFol x) left)))])]:=by
 refine vc_of_ew good hm [0,1,2,4,10] Tryz.func61 rfl (by kernel_rfl) (by kernel_rfl) rfl ?_
 simp[Tryz.f61,vFol]
 refine .of (szDb_ok x.fDb left (by omega) (by omega) (fun n hn=>hs n (by simp[wFol,hn]))) ?_
 simp
 have hb0:=szL_le' (l:=wDb x.fDb) (left:=left) (by omega)
 have hc0:=szL_neg (wDb x.fDb) left (by omega)
 by_cases hn:(szL (wDb x.fDb) left)<0
 ·have e:szL (wFol x) left= -1:=by rw[wFol,szL_app _ _ _ h0,if_pos hn]
  rw[e]
  try omega
 ·have e:szL (wFol x) left=(szL (wDb x.fDb) left):=by rw[wFol,szL_app _ _ _ h0,if_neg hn];rfl
  rw[e]
  try omega
theorem toFol_ok (x:GFol) (hs: ∀n∈wFol x,n≤1048576):VC Tryz.prog 64 [vFol x] [(true,mFol x)]:=by
 refine vc_of_ew good hm [0,1,2,3] Tryz.func64 rfl (by kernel_rfl) (by kernel_rfl) rfl ?_
 simp[Tryz.f64,vFol,mFol]
 refine .of (toDb_ok x.fDb (fun n hn=>hs n (by simp[wFol,hn]))) ?_
 simp[mDb]
theorem eqFol_ok (x:GFol) (hs: ∀n∈wFol x,n≤1048576):VC Tryz.prog 67 [vFol x,vFol x] [(false,[(.s,.sc (.bool true))])]:=by
 refine vc_of_ew good hm [0,1,2,3,4,10,15,20] Tryz.func67 rfl (by kernel_rfl) (by kernel_rfl) rfl ?_
 simp[Tryz.f67,vFol]
 refine .of (eqDb_ok x.fDb (fun n hn=>hs n (by simp[wFol,hn]))) ?_
 simp
def cvFol (x:GFol):Nat:=cvDb x.fDb
def mvFol (k:Nat) (x:GFol):GFol:= {x with fDb:=mvDb (k) x.fDb}
theorem cvle_Fol (x:GFol):cvFol x≤64* (wFol x).sum:=by
 have:=cvle_Db x.fDb
 simp only[cvFol,wFol,List.sum_cons,List.sum_append,List.sum_nil]
 omega
theorem markVFol_ok (x:GFol) (k:Nat) (k':Int) (hkk':k'=(k:Int)) (hk:k+cvFol x≤4611686018427387904) (hs: ∀n∈wFol x,n≤4611686018427387904):VM Tryz.prog 69 [.v true [.r [900],.r [901],.s (.sc (.int .i64 x.fAt)),.s (.sc (.int .i64 x.fHalt))],int .i64 k'] [(.o 201 (fun _=> [.s,.o 236 (fun _=> [.s,.s,.s,.s,.s,.s,.s]),.o 9 (fun _=> [.s])]),.ls [.sc (.string ⟨#[]⟩),.ls [.sc (.string ⟨#[]⟩),.sc (.int .i64 0),.sc (.bool false),.sc (.bool false),.sc (.int .i64 0),.sc (.int .i64 0),.sc (.string ⟨#[]⟩)] [],.ls [.sc (.string ⟨#[]⟩)] []] (x.fDb.fCat.fTables.map eTable),.ls [.sc (.string ⟨#[]⟩),.ls [.sc (.string ⟨#[]⟩),.sc (.int .i64 0),.sc (.bool false),.sc (.bool false),.sc (.int .i64 0),.sc (.int .i64 0),.sc (.string ⟨#[]⟩)] [],.ls [.sc (.string ⟨#[]⟩)] []] ((mvFol k x).fDb.fCat.fTables.map eTable)),(.o 205 (fun _=> [.o 120 (fun _=> [.o 234 (fun _=> [.s,.s,.s])])]),.ls [.ls [.ls [.sc (.int .i64 0),.sc (.int .i64 0),.sc (.string ⟨#[]⟩)] []] []] (x.fDb.fData.map eRows),.ls [.ls [.ls [.sc (.int .i64 0),.sc (.int .i64 0),.sc (.string ⟨#[]⟩)] []] []] ((mvFol k x).fDb.fData.map eRows))] (some ((k:Int)+(cvFol x:Int))):=by
 subst hkk'
 refine vm_of_ew good hm [0,1,2,4,5000,5001] Tryz.func69 rfl (by kernel_rfl) (by kernel_rfl) rfl fun pv=> ?_
 simp only[cvFol] at hk
 simp[Tryz.f69,mvFol,cvFol]
 refine .mut (markVDb_ok x.fDb (k) ((k:Int)) (by omega) (by omega) (fun n hn=>hs n (by simp[wFol,hn]))) ?_
 simp[mvCat,mvDdl,mvRow,mvStmt,mvDb,mvBatch,mvFol]
theorem heldVFol_ok (x:GFol) (k:Nat) (k':Int) (hkk':k'=(k:Int)) (hk:k+cvFol x≤4611686018427387904) (hs: ∀n∈wFol x,n≤4611686018427387904):VC Tryz.prog 71 [vFol (mvFol k x),int .i64 k'] [(false,[(.s,.sc (.int .i64 ((k:Int)+(cvFol x:Int))))])]:=by
 subst hkk'
 simp only[cvFol] at hk
 refine vc_of_ew good hm [0,1,2,4,10] Tryz.func71 rfl (by kernel_rfl) (by kernel_rfl) rfl ?_
 simp[Tryz.f71,vFol,mvFol,cvFol]
 refine .of (heldVDb_ok x.fDb (k) _ (by omega) (by omega) (fun n hn=>hs n (by simp[wFol,hn]))) ?_
 have v0: ¬((k:Int)+(cvDb x.fDb:Int)<0):=by omega
 have v1:0≤(k:Int)+(cvDb x.fDb:Int):=by omega
 simp[v0,v1]
@[simp] theorem ow_ByteS (l:List UInt8):Ow (.o 5 (fun _=> [.s])) (.ls [.sc (.int .u8 0)] (l.map eByte))=True:=eq_true (Ow_rows (fun x j hj=>match j,hj with|0,_=> .sc|n+1,hj=>absurd hj (by simp)) l)
@[simp] theorem full_ByteS (l:List UInt8):Full (.o 5 (fun _=> [.s])) (.ls [.sc (.int .u8 0)] (l.map eByte))=True:=eq_true (Full_rows (fun x j hj=>match j,hj with|0,_=> .s|n+1,hj=>absurd hj (by simp)) l)
def mkByteS (k:Nat) (l:List UInt8):List UInt8:=mkRw mkByte ctByte k l
structure GPack where
 fBytes:List UInt8
def mvPack (k:Nat) (x:GPack):GPack:= {x with fBytes:=mkByteS (k) x.fBytes}
structure GRec where
 fKind:Int
 fXid:Int
 fStmt:GStmt
def dRec:GRec:=⟨0,0,⟨0,⟨#[]⟩,[],⟨[]⟩,⟨0,⟨#[]⟩,[],[],⟨#[]⟩,⟨#[]⟩⟩⟩⟩
def mvRec (k:Nat) (x:GRec):GRec:= {x with fStmt:=mvStmt (k) x.fStmt}
structure GSnap where
 fLsn:Int
 fDb:GDb
def eSnap (x:GSnap):List Lf:= [.sc (.int .i64 x.fLsn),.ls [.sc (.string ⟨#[]⟩),.ls [.sc (.string ⟨#[]⟩),.sc (.int .i64 0),.sc (.bool false),.sc (.bool false),.sc (.int .i64 0),.sc (.int .i64 0),.sc (.string ⟨#[]⟩)] [],.ls [.sc (.string ⟨#[]⟩)] []] (x.fDb.fCat.fTables.map eTable),.ls [.ls [.ls [.sc (.int .i64 0),.sc (.int .i64 0),.sc (.string ⟨#[]⟩)] []] []] (x.fDb.fData.map eRows)]
def cSnap (x:GSnap):List LV:= [.s (.sc (.int .i64 x.fLsn)),.s (.ls [.sc (.string ⟨#[]⟩),.ls [.sc (.string ⟨#[]⟩),.sc (.int .i64 0),.sc (.bool false),.sc (.bool false),.sc (.int .i64 0),.sc (.int .i64 0),.sc (.string ⟨#[]⟩)] [],.ls [.sc (.string ⟨#[]⟩)] []] (x.fDb.fCat.fTables.map eTable)),.s (.ls [.ls [.ls [.sc (.int .i64 0),.sc (.int .i64 0),.sc (.string ⟨#[]⟩)] []] []] (x.fDb.fData.map eRows))]
def vSnap (x:GSnap):SV:= .v true [.s (.sc (.int .i64 x.fLsn)),.s (.ls [.sc (.string ⟨#[]⟩),.ls [.sc (.string ⟨#[]⟩),.sc (.int .i64 0),.sc (.bool false),.sc (.bool false),.sc (.int .i64 0),.sc (.int .i64 0),.sc (.string ⟨#[]⟩)] [],.ls [.sc (.string ⟨#[]⟩)] []] (x.fDb.fCat.fTables.map eTable)),.s (.ls [.ls [.ls [.sc (.int .i64 0),.sc (.int .i64 0),.sc (.string ⟨#[]⟩)] []] []] (x.fDb.fData.map eRows))]
def dSnap:GSnap:=⟨0,⟨⟨[]⟩,[]⟩⟩
@[simp] theorem row_Snap (l:List GSnap) (i:Nat):(Option.map eSnap l[i]?).getD [.sc (.int .i64 0),.ls [.sc (.string ⟨#[]⟩),.ls [.sc (.string ⟨#[]⟩),.sc (.int .i64 0),.sc (.bool false),.sc (.bool false),.sc (.int .i64 0),.sc (.int .i64 0),.sc (.string ⟨#[]⟩)] [],.ls [.sc (.string ⟨#[]⟩)] []] [],.ls [.ls [.ls [.sc (.int .i64 0),.sc (.int .i64 0),.sc (.string ⟨#[]⟩)] []] []] []]=eSnap (l[i]?.getD dSnap):=by cases l[i]? <;>rfl
def wSnap (x:GSnap):List Nat:=wDb x.fDb++([])
def okSnap (x:GSnap):Prop:=okI x.fLsn∧okDb x.fDb∧True
theorem okw_Snap (x:GSnap) (h:okSnap x): ∀n∈wSnap x,okM n:=by
 obtain ⟨h0,h1,_⟩:=h
 intro n hn
 simp only[wSnap,List.mem_cons,List.mem_append,List.not_mem_nil,or_false,false_or] at hn
 rcases hn with hn
 ·exact okw_Db _ h1 n hn
theorem fit_Snap (ls:List Lf) (h:Fit ti ck 100 ls): ∃x:GSnap,ls=eSnap x∧okSnap x:=by
 obtain ⟨c0,r0,rfl,h0,g0⟩:=All2.cons_inv h
 obtain ⟨a0,rfl,b0⟩:=h0.int_inv
 obtain ⟨c1,r1,rfl,h1,g1⟩:=All2.cons_inv g0
 obtain ⟨a1,rfl,b1,b1'⟩:=h1.list eTable okTable fit_Table
 obtain ⟨c2,r2,rfl,h2,g2⟩:=All2.cons_inv g1
 obtain ⟨a2,rfl,b2,b2'⟩:=h2.list eRows okRows fit_Rows
 obtain rfl:=All2.nil_inv g2
 exact ⟨⟨a0,⟨⟨a1⟩,a2⟩⟩,rfl,⟨okI_wf b0,⟨⟨⟨b1,b1'⟩,trivial⟩,⟨b2,b2'⟩,trivial⟩,trivial⟩⟩
def mSnap (x:GSnap):ML:= [(.s,.sc (.int .i64 x.fLsn)),(.o 201 (fun _=> [.s,.o 236 (fun _=> [.s,.s,.s,.s,.s,.s,.s]),.o 9 (fun _=> [.s])]),.ls [.sc (.string ⟨#[]⟩),.ls [.sc (.string ⟨#[]⟩),.sc (.int .i64 0),.sc (.bool false),.sc (.bool false),.sc (.int .i64 0),.sc (.int .i64 0),.sc (.string ⟨#[]⟩)] [],.ls [.sc (.string ⟨#[]⟩)] []] (x.fDb.fCat.fTables.map eTable)),(.o 205 (fun _=> [.o 120 (fun _=> [.o 234 (fun _=> [.s,.s,.s])])]),.ls [.ls [.ls [.sc (.int .i64 0),.sc (.int .i64 0),.sc (.string ⟨#[]⟩)] []] []] (x.fDb.fData.map eRows))]
theorem szSnap_ok (x:GSnap) (left:Int) (h0:0≤left) (h1:left≤1048576) (hs: ∀n∈wSnap x,okM n):VC Tryz.prog 62 [vSnap x,int .i64 left] [(false,[(.s,.sc (.int .i64 (szL (wSnap x) left)))])]:=by
 refine vc_of_ew good hm [0,1,2,4,10] Tryz.func62 rfl (by kernel_rfl) (by kernel_rfl) rfl ?_
 simp[Tryz.f62,vSnap]
 refine .of (szDb_ok x.fDb left (by omega) (by omega) (fun n hn=>hs n (by simp[wSnap,hn]))) ?_
 simp
 have hb0:=szL_le' (l:=wDb x.fDb) (left:=left) (by omega)
 have hc0:=szL_neg (wDb x.fDb) left (by omega)
 by_cases hn:(szL (wDb x.fDb) left)<0
 ·have e:szL (wSnap x) left= -1:=by rw[wSnap,szL_app _ _ _ h0,if_pos hn]
  rw[e]
  try omega
 ·have e:szL (wSnap x) left=(szL (wDb x.fDb) left):=by rw[wSnap,szL_app _ _ _ h0,if_neg hn];rfl
  rw[e]
  try omega
theorem toSnap_ok (x:GSnap) (hs: ∀n∈wSnap x,n≤1048576):VC Tryz.prog 65 [vSnap x] [(true,mSnap x)]:=by
 refine vc_of_ew good hm [0,1,2,3] Tryz.func65 rfl (by kernel_rfl) (by kernel_rfl) rfl ?_
 simp[Tryz.f65,vSnap,mSnap]
 refine .of (toDb_ok x.fDb (fun n hn=>hs n (by simp[wSnap,hn]))) ?_
 simp[mDb]
theorem eqSnap_ok (x:GSnap) (hs: ∀n∈wSnap x,n≤1048576):VC Tryz.prog 68 [vSnap x,vSnap x] [(false,[(.s,.sc (.bool true))])]:=by
 refine vc_of_ew good hm [0,1,2,3,4,9,15] Tryz.func68 rfl (by kernel_rfl) (by kernel_rfl) rfl ?_
 simp[Tryz.f68,vSnap]
 refine .of (eqDb_ok x.fDb (fun n hn=>hs n (by simp[wSnap,hn]))) ?_
 simp
def cvSnap (x:GSnap):Nat:=cvDb x.fDb
def mvSnap (k:Nat) (x:GSnap):GSnap:= {x with fDb:=mvDb (k) x.fDb}
theorem cvle_Snap (x:GSnap):cvSnap x≤64* (wSnap x).sum:=by
 have:=cvle_Db x.fDb
 simp only[cvSnap,wSnap,List.sum_cons,List.sum_append,List.sum_nil]
 omega
theorem markVSnap_ok (x:GSnap) (k:Nat) (k':Int) (hkk':k'=(k:Int)) (hk:k+cvSnap x≤4611686018427387904) (hs: ∀n∈wSnap x,n≤4611686018427387904):VM Tryz.prog 70 [.v true [.s (.sc (.int .i64 x.fLsn)),.r [900],.r [901]],int .i64 k'] [(.o 201 (fun _=> [.s,.o 236 (fun _=> [.s,.s,.s,.s,.s,.s,.s]),.o 9 (fun _=> [.s])]),.ls [.sc (.string ⟨#[]⟩),.ls [.sc (.string ⟨#[]⟩),.sc (.int .i64 0),.sc (.bool false),.sc (.bool false),.sc (.int .i64 0),.sc (.int .i64 0),.sc (.string ⟨#[]⟩)] [],.ls [.sc (.string ⟨#[]⟩)] []] (x.fDb.fCat.fTables.map eTable),.ls [.sc (.string ⟨#[]⟩),.ls [.sc (.string ⟨#[]⟩),.sc (.int .i64 0),.sc (.bool false),.sc (.bool false),.sc (.int .i64 0),.sc (.int .i64 0),.sc (.string ⟨#[]⟩)] [],.ls [.sc (.string ⟨#[]⟩)] []] ((mvSnap k x).fDb.fCat.fTables.map eTable)),(.o 205 (fun _=> [.o 120 (fun _=> [.o 234 (fun _=> [.s,.s,.s])])]),.ls [.ls [.ls [.sc (.int .i64 0),.sc (.int .i64 0),.sc (.string ⟨#[]⟩)] []] []] (x.fDb.fData.map eRows),.ls [.ls [.ls [.sc (.int .i64 0),.sc (.int .i64 0),.sc (.string ⟨#[]⟩)] []] []] ((mvSnap k x).fDb.fData.map eRows))] (some ((k:Int)+(cvSnap x:Int))):=by
 subst hkk'
 refine vm_of_ew good hm [0,1,2,4,5000,5001] Tryz.func70 rfl (by kernel_rfl) (by kernel_rfl) rfl fun pv=> ?_
 simp only[cvSnap] at hk
 simp[Tryz.f70,mvSnap,cvSnap]
 refine .mut (markVDb_ok x.fDb (k) ((k:Int)) (by omega) (by omega) (fun n hn=>hs n (by simp[wSnap,hn]))) ?_
 simp[mvCat,mvDdl,mvRow,mvStmt,mvDb,mvRec,mvBatch,mvPack,mvFol,mvSnap]
def ctRec (x:GRec):Nat:=8+ctValS x.fStmt.fKey+ctValS x.fStmt.fRow.fVals+ctColS x.fStmt.fDdl.fCols+ctStrS x.fStmt.fDdl.fKeys
def mkRec (k:Nat) (x:GRec):GRec:=⟨mkInt (k) x.fKind,mkInt (k+1) x.fXid,⟨mkInt (k+2) x.fStmt.fKind,mkStr (k+3) x.fStmt.fTable,mkValS (k+4) x.fStmt.fKey,⟨mkValS (k+4+ctValS x.fStmt.fKey) x.fStmt.fRow.fVals⟩,⟨mkInt (k+4+ctValS x.fStmt.fKey+ctValS x.fStmt.fRow.fVals) x.fStmt.fDdl.fKind,mkStr (k+5+ctValS x.fStmt.fKey+ctValS x.fStmt.fRow.fVals) x.fStmt.fDdl.fTable,mkColS (k+6+ctValS x.fStmt.fKey+ctValS x.fStmt.fRow.fVals) x.fStmt.fDdl.fCols,mkStrS (k+6+ctValS x.fStmt.fKey+ctValS x.fStmt.fRow.fVals+ctColS x.fStmt.fDdl.fCols) x.fStmt.fDdl.fKeys,mkStr (k+6+ctValS x.fStmt.fKey+ctValS x.fStmt.fRow.fVals+ctColS x.fStmt.fDdl.fCols+ctStrS x.fStmt.fDdl.fKeys) x.fStmt.fDdl.fName,mkStr (k+7+ctValS x.fStmt.fKey+ctValS x.fStmt.fRow.fVals+ctColS x.fStmt.fDdl.fCols+ctStrS x.fStmt.fDdl.fKeys) x.fStmt.fDdl.fTo⟩⟩⟩
def mkRecS (k:Nat) (l:List GRec):List GRec:=mkRw mkRec ctRec k l
structure GTail where
 fBase:Int
 fDb:GDb
 fRecs:List GRec
def mvTail (k:Nat) (x:GTail):GTail:= {x with fDb:=mvDb (k) x.fDb,fRecs:=mkRecS (k+cvDb x.fDb) x.fRecs}
end Go.Proofs.YteeolohhmfjafaaGreat
namespace Go.Proofs.YteeolohhmfjafaaGreat
open Go Go.Proofs Go.Sm
attribute [local simp] ti eStr eInt eByte eVal cVal vVal eValS vValS eRow cRow vRow eCol cCol vCol vColS eStrS vStrS eDdl cDdl vDdl cStmt vStmt ePart vPart vPartS eTable cTable vTable vTableS cCat vCat vRowS eRows vRows vRowsS eDb cDb vDb eFol vFol eSnap cSnap vSnap
set_option linter.unusedVariables false
set_option linter.unusedSimpArgs false
set_option maxRecDepth 8000
def within (x lo hi:Int):Bool:=decide (x≥lo)&&decide (x≤hi)
theorem within_ok (x lo hi:Int):VC Tryz.prog 235 [int .i64 x,int .i64 lo,int .i64 hi] [(false,[(.s,.sc (.bool (within x lo hi)))])]:=by
 refine vc_of_ew good hm [0,1,2,6] Tryz.func235 rfl (by kernel_rfl) (by kernel_rfl) rfl ?_
 simp[Tryz.f235,within]
def byteAt (s:ByteArray) (i:Nat):Int:=((s.data[i]?.getD 0).toNat:Int)
def letter (c:Int):Bool:=decide (97≤c)&&decide (c≤122)
theorem letter_iff (c:Int):letter c=true↔97≤c∧c≤122:=by simp[letter]
def lettersTo (s:ByteArray) (n:Nat):Bool:=(List.range n).all (fun i=>letter (byteAt s i))
def wordOk (s:ByteArray):Bool:=lettersTo s s.size&&within s.size 1 8
theorem lettersTo_succ (s:ByteArray) (n:Nat):lettersTo s (n+1)=(lettersTo s n&&letter (byteAt s n)):=by
 simp[lettersTo,List.range_succ,List.all_append]
theorem lettersTo_le {s:ByteArray} {n m:Nat} (h:lettersTo s m=true) (hnm:n≤m):lettersTo s n=true:=by
 simp only[lettersTo,List.all_eq_true,List.mem_range] at h⊢
 exact fun x hx=>h x (by omega)
theorem wordOk_no {s:ByteArray} {i:Nat} (hi:i<s.size) (h:letter (byteAt s i)=false):wordOk s=false:=by
 unfold wordOk
 cases hl:lettersTo s s.size with
 |false=>rfl
 |true=>
  have:=lettersTo_le hl (show i+1≤s.size by omega)
  rw[lettersTo_succ,h] at this
  simp at this
theorem wordOkI_ok (s:ByteArray) (hs:okM s.size):VC Tryz.prog 199 [str s] [(false,[(.s,.sc (.bool (wordOk s)))])]:=by
 unfold okM at hs
 refine vc_of_ew good hm [0,2,3,7,19] Tryz.func199 rfl (by kernel_rfl) (by kernel_rfl) rfl ?_
 simp[Tryz.f199]
 refine ew_loop (fun E=> ∃i:Nat,i≤s.size∧lettersTo s i=true∧E= {nt:=23,sl:= [(0,str s),(3,int .i64 i)],bx:= [],rt:= []}) (fun E=>s.size- (E.num 3).toNat) _ (Gh.kb _ [0,3] [] []) ⟨0,by omega,by simp[lettersTo],by simp⟩ ?_
 rintro E1 ⟨i,hi,hall,rfl⟩
 simp
 refine ⟨fun h=>⟨h,fun h1=>⟨h1,h⟩,fun h1=>wordOk_no h ?_,fun h1 h2=> .of _ (Gh.kb _ [0,3] [] []) ⟨i+1,by omega, ?_, ?_⟩ ?_⟩,fun h=> .of (within_ok _ _ _) ?_⟩
 ·rw[Bool.eq_false_iff];intro h;rw[letter_iff] at h;unfold byteAt at h;omega
 ·rw[lettersTo_succ,hall,Bool.true_and,letter_iff];unfold byteAt;omega
 ·simp[wrapS (show i<9223372036854775807 by omega)]
 ·simp[wrapS (show i<9223372036854775807 by omega)];omega
 ·have:i=s.size:=by omega
  subst this
  simp[wordOk,hall]
theorem wordOkS_ok (s:ByteArray) (hs:okM s.size):VC Tryz.prog 285 [str s] [(false,[(.s,.sc (.bool (wordOk s)))])]:=by
 unfold okM at hs
 refine vc_of_ew good hm [0,2,3,7,19] Tryz.func285 rfl (by kernel_rfl) (by kernel_rfl) rfl ?_
 simp[Tryz.f285]
 refine ew_loop (fun E=> ∃i:Nat,i≤s.size∧lettersTo s i=true∧E= {nt:=28,sl:= [(0,str s),(3,int .i64 i)],bx:= [],rt:= []}) (fun E=>s.size- (E.num 3).toNat) _ (Gh.kb _ [0,3] [] []) ⟨0,by omega,by simp[lettersTo],by simp⟩ ?_
 rintro E1 ⟨i,hi,hall,rfl⟩
 simp
 refine ⟨fun h=>⟨h,fun h1=>⟨h1,h⟩,fun h1=>wordOk_no h ?_,fun h1 h2=> .of _ (Gh.kb _ [0,3] [] []) ⟨i+1,by omega, ?_, ?_⟩ ?_⟩,fun h=> ?_⟩
 ·rw[Bool.eq_false_iff];intro h;rw[letter_iff] at h;unfold byteAt at h;omega
 ·rw[lettersTo_succ,hall,Bool.true_and,letter_iff];unfold byteAt;omega
 ·simp[wrapS (show i<9223372036854775807 by omega)]
 ·simp[wrapS (show i<9223372036854775807 by omega)];omega
 ·have:i=s.size:=by omega
  subst this
  simp[wordOk,hall,within]
def geq (a b:ByteArray):Bool:= !Op.bytesLess a.toList b.toList
theorem wrapP {i:Nat} (h0:0<i) (h:i≤9223372036854775807):IntKind.i64.wrap ((i:Int)-1)=((i-1:Nat):Int):=by
 rw[wrapI (by omega) (by omega)]
 omega
theorem rangeAll_succ (p:Nat→Bool) (n:Nat):(List.range (n+1)).all p=((List.range n).all p&&p n):=by
 simp[List.range_succ,List.all_append]
theorem rangeAll_no {p:Nat→Bool} {n i:Nat} (hi:i<n) (h:p i=false):(List.range n).all p=false:=by
 rw[Bool.eq_false_iff]
 intro ht
 simp only[List.all_eq_true,List.mem_range] at ht
 rw[ht i hi] at h
 cases h
end Go.Proofs.YteeolohhmfjafaaGreat
namespace Go.Proofs.YteeolohhmfjafaaGreat
open Go Go.Proofs Go.Sm
attribute [local simp] ti eStr eInt eByte eVal cVal vVal eValS vValS eRow cRow vRow eCol cCol vCol vColS eStrS vStrS eDdl cDdl vDdl cStmt vStmt ePart vPart vPartS eTable cTable vTable vTableS cCat vCat vRowS eRows vRows vRowsS eDb cDb vDb eFol vFol eSnap cSnap vSnap
set_option linter.unusedVariables false
set_option linter.unusedSimpArgs false
set_option maxRecDepth 8000
def em (s:ByteArray):Bool:=s.toList.isEmpty
def valOk (v:GVal):Bool:=(decide (v.fTy=0)&& (decide (v.fN=0)&&em v.fS))||(decide (v.fTy=1)&& ((decide (v.fN=0)||decide (v.fN=1))&&em v.fS))||(decide (v.fTy=2)&& (within v.fN (-1099511627775) 1099511627775&&em v.fS))||(decide (v.fTy=3)&& (decide (v.fN=0)&&decide ((v.fS.size:Int)≤30)))
def nullV (v:GVal):Bool:=decide (v.fTy=0)&& (decide (v.fN=0)&&em v.fS)
theorem within01 (n:Int):within n 0 1=(decide (n=0)||decide (n=1)):=by
 unfold within
 rw[Bool.eq_iff_iff]
 simp
 omega
theorem beqI (a b:Int):(a==b)=decide (a=b):=rfl
theorem l01Num_ok (n:Int):VC Tryz.prog 360 [int .i64 n] [(false,[(.s,.sc (.bool (within n (-1099511627775) 1099511627775)))])]:=by
 refine vc_of_ew good hm [0,2] Tryz.func360 rfl (by kernel_rfl) (by kernel_rfl) rfl ?_
 simp[Tryz.f360,within]
theorem valOkS_ok (v:GVal):VC Tryz.prog 378 [vVal v] [(false,[(.s,.sc (.bool (valOk v)))])]:=by
 refine vc_of_ew good hm [0,1,2,4,5,15,30,40] Tryz.func378 rfl (by kernel_rfl) (by kernel_rfl) rfl ?_
 simp[Tryz.f378]
 refine ⟨fun h=>by simp[valOk,h,em],fun h0=>⟨fun h=>by simp[valOk,h,em],fun h1=>⟨fun h=> .of (l01Num_ok _) ?_,fun h2=>⟨fun h=>by simp[valOk,h],fun h3=>by simp[valOk,h0,h1,h2,h3]⟩⟩⟩⟩
 simp[valOk,h,em]
theorem valOkI_ok (v:GVal):VC Tryz.prog 311 [vVal v] [(false,[(.s,.sc (.bool (valOk v)))])]:=by
 refine vc_of_ew good hm [0,1,2,4,5,10,20,30] Tryz.func311 rfl (by kernel_rfl) (by kernel_rfl) rfl ?_
 simp[Tryz.f311]
 refine ⟨fun h=>by simp[valOk,h,em,beqI],fun h0=>⟨fun h=> .of (within_ok _ _ _) ?_,fun h1=>⟨fun h=> .of (within_ok _ _ _) ?_,fun h2=>⟨fun h=>by simp[valOk,h],fun h3=>by simp[valOk,h0,h1,h2,h3]⟩⟩⟩⟩
 ·simp[valOk,h,em,within01]
 ·simp[valOk,h,em]
def valLess (a b:GVal):Bool:=valOk a&&valOk b&& (decide (a.fTy<b.fTy)||(decide (a.fTy=b.fTy)&& (decide (a.fN<b.fN)||(decide (a.fN=b.fN)&&Op.bytesLess a.fS.toList b.fS.toList))))
theorem valLessS_ok (a b:GVal):VC Tryz.prog 377 [vVal a,vVal b] [(false,[(.s,.sc (.bool (valLess a b)))])]:=by
 refine vc_of_ew good hm [0,1,2,3,4,12,17] Tryz.func377 rfl (by kernel_rfl) (by kernel_rfl) rfl ?_
 simp[Tryz.f377]
 refine .of (valOkS_ok a) ?_
 simp
 refine .of (fun h=>⟨h,valOkS_ok b⟩) ?_
 simp
 grind[valLess]
theorem valLessI_ok (a b:GVal):VC Tryz.prog 386 [vVal a,vVal b] [(false,[(.s,.sc (.bool (valLess a b)))])]:=by
 refine vc_of_ew good hm [0,1,2,3,4,5,14,25] Tryz.func386 rfl (by kernel_rfl) (by kernel_rfl) rfl ?_
 simp[Tryz.f386]
 refine .of (valOkI_ok a) ?_
 simp
 refine .of (fun h=>⟨h,valOkI_ok b⟩) ?_
 simp
 grind[valLess]
end Go.Proofs.YteeolohhmfjafaaGreat
namespace Go.Proofs.YteeolohhmfjafaaGreat
open Go Go.Proofs Go.Sm
attribute [local simp] ti eStr eInt eByte eVal cVal vVal eValS vValS eRow cRow vRow eCol cCol vCol vColS eStrS vStrS eDdl cDdl vDdl cStmt vStmt ePart vPart vPartS eTable cTable vTable vTableS cCat vCat vRowS eRows vRows vRowsS eDb cDb vDb eFol vFol eSnap cSnap vSnap
set_option linter.unusedVariables false
set_option linter.unusedSimpArgs false
set_option maxRecDepth 8000
def idxF {α:Type} (p:α→Bool) (l:List α):Int:=if l.any p then (l.findIdx p:Int) else-1
def anyT {α:Type} (p:α→Bool) (l:List α) (i:Nat):Bool:=(l.take i).any p
theorem anyT_zero {α:Type} (p:α→Bool) (l:List α):anyT p l 0=false:=by simp[anyT]
theorem anyT_all {α:Type} (p:α→Bool) (l:List α):anyT p l l.length=l.any p:=by simp[anyT]
theorem anyT_succ {α:Type} (p:α→Bool) (d:α) {l:List α} {i:Nat} (h:i<l.length):anyT p l (i+1)=(anyT p l i||p (l[i]?.getD d)):=by
 unfold anyT
 rw[List.take_succ_eq_append_getElem h,List.any_append,List.getElem?_eq_getElem h]
 simp
theorem idxF_at {α:Type} (p:α→Bool) (d:α) {l:List α} {i:Nat} (h:i<l.length) (h0:anyT p l i=false) (hp:p (l[i]?.getD d)=true):idxF p l=i:=by
 rw[List.getElem?_eq_getElem h,Option.getD_some] at hp
 have ha:l.any p=true:=List.any_eq_true.2 ⟨_,List.getElem_mem h,hp⟩
 rw[idxF,if_pos ha,(List.findIdx_eq h).2 ⟨hp,fun j hj=> ?_⟩]
 rw[anyT,List.any_eq_false] at h0
 have:=h0 l[j] (List.mem_take_iff_getElem.2 ⟨j,by omega,rfl⟩)
 simpa using this
theorem idxF_no {α:Type} (p:α→Bool) {l:List α} (h0:l.any p=false):idxF p l= -1:=by simp[idxF,h0]
theorem idxF_ge {α:Type} (p:α→Bool) (l:List α):decide (0≤idxF p l)=l.any p:=by
 unfold idxF
 split
 ·rename_i h;simp[h]
 ·rename_i h;simp only[Bool.not_eq_true] at h;rw[h];rfl
theorem idxF_bd {α:Type} (p:α→Bool) (l:List α): -1≤idxF p l∧idxF p l<l.length:=by
 unfold idxF
 split
 ·rename_i h
  have:=List.findIdx_lt_length.2 (List.any_eq_true.1 h)
  omega
 ·omega
theorem idxTable1_ok (l:List GTable) (k:Nat) (ds:List Lf) (p:GTable→Bool) (hl:okM l.length) (hk: ∀x∈l,VC Tryz.prog k [vTable x,.p (.ps ds)] [(false,[(.s,.sc (.bool (p x)))])]):
  VC Tryz.prog 303 [vTableS l,.fn k [.ps ds]] [(false,[(.s,.sc (.int .i64 (idxF p l)))])]:=by
 unfold okM at hl
 refine vc_of_ew good hm [0,1,4,7,8,9,5,16] Tryz.func303 rfl (by kernel_rfl) (by kernel_rfl) rfl ?_
 simp[Tryz.f303]
 refine ew_loop (fun E=> ∃i:Nat,i≤l.length∧anyT p l i=false∧E= {nt:=19,sl:= [(0,vTableS l),(1,.fn k [.ps ds]),(7,int .i64 l.length),(8,int .i64 i)],bx:= [],rt:= []}) (fun E=>l.length- (E.num 8).toNat) _ (Gh.kb _ [0,1,7,8] [] []) ⟨0,by omega,anyT_zero _ _,by simp⟩ ?_
 rintro E1 ⟨i,hi,hall,rfl⟩
 simp
 refine ⟨fun h=>⟨h,.of (hk _ (getD_mem dTable h)) ?_⟩,fun h=> ?_⟩
 ·simp
  refine ⟨fun hp=>(idxF_at p dTable h hall hp).symm,fun hp=> .of _ (Gh.kb _ [0,1,7,8] [] []) ⟨i+1,by omega,by rw[anyT_succ p dTable h,hall,hp];rfl, ?_⟩ ?_⟩
  ·simp[wrapS (show i<9223372036854775807 by omega)]
  ·simp[wrapS (show i<9223372036854775807 by omega)];omega
 ·have:i=l.length:=by omega
  subst this
  rw[anyT_all] at hall
  exact (idxF_no p hall).symm
theorem idxRow2_ok (l:List GRow) (k:Nat) (ds es:List Lf) (p:GRow→Bool) (hl:okM l.length) (hk: ∀x∈l,VC Tryz.prog k [vRow x,.p (.ps ds),.p (.ps es)] [(false,[(.s,.sc (.bool (p x)))])]):
  VC Tryz.prog 396 [vRowS l,.fn k [.ps ds,.ps es]] [(false,[(.s,.sc (.int .i64 (idxF p l)))])]:=by
 unfold okM at hl
 refine vc_of_ew good hm [0,1,4,7,8,9,5,16] Tryz.func396 rfl (by kernel_rfl) (by kernel_rfl) rfl ?_
 simp[Tryz.f396]
 refine ew_loop (fun E=> ∃i:Nat,i≤l.length∧anyT p l i=false∧E= {nt:=19,sl:= [(0,vRowS l),(1,.fn k [.ps ds,.ps es]),(7,int .i64 l.length),(8,int .i64 i)],bx:= [],rt:= []}) (fun E=>l.length- (E.num 8).toNat) _ (Gh.kb _ [0,1,7,8] [] []) ⟨0,by omega,anyT_zero _ _,by simp⟩ ?_
 rintro E1 ⟨i,hi,hall,rfl⟩
 simp
 refine ⟨fun h=>⟨h,.of (hk _ (getD_mem dRow h)) ?_⟩,fun h=> ?_⟩
 ·simp
  refine ⟨fun hp=>(idxF_at p dRow h hall hp).symm,fun hp=> .of _ (Gh.kb _ [0,1,7,8] [] []) ⟨i+1,by omega,by rw[anyT_succ p dRow h,hall,hp];rfl, ?_⟩ ?_⟩
  ·simp[wrapS (show i<9223372036854775807 by omega)]
  ·simp[wrapS (show i<9223372036854775807 by omega)];omega
 ·have:i=l.length:=by omega
  subst this
  rw[anyT_all] at hall
  exact (idxF_no p hall).symm
theorem idxStr1_ok (l:List ByteArray) (k:Nat) (ds:List Lf) (p:ByteArray→Bool) (hl:okM l.length) (hk: ∀x∈l,VC Tryz.prog k [str x,.p (.ps ds)] [(false,[(.s,.sc (.bool (p x)))])]):
  VC Tryz.prog 403 [vStrS l,.fn k [.ps ds]] [(false,[(.s,.sc (.int .i64 (idxF p l)))])]:=by
 unfold okM at hl
 refine vc_of_ew good hm [0,1,4,7,8,9,5,16] Tryz.func403 rfl (by kernel_rfl) (by kernel_rfl) rfl ?_
 simp[Tryz.f403]
 refine ew_loop (fun E=> ∃i:Nat,i≤l.length∧anyT p l i=false∧E= {nt:=19,sl:= [(0,vStrS l),(1,.fn k [.ps ds]),(7,int .i64 l.length),(8,int .i64 i)],bx:= [],rt:= []}) (fun E=>l.length- (E.num 8).toNat) _ (Gh.kb _ [0,1,7,8] [] []) ⟨0,by omega,anyT_zero _ _,by simp⟩ ?_
 rintro E1 ⟨i,hi,hall,rfl⟩
 simp
 refine ⟨fun h=>⟨h,.of (hk _ (getD_mem (⟨#[]⟩:ByteArray) h)) ?_⟩,fun h=> ?_⟩
 ·simp
  refine ⟨fun hp=>(idxF_at p (⟨#[]⟩:ByteArray) h hall hp).symm,fun hp=> .of _ (Gh.kb _ [0,1,7,8] [] []) ⟨i+1,by omega,by rw[anyT_succ p (⟨#[]⟩:ByteArray) h,hall,hp];rfl, ?_⟩ ?_⟩
  ·simp[wrapS (show i<9223372036854775807 by omega)]
  ·simp[wrapS (show i<9223372036854775807 by omega)];omega
 ·have:i=l.length:=by omega
  subst this
  rw[anyT_all] at hall
  exact (idxF_no p hall).symm
theorem idxCol1_ok (l:List GCol) (k:Nat) (ds:List Lf) (p:GCol→Bool) (hl:okM l.length) (hk: ∀x∈l,VC Tryz.prog k [vCol x,.p (.ps ds)] [(false,[(.s,.sc (.bool (p x)))])]):
  VC Tryz.prog 404 [vColS l,.fn k [.ps ds]] [(false,[(.s,.sc (.int .i64 (idxF p l)))])]:=by
 unfold okM at hl
 refine vc_of_ew good hm [0,1,4,7,8,9,5,16] Tryz.func404 rfl (by kernel_rfl) (by kernel_rfl) rfl ?_
 simp[Tryz.f404]
 refine ew_loop (fun E=> ∃i:Nat,i≤l.length∧anyT p l i=false∧E= {nt:=19,sl:= [(0,vColS l),(1,.fn k [.ps ds]),(7,int .i64 l.length),(8,int .i64 i)],bx:= [],rt:= []}) (fun E=>l.length- (E.num 8).toNat) _ (Gh.kb _ [0,1,7,8] [] []) ⟨0,by omega,anyT_zero _ _,by simp⟩ ?_
 rintro E1 ⟨i,hi,hall,rfl⟩
 simp
 refine ⟨fun h=>⟨h,.of (hk _ (getD_mem dCol h)) ?_⟩,fun h=> ?_⟩
 ·simp
  refine ⟨fun hp=>(idxF_at p dCol h hall hp).symm,fun hp=> .of _ (Gh.kb _ [0,1,7,8] [] []) ⟨i+1,by omega,by rw[anyT_succ p dCol h,hall,hp];rfl, ?_⟩ ?_⟩
  ·simp[wrapS (show i<9223372036854775807 by omega)]
  ·simp[wrapS (show i<9223372036854775807 by omega)];omega
 ·have:i=l.length:=by omega
  subst this
  rw[anyT_all] at hall
  exact (idxF_no p hall).symm
theorem indexStr_ok (l:List ByteArray) (s:ByteArray) (hl:okM l.length):
  VC Tryz.prog 161 [vStrS l,str s] [(false,[(.s,.sc (.int .i64 (idxF (fun x=>s.toList==x.toList) l)))])]:=by
 unfold okM at hl
 refine vc_of_ew good hm [0,1,4,7,8,9,5,16] Tryz.func161 rfl (by kernel_rfl) (by kernel_rfl) rfl ?_
 simp[Tryz.f161]
 refine ew_loop (fun E=> ∃i:Nat,i≤l.length∧anyT (fun x=>s.toList==x.toList) l i=false∧E= {nt:=19,sl:= [(0,vStrS l),(1,str s),(7,int .i64 l.length),(8,int .i64 i)],bx:= [],rt:= []}) (fun E=>l.length- (E.num 8).toNat) _ (Gh.kb _ [0,1,7,8] [] []) ⟨0,by omega,anyT_zero _ _,by simp⟩ ?_
 rintro E1 ⟨i,hi,hall,rfl⟩
 simp
 refine ⟨fun h=>⟨h,fun hp=>(idxF_at _ (⟨#[]⟩:ByteArray) h hall (by simpa using hp)).symm,fun hp=> .of _ (Gh.kb _ [0,1,7,8] [] []) ⟨i+1,by omega,by rw[anyT_succ _ (⟨#[]⟩:ByteArray) h,hall];simpa using hp, ?_⟩ ?_⟩,fun h=> ?_⟩
 ·simp[wrapS (show i<9223372036854775807 by omega)]
 ·simp[wrapS (show i<9223372036854775807 by omega)];omega
 ·have:i=l.length:=by omega
  subst this
  rw[anyT_all] at hall
  exact (idxF_no _ hall).symm
theorem hasStr1_ok (l:List ByteArray) (k:Nat) (ds:List Lf) (p:ByteArray→Bool) (hl:okM l.length) (hk: ∀x∈l,VC Tryz.prog k [str x,.p (.ps ds)] [(false,[(.s,.sc (.bool (p x)))])]):
  VC Tryz.prog 337 [vStrS l,.fn k [.ps ds]] [(false,[(.s,.sc (.bool (l.any p)))])]:=by
 refine vc_of_ew good hm [0,1,4] Tryz.func337 rfl (by kernel_rfl) (by kernel_rfl) rfl ?_
 simp[Tryz.f337]
 refine .of (idxStr1_ok l k ds p hl hk) ?_
 simp
 exact idxF_ge p l
theorem containsStr_ok (l:List ByteArray) (s:ByteArray) (hl:okM l.length):
  VC Tryz.prog 415 [vStrS l,str s] [(false,[(.s,.sc (.bool (l.any (fun x=>s.toList==x.toList))))])]:=by
 refine vc_of_ew good hm [0,1,4] Tryz.func415 rfl (by kernel_rfl) (by kernel_rfl) rfl ?_
 simp[Tryz.f415]
 refine .of (indexStr_ok l s hl) ?_
 simp
 rw[idxF_ge]
end Go.Proofs.YteeolohhmfjafaaGreat
namespace Go.Proofs.YteeolohhmfjafaaGreat
open Go Go.Proofs Go.Sm
attribute [local simp] ti eStr eInt eByte eVal cVal vVal eValS vValS eRow cRow vRow eCol cCol vCol vColS eStrS vStrS eDdl cDdl vDdl cStmt vStmt ePart vPart vPartS eTable cTable vTable vTableS cCat vCat vRowS eRows vRows vRowsS eDb cDb vDb eFol vFol eSnap cSnap vSnap
set_option linter.unusedVariables false
set_option linter.unusedSimpArgs false
set_option maxRecDepth 8000
def colOk (c:GCol):Bool:=wordOk c.fName&&within c.fTy 1 3&& (if c.fHas then valOk c.fDef&& (decide (c.fDef.fTy=c.fTy)||(decide (c.fDef.fTy=0)&& !c.fNot)) else nullV c.fDef)
theorem colOkS_ok (c:GCol) (hc:okCol c):VC Tryz.prog 375 [vCol c] [(false,[(.s,.sc (.bool (colOk c)))])]:=by
 refine vc_of_ew good hm [0,1,2,3,21,24] Tryz.func375 rfl (by kernel_rfl) (by kernel_rfl) rfl ?_
 simp[Tryz.f375]
 refine .of (wordOkS_ok _ hc.1) ?_
 simp[beqI]
 refine ⟨fun h=>by grind[colOk,within],fun h1 h2 h3=>⟨fun h4=>by grind[colOk,nullV,em,within],fun h4=> .of (valOkS_ok _) ?_⟩⟩
 simp
 grind[colOk,nullV,em,within,valOk]
theorem colOkI_ok (c:GCol) (hc:okCol c):VC Tryz.prog 306 [vCol c] [(false,[(.s,.sc (.bool (colOk c)))])]:=by
 refine vc_of_ew good hm [0,1,2,18,21] Tryz.func306 rfl (by kernel_rfl) (by kernel_rfl) rfl ?_
 simp[Tryz.f306]
 refine .of (wordOkI_ok _ hc.1) ?_
 simp[beqI]
 refine .of (fun h=>⟨h,within_ok _ _ _⟩) ?_
 simp[beqI]
 refine .of (fun h=>⟨h,valOkI_ok _⟩) ?_
 simp[beqI]
 grind[colOk,nullV,em,within,valOk]
def colAt (t:GTable) (s:ByteArray):Int:=idxF (fun c:GCol=>c.fName.toList==s.toList) t.fCols
theorem colAtS_ok (t:GTable) (s:ByteArray) (hl:okM t.fCols.length):VC Tryz.prog 333 [vTable t,str s] [(false,[(.s,.sc (.int .i64 (colAt t s)))])]:=by
 unfold okM at hl
 refine vc_of_ew good hm [0,1,2,4,8,9,10,11,6,5,18] Tryz.func333 rfl (by kernel_rfl) (by kernel_rfl) rfl ?_
 simp[Tryz.f333]
 refine ew_loop (fun E=> ∃i:Nat,i≤t.fCols.length∧anyT (fun c:GCol=>c.fName.toList==s.toList) t.fCols i=false∧E= {nt:=21,sl:= [(1,str s),(8,vColS t.fCols),(9,int .i64 t.fCols.length),(10,int .i64 i)],bx:= [],rt:= []}) (fun E=>t.fCols.length- (E.num 10).toNat) _ (Gh.kb _ [1,8,9,10] [] []) ⟨0,by omega,anyT_zero _ _,by simp⟩ ?_
 rintro E1 ⟨i,hi,hall,rfl⟩
 simp
 refine ⟨fun h=>⟨h,fun hp=>(idxF_at _ dCol h hall (by simpa using hp)).symm,fun hp=> .of _ (Gh.kb _ [1,8,9,10] [] []) ⟨i+1,by omega,by rw[anyT_succ _ dCol h,hall];simpa using hp, ?_⟩ ?_⟩,fun h=> ?_⟩
 ·simp[wrapS (show i<9223372036854775807 by omega)]
 ·simp[wrapS (show i<9223372036854775807 by omega)];omega
 ·have:i=t.fCols.length:=by omega
  subst this
  rw[anyT_all] at hall
  exact (idxF_no _ hall).symm
theorem colAt1_ok (c:GCol) (s:ByteArray):VC Tryz.prog 405 [vCol c,.p (.ps [.sc (.string s)])] [(false,[(.s,.sc (.bool (c.fName.toList==s.toList)))])]:=by
 refine vc_of_ew good hm [0,1,2,3] Tryz.func405 rfl (by kernel_rfl) (by kernel_rfl) rfl ?_
 simp[Tryz.f405]
theorem colAtI_ok (t:GTable) (s:ByteArray) (hl:okM t.fCols.length):VC Tryz.prog 339 [vTable t,str s] [(false,[(.s,.sc (.int .i64 (colAt t s)))])]:=by
 refine vc_of_ew good hm [0,1,2,3,4] Tryz.func339 rfl (by kernel_rfl) (by kernel_rfl) rfl ?_
 simp[Tryz.f339]
 refine .of (idxCol1_ok t.fCols _ _ (fun c:GCol=>c.fName.toList==s.toList) hl (fun x _=>colAt1_ok x s)) ?_
 simp[colAt]
end Go.Proofs.YteeolohhmfjafaaGreat
namespace Go.Proofs.YteeolohhmfjafaaGreat
open Go Go.Proofs Go.Sm
attribute [local simp] ti eStr eInt eByte eVal cVal vVal eValS vValS eRow cRow vRow eCol cCol vCol vColS eStrS vStrS eDdl cDdl vDdl cStmt vStmt ePart vPart vPartS eTable cTable vTable vTableS cCat vCat vRowS eRows vRows vRowsS eDb cDb vDb eFol vFol eSnap cSnap vSnap
set_option linter.unusedVariables false
set_option linter.unusedSimpArgs false
set_option maxRecDepth 8000
def colsOkAt (t:GTable) (i:Nat):Bool:=colOk (t.fCols[i]?.getD dCol)&&decide (colAt t (t.fCols[i]?.getD dCol).fName=i)
def colsTo (t:GTable) (n:Nat):Bool:=(List.range n).all (colsOkAt t)
def lastK (t:GTable) (i:Nat):Int:=if i=0 then-1 else colAt t (t.fKeys[i-1]?.getD ⟨#[]⟩)
def keyOkAt (t:GTable) (i:Nat):Bool:=decide (lastK t i<colAt t (t.fKeys[i]?.getD ⟨#[]⟩))&& (t.fCols[(colAt t (t.fKeys[i]?.getD ⟨#[]⟩)).toNat]?.getD dCol).fNot
def keysTo (t:GTable) (n:Nat):Bool:=(List.range n).all (keyOkAt t)
def tableOk (t:GTable):Bool:=wordOk t.fName&& (within t.fCols.length 1 8&&decide (0<t.fKeys.length))&& (colsTo t t.fCols.length&&keysTo t t.fKeys.length)
theorem colsTo_no {t:GTable} {i:Nat} (hi:i<t.fCols.length) (h:colsOkAt t i=false):tableOk t=false:=by
 simp[tableOk,colsTo,rangeAll_no hi h]
theorem keysTo_no {t:GTable} {i:Nat} (hi:i<t.fKeys.length) (h:keyOkAt t i=false):tableOk t=false:=by
 simp[tableOk,keysTo,rangeAll_no hi h]
theorem lastK_succ (t:GTable) (i:Nat):lastK t (i+1)=colAt t (t.fKeys[i]?.getD ⟨#[]⟩):=by simp[lastK]
theorem lastK_ge (t:GTable) (i:Nat): -1≤lastK t i:=by
 unfold lastK
 split
 ·omega
 ·exact (idxF_bd _ _).1
theorem tableOkS_ok (t:GTable) (ht:okTable t):VC Tryz.prog 280 [vTable t] [(false,[(.s,.sc (.bool (tableOk t)))])]:=by
 obtain ⟨hn,hc,hk,_⟩:=ht
 have hcl:t.fCols.length≤9223372036854775807:=hc.1
 have hkl:t.fKeys.length≤9223372036854775807:=hk.1
 refine vc_of_ew good hm [0,1,2,30,32,33,34,35,4,3,49,5,52,53,54,55,7,8,72] Tryz.func280 rfl (by kernel_rfl) (by kernel_rfl) rfl ?_
 simp[Tryz.f280]
 refine .of (wordOkS_ok _ hn) ?_
 simp
 refine ⟨fun h=>by grind[tableOk,within],fun a1 a2 a3 a4=> ?_⟩
 refine ew_loop (fun E=> ∃i:Nat,i≤t.fCols.length∧colsTo t i=true∧E= {nt:=75,sl:= [(1,.p (.bx 1 0)),(32,vColS t.fCols),(33,int .i64 t.fCols.length),(34,int .i64 i)],bx:= [(1,cTable t)],rt:= []}) (fun E=>t.fCols.length- (E.num 34).toNat) _ (Gh.kb _ [1,32,33,34] [1] []) ⟨0,by omega,by simp[colsTo],by simp⟩ ?_
 rintro E1 ⟨i,hi,hall,rfl⟩
 simp
 refine ⟨fun h=>⟨h,.of (colOkS_ok _ (hc.2 _ (getD_mem dCol h))) ?_⟩,fun h=> ?_⟩
 ·simp
  refine .of (fun h=>⟨h,colAtS_ok _ _ hc.1⟩) ?_
  simp
  have hat:colsOkAt t i=(colOk (t.fCols[i]?.getD dCol)&&decide (colAt t (t.fCols[i]?.getD dCol).fName=i)):=rfl
  refine ⟨fun hb=>colsTo_no h (by grind),fun h1 h2=> .of _ (Gh.kb _ [1,32,33,34] [1] []) ⟨i+1,by omega, ?_, ?_⟩ ?_⟩
  ·rw[colsTo,rangeAll_succ];unfold colsTo at hall;grind
  ·simp[wrapS (show i<9223372036854775807 by omega)]
  ·simp[wrapS (show i<9223372036854775807 by omega)];omega
 ·have hil:i=t.fCols.length:=by omega
  subst hil
  refine ew_loop (fun E=> ∃i:Nat,i≤t.fKeys.length∧keysTo t i=true∧E= {nt:=75,sl:= [(1,.p (.bx 1 0)),(5,int .i64 (lastK t i)),(52,vStrS t.fKeys),(53,int .i64 t.fKeys.length),(54,int .i64 i)],bx:= [(1,cTable t)],rt:= []}) (fun E=>t.fKeys.length- (E.num 54).toNat) _ (Gh.kb _ [1,5,52,53,54] [1] []) ⟨0,by omega,by simp[keysTo],by simp[lastK]⟩ ?_
  rintro E1 ⟨j,hj,hkall,rfl⟩
  simp
  refine ⟨fun h=>⟨h,.of (colAtS_ok _ _ hc.1) ?_⟩,fun h=> ?_⟩
  ·simp
   have hb:=idxF_bd (fun c:GCol=>c.fName.toList==(t.fKeys[j]?.getD ⟨#[]⟩).toList) t.fCols
   have hlg:=lastK_ge t j
   rw[show idxF (fun c:GCol=>c.fName.toList==(t.fKeys[j]?.getD ⟨#[]⟩).toList) t.fCols=colAt t (t.fKeys[j]?.getD ⟨#[]⟩) from rfl] at hb
   have hat:keyOkAt t j=(decide (lastK t j<colAt t (t.fKeys[j]?.getD ⟨#[]⟩))&& (t.fCols[(colAt t (t.fKeys[j]?.getD ⟨#[]⟩)).toNat]?.getD dCol).fNot):=rfl
   refine ⟨fun h1=>⟨h1,by omega,by omega⟩,fun hb=>keysTo_no h (by grind),fun h1 h2=> .of _ (Gh.kb _ [1,5,52,53,54] [1] []) ⟨j+1,by omega, ?_, ?_⟩ ?_⟩
   ·rw[keysTo,rangeAll_succ];unfold keysTo at hkall;grind
   ·simp[wrapS (show j<9223372036854775807 by omega),lastK_succ]
   ·simp[wrapS (show j<9223372036854775807 by omega)];omega
  ·have hjl:j=t.fKeys.length:=by omega
   subst hjl
   grind[tableOk,within]
theorem tableOkI_ok (t:GTable) (ht:okTable t):VC Tryz.prog 299 [vTable t] [(false,[(.s,.sc (.bool (tableOk t)))])]:=by
 obtain ⟨hn,hc,hk,_⟩:=ht
 have hcl:t.fCols.length≤9223372036854775807:=hc.1
 have hkl:t.fKeys.length≤9223372036854775807:=hk.1
 refine vc_of_ew good hm [0,1,2,10,11,12,13,4,3,27,5,30,31,32,33,7,8,50] Tryz.func299 rfl (by kernel_rfl) (by kernel_rfl) rfl ?_
 simp[Tryz.f299]
 refine ew_loop (fun E=> ∃i:Nat,i≤t.fCols.length∧colsTo t i=true∧E= {nt:=68,sl:= [(1,.p (.bx 1 0)),(10,vColS t.fCols),(11,int .i64 t.fCols.length),(12,int .i64 i)],bx:= [(1,cTable t)],rt:= []}) (fun E=>t.fCols.length- (E.num 12).toNat) _ (Gh.kb _ [1,10,11,12] [1] []) ⟨0,by omega,by simp[colsTo],by simp⟩ ?_
 rintro E1 ⟨i,hi,hall,rfl⟩
 simp
 refine ⟨fun h=>⟨h,.of (colOkI_ok _ (hc.2 _ (getD_mem dCol h))) ?_⟩,fun h=> ?_⟩
 ·simp
  refine .of (fun h=>⟨h,colAtI_ok _ _ hc.1⟩) ?_
  simp
  have hat:colsOkAt t i=(colOk (t.fCols[i]?.getD dCol)&&decide (colAt t (t.fCols[i]?.getD dCol).fName=i)):=rfl
  refine ⟨fun hb=>colsTo_no h (by grind),fun h1 h2=> .of _ (Gh.kb _ [1,10,11,12] [1] []) ⟨i+1,by omega, ?_, ?_⟩ ?_⟩
  ·rw[colsTo,rangeAll_succ];unfold colsTo at hall;grind
  ·simp[wrapS (show i<9223372036854775807 by omega)]
  ·simp[wrapS (show i<9223372036854775807 by omega)];omega
 ·have hil:i=t.fCols.length:=by omega
  subst hil
  refine ew_loop (fun E=> ∃i:Nat,i≤t.fKeys.length∧keysTo t i=true∧E= {nt:=68,sl:= [(1,.p (.bx 1 0)),(5,int .i64 (lastK t i)),(30,vStrS t.fKeys),(31,int .i64 t.fKeys.length),(32,int .i64 i)],bx:= [(1,cTable t)],rt:= []}) (fun E=>t.fKeys.length- (E.num 32).toNat) _ (Gh.kb _ [1,5,30,31,32] [1] []) ⟨0,by omega,by simp[keysTo],by simp[lastK]⟩ ?_
  rintro E1 ⟨j,hj,hkall,rfl⟩
  simp
  refine ⟨fun h=>⟨h,.of (colAtI_ok _ _ hc.1) ?_⟩,fun h=> ?_⟩
  ·simp
   have hb:=idxF_bd (fun c:GCol=>c.fName.toList==(t.fKeys[j]?.getD ⟨#[]⟩).toList) t.fCols
   have hlg:=lastK_ge t j
   rw[show idxF (fun c:GCol=>c.fName.toList==(t.fKeys[j]?.getD ⟨#[]⟩).toList) t.fCols=colAt t (t.fKeys[j]?.getD ⟨#[]⟩) from rfl] at hb
   have hat:keyOkAt t j=(decide (lastK t j<colAt t (t.fKeys[j]?.getD ⟨#[]⟩))&& (t.fCols[(colAt t (t.fKeys[j]?.getD ⟨#[]⟩)).toNat]?.getD dCol).fNot):=rfl
   refine ⟨fun h1=>⟨h1,by omega,by omega⟩,fun hb=>keysTo_no h (by grind),fun h1 h2=> .of _ (Gh.kb _ [1,5,30,31,32] [1] []) ⟨j+1,by omega, ?_, ?_⟩ ?_⟩
   ·rw[keysTo,rangeAll_succ];unfold keysTo at hkall;grind
   ·simp[wrapS (show j<9223372036854775807 by omega),lastK_succ]
   ·simp[wrapS (show j<9223372036854775807 by omega)];omega
  ·have hjl:j=t.fKeys.length:=by omega
   subst hjl
   refine .of (wordOkI_ok _ hn) ?_
   simp
   refine .of (fun h=>⟨h,within_ok _ _ _⟩) ?_
   simp
   grind[tableOk,within]
end Go.Proofs.YteeolohhmfjafaaGreat
namespace Go.Proofs.YteeolohhmfjafaaGreat
open Go Go.Proofs Go.Sm
attribute [local simp] ti eStr eInt eByte eVal cVal vVal eValS vValS eRow cRow vRow eCol cCol vCol vColS eStrS vStrS eDdl cDdl vDdl cStmt vStmt ePart vPart vPartS eTable cTable vTable vTableS cCat vCat vRowS eRows vRows vRowsS eDb cDb vDb eFol vFol eSnap cSnap vSnap
set_option linter.unusedVariables false
set_option linter.unusedSimpArgs false
set_option maxRecDepth 8000
def keyOf (t:GTable) (r:GRow):List GVal:=t.fKeys.map fun k=>r.fVals[(colAt t k).toNat]?.getD dVal
def keysIn (t:GTable) (r:GRow):Prop:= ∀k∈t.fKeys,0≤colAt t k∧colAt t k<r.fVals.length
def keyTo (t:GTable) (r:GRow) (i:Nat):List GVal:=(t.fKeys.take i).map fun k=>r.fVals[(colAt t k).toNat]?.getD dVal
theorem keyTo_zero (t:GTable) (r:GRow):keyTo t r 0= []:=rfl
theorem keyTo_all (t:GTable) (r:GRow):keyTo t r t.fKeys.length=keyOf t r:=by simp[keyTo,keyOf]
theorem keyTo_len (t:GTable) (r:GRow) {i:Nat} (h:i≤t.fKeys.length):(keyTo t r i).length=i:=by simp[keyTo];omega
theorem keyTo_succ (t:GTable) (r:GRow) {i:Nat} (h:i<t.fKeys.length):keyTo t r (i+1)=keyTo t r i++ [r.fVals[(colAt t (t.fKeys[i]?.getD ⟨#[]⟩)).toNat]?.getD dVal]:=by
 unfold keyTo
 rw[List.take_succ_eq_append_getElem h,List.map_append,List.getElem?_eq_getElem h]
 rfl
theorem keyS_ok (t:GTable) (r:GRow) (ht:okTable t) (hk:t.fKeys.length≤1048576) (hin:keysIn t r):VC Tryz.prog 283 [vTable t,vRow r] [(false,mValS (keyOf t r))]:=by
 refine vc_of_ew good hm [0,1,2,3,4,5,10,11,12,13,7] Tryz.func283 rfl (by kernel_rfl) (by kernel_rfl) rfl ?_
 simp[Tryz.f283,mValS]
 refine ew_loop (fun E=> ∃i:Nat,i≤t.fKeys.length∧E= {nt:=28,sl:= [(2,.p (.bx 2 0)),(3,.p (.bx 3 0)),(5,.v false [.r [8]]),(10,vStrS t.fKeys),(11,int .i64 t.fKeys.length),(12,int .i64 i)],bx:= [(2,cTable t),(3,cRow r)],rt:= [(8,.o 234 (fun _=> [.s,.s,.s]),.ls [.sc (.int .i64 0),.sc (.int .i64 0),.sc (.string ⟨#[]⟩)] ((keyTo t r i).map eVal))]}) (fun E=>t.fKeys.length- (E.num 12).toNat) _ (Gh.kb _ [2,3,5,10,11,12] [2,3] [8]) ⟨0,by omega,by simp[keyTo_zero]⟩ ?_
 rintro E1 ⟨i,hi,rfl⟩
 have hl:=keyTo_len t r hi
 simp
 refine ⟨fun h=>⟨h,.of (colAtS_ok t _ ht.2.1.1) ?_⟩,fun h=> ?_⟩
 ·simp
  have hb:=hin _ (getD_mem (⟨#[]⟩:ByteArray) h)
  refine ⟨hb,by rw[hl];omega,.of _ ((Gh.kb _ [2,3,5,10,11,12] [2,3] [25]).trans (Gh.rn _ 25 8)) ⟨i+1,by omega, ?_⟩ ?_⟩
  ·simp[wrapS (show i<9223372036854775807 by omega),keyTo_succ t r h]
  ·simp[wrapS (show i<9223372036854775807 by omega)];omega
 ·have:i=t.fKeys.length:=by omega
  subst this
  rw[keyTo_all]
theorem keyI_ok (t:GTable) (r:GRow) (ht:okTable t) (hk:t.fKeys.length≤1048576) (hin:keysIn t r):VC Tryz.prog 302 [vTable t,vRow r] [(false,mValS (keyOf t r))]:=by
 refine vc_of_ew good hm [0,1,2,3,4,5,10,11,12,13,7] Tryz.func302 rfl (by kernel_rfl) (by kernel_rfl) rfl ?_
 simp[Tryz.f302,mValS]
 refine ew_loop (fun E=> ∃i:Nat,i≤t.fKeys.length∧E= {nt:=28,sl:= [(2,.p (.bx 2 0)),(3,.p (.bx 3 0)),(5,.v false [.r [8]]),(10,vStrS t.fKeys),(11,int .i64 t.fKeys.length),(12,int .i64 i)],bx:= [(2,cTable t),(3,cRow r)],rt:= [(8,.o 234 (fun _=> [.s,.s,.s]),.ls [.sc (.int .i64 0),.sc (.int .i64 0),.sc (.string ⟨#[]⟩)] ((keyTo t r i).map eVal))]}) (fun E=>t.fKeys.length- (E.num 12).toNat) _ (Gh.kb _ [2,3,5,10,11,12] [2,3] [8]) ⟨0,by omega,by simp[keyTo_zero]⟩ ?_
 rintro E1 ⟨i,hi,rfl⟩
 have hl:=keyTo_len t r hi
 simp
 refine ⟨fun h=>⟨h,.of (colAtI_ok t _ ht.2.1.1) ?_⟩,fun h=> ?_⟩
 ·simp
  have hb:=hin _ (getD_mem (⟨#[]⟩:ByteArray) h)
  refine ⟨hb,by rw[hl];omega,.of _ ((Gh.kb _ [2,3,5,10,11,12] [2,3] [25]).trans (Gh.rn _ 25 8)) ⟨i+1,by omega, ?_⟩ ?_⟩
  ·simp[wrapS (show i<9223372036854775807 by omega),keyTo_succ t r h]
  ·simp[wrapS (show i<9223372036854775807 by omega)];omega
 ·have:i=t.fKeys.length:=by omega
  subst this
  rw[keyTo_all]
def veq (x y:GVal):Bool:=x.fTy==y.fTy&& (x.fN==y.fN&&x.fS.toList==y.fS.toList)
def keyLess:List GVal→List GVal→Bool
 | [],b=> !b.isEmpty
 |_::_,[]=>false
 |x::a,y::b=>if veq x y=true then keyLess a b else valLess x y
theorem keyLess_at {a b:List GVal} {i:Nat} (h1:i<a.length) (h2:i<b.length):keyLess (a.drop i) (b.drop i)=if veq (a[i]?.getD dVal) (b[i]?.getD dVal)=true then keyLess (a.drop (i+1)) (b.drop (i+1)) else valLess (a[i]?.getD dVal) (b[i]?.getD dVal):=by
 rw[List.drop_eq_getElem_cons h1,List.drop_eq_getElem_cons h2,List.getElem?_eq_getElem h1,List.getElem?_eq_getElem h2]
 rfl
theorem keyLess_end {a b:List GVal} {i:Nat} (h1:i≤a.length) (h2:i≤b.length) (h: ¬(i<a.length∧i<b.length)):keyLess (a.drop i) (b.drop i)=decide (a.length<b.length):=by
 by_cases h3:i<a.length
 ·have:b.length=i:=by omega
  rw[List.drop_eq_getElem_cons h3,List.drop_eq_nil_of_le (by omega:b.length≤i)]
  simp[keyLess]
  omega
 ·rw[List.drop_eq_nil_of_le (by omega:a.length≤i)]
  simp only[keyLess]
  rw[Bool.eq_iff_iff]
  simp
  omega
theorem keyLessS_ok (a b:List GVal) (ha:okM a.length) (hb:okM b.length):VC Tryz.prog 282 [vValS a,vValS b] [(false,[(.s,.sc (.bool (keyLess a b)))])]:=by
 unfold okM at ha hb
 refine vc_of_ew good hm [0,1,4,5,15,26] Tryz.func282 rfl (by kernel_rfl) (by kernel_rfl) rfl ?_
 simp[Tryz.f282]
 refine ew_loop (fun E=> ∃i:Nat,i≤a.length∧i≤b.length∧keyLess (a.drop i) (b.drop i)=keyLess a b∧E= {nt:=41,sl:= [(0,vValS a),(1,vValS b),(5,int .i64 i)],bx:= [],rt:= []}) (fun E=>a.length- (E.num 5).toNat) _ (Gh.kb _ [0,1,5] [] []) ⟨0,by omega,by omega,rfl,by simp⟩ ?_
 rintro E1 ⟨i,hi,hj,hall,rfl⟩
 simp
 have hE: ¬(i<a.length∧i<b.length)→(decide (a.length<b.length))=keyLess a b:=fun h=>by
  rw[←hall,keyLess_end hi hj h]
 refine ⟨fun h1 h2=>⟨h1,h2,fun hne=>⟨h1,h2,.of (valLessS_ok _ _) ?_⟩,fun e1 e2 e3=> .of _ (Gh.kb _ [0,1,5] [] []) ⟨i+1,by omega,by omega, ?_, ?_⟩ ?_⟩,fun h=> ?_⟩
 ·simp
  rw[←hall,keyLess_at h1 h2,if_neg]
  simp only[veq,Bool.and_eq_true,beq_iff_eq]
  grind
 ·rw[←hall,keyLess_at h1 h2,if_pos]
  simp[veq,e1,e2,e3]
 ·simp[wrapS (show i<9223372036854775807 by omega)]
 ·simp[wrapS (show i<9223372036854775807 by omega)];omega
 ·exact hE (by omega)
theorem keyLessI_ok (a b:List GVal) (ha:okM a.length) (hb:okM b.length):VC Tryz.prog 301 [vValS a,vValS b] [(false,[(.s,.sc (.bool (keyLess a b)))])]:=by
 unfold okM at ha hb
 refine vc_of_ew good hm [0,1,4,5,15,26] Tryz.func301 rfl (by kernel_rfl) (by kernel_rfl) rfl ?_
 simp[Tryz.f301]
 refine ew_loop (fun E=> ∃i:Nat,i≤a.length∧i≤b.length∧keyLess (a.drop i) (b.drop i)=keyLess a b∧E= {nt:=41,sl:= [(0,vValS a),(1,vValS b),(5,int .i64 i)],bx:= [],rt:= []}) (fun E=>a.length- (E.num 5).toNat) _ (Gh.kb _ [0,1,5] [] []) ⟨0,by omega,by omega,rfl,by simp⟩ ?_
 rintro E1 ⟨i,hi,hj,hall,rfl⟩
 simp
 have hE: ¬(i<a.length∧i<b.length)→(decide (a.length<b.length))=keyLess a b:=fun h=>by
  rw[←hall,keyLess_end hi hj h]
 refine ⟨fun h1 h2=>⟨h1,h2,fun hne=>⟨h1,h2,.of (valLessI_ok _ _) ?_⟩,fun e1 e2 e3=> .of _ (Gh.kb _ [0,1,5] [] []) ⟨i+1,by omega,by omega, ?_, ?_⟩ ?_⟩,fun h=> ?_⟩
 ·simp
  rw[←hall,keyLess_at h1 h2,if_neg]
  simp only[veq,Bool.and_eq_true,beq_iff_eq]
  grind
 ·rw[←hall,keyLess_at h1 h2,if_pos]
  simp[veq,e1,e2,e3]
 ·simp[wrapS (show i<9223372036854775807 by omega)]
 ·simp[wrapS (show i<9223372036854775807 by omega)];omega
 ·exact hE (by omega)
def stands (c:GCol) (v:GVal):Bool:=valOk v&& (decide (v.fTy=c.fTy)||(decide (v.fTy=0)&& !c.fNot))
def fits (c:GCol) (v:GVal):Bool:=if v.fTy=0 then valOk v&& !c.fNot else valOk v&&decide (v.fTy=c.fTy)
theorem fits_eq {c:GCol} (h:colOk c=true) (v:GVal):fits c v=stands c v:=by
 have:1≤c.fTy:=by
  simp only[colOk,within,Bool.and_eq_true,decide_eq_true_eq] at h
  exact h.1.2.1
 unfold fits stands
 grind
theorem fits_ok (c:GCol) (v:GVal):VC Tryz.prog 376 [vCol c,vVal v] [(false,[(.s,.sc (.bool (fits c v)))])]:=by
 refine vc_of_ew good hm [0,1,2,3,4,7] Tryz.func376 rfl (by kernel_rfl) (by kernel_rfl) rfl ?_
 simp[Tryz.f376,beqI]
 refine ⟨fun h=> .of (valOkS_ok v) ?_,fun h=> .of (valOkS_ok v) ?_⟩
 ·simp
  grind[fits]
 ·simp[beqI]
  grind[fits]
theorem stands_ok (c:GCol) (v:GVal):VC Tryz.prog 385 [vCol c,vVal v] [(false,[(.s,.sc (.bool (stands c v)))])]:=by
 refine vc_of_ew good hm [0,1,2,3,4] Tryz.func385 rfl (by kernel_rfl) (by kernel_rfl) rfl ?_
 simp[Tryz.f385,beqI]
 refine .of (valOkI_ok v) ?_
 simp[beqI]
 grind[stands]
def rowAt (t:GTable) (r:GRow) (i:Nat):Bool:=stands (t.fCols[i]?.getD dCol) (r.fVals[i]?.getD dVal)
def rowTo (t:GTable) (r:GRow) (n:Nat):Bool:=(List.range n).all (rowAt t r)
def rowFit (t:GTable) (r:GRow):Bool:=decide (r.fVals.length=t.fCols.length)&&rowTo t r r.fVals.length
theorem tableOk_col {t:GTable} (h:tableOk t=true) {i:Nat} (hi:i<t.fCols.length):colOk (t.fCols[i]?.getD dCol)=true:=by
 simp only[tableOk,colsTo,Bool.and_eq_true,List.all_eq_true,List.mem_range] at h
 have:=h.2.1 i hi
 simp only[colsOkAt,Bool.and_eq_true] at this
 exact this.1
theorem tableOk_keys {t:GTable} (h:tableOk t=true) {r:GRow} (hr:rowFit t r=true):keysIn t r:=by
 intro k hk
 simp only[tableOk,keysTo,Bool.and_eq_true,List.all_eq_true,List.mem_range] at h
 obtain ⟨j,hj,rfl⟩:=List.getElem_of_mem hk
 have h1:=h.2.2 j hj
 have h2:=lastK_ge t j
 have hb:=idxF_bd (fun c:GCol=>c.fName.toList==(t.fKeys[j]).toList) t.fCols
 rw[show idxF (fun c:GCol=>c.fName.toList==(t.fKeys[j]).toList) t.fCols=colAt t (t.fKeys[j]) from rfl] at hb
 simp only[keyOkAt,Bool.and_eq_true,decide_eq_true_eq,List.getElem?_eq_getElem hj,Option.getD_some] at h1
 simp only[rowFit,Bool.and_eq_true,decide_eq_true_eq] at hr
 omega
theorem rowFit_no {t:GTable} {r:GRow} {i:Nat} (hi:i<r.fVals.length) (h:rowAt t r i=false):rowFit t r=false:=by
 simp[rowFit,rowTo,rangeAll_no hi h]
theorem rowOkS_ok (t:GTable) (r:GRow) (ht:okTable t) (hr:okM r.fVals.length):VC Tryz.prog 281 [vTable t,vRow r] [(false,[(.s,.sc (.bool (tableOk t&&rowFit t r)))])]:=by
 have hcl:t.fCols.length≤9223372036854775807:=ht.2.1.1
 refine vc_of_ew good hm [0,1,2,3,4,18,20,21,22,23,6,5,34] Tryz.func281 rfl (by kernel_rfl) (by kernel_rfl) rfl ?_
 simp[Tryz.f281]
 refine .of (tableOkS_ok t ht) ?_
 simp
 refine ⟨fun h h1=>by grind[rowFit],fun h1 h2=> ?_⟩
 have h2':r.fVals.length=t.fCols.length:=by omega
 refine ew_loop (fun E=> ∃i:Nat,i≤t.fCols.length∧rowTo t r i=true∧E= {nt:=36,sl:= [(3,.p (.bx 3 0)),(20,vColS t.fCols),(21,int .i64 t.fCols.length),(22,int .i64 i)],bx:= [(3,cRow r)],rt:= []}) (fun E=>t.fCols.length- (E.num 22).toNat) _ (Gh.kb _ [3,20,21,22] [3] []) ⟨0,by omega,by simp[rowTo],by simp⟩ ?_
 rintro E1 ⟨i,hi,hall,rfl⟩
 simp
 refine ⟨fun h=>⟨h,by omega,.of (fits_ok _ _) ?_⟩,fun h=> ?_⟩
 ·simp
  rw[fits_eq (tableOk_col h1 h)]
  have hat:rowAt t r i=stands (t.fCols[i]?.getD dCol) (r.fVals[i]?.getD dVal):=rfl
  refine ⟨fun hb=>by rw[rowFit_no (by omega) (hat.trans hb)];simp,fun hb=> .of _ (Gh.kb _ [3,20,21,22] [3] []) ⟨i+1,by omega, ?_, ?_⟩ ?_⟩
  ·rw[rowTo,rangeAll_succ];unfold rowTo at hall;grind
  ·simp[wrapS (show i<9223372036854775807 by omega)]
  ·simp[wrapS (show i<9223372036854775807 by omega)];omega
 ·have:i=t.fCols.length:=by omega
  subst this
  rw[←h2'] at hall
  simp[rowFit,h1,h2',hall]
  rwa [h2'] at hall
theorem rowOkI_ok (t:GTable) (r:GRow) (ht:okTable t) (hr:okM r.fVals.length):VC Tryz.prog 300 [vTable t,vRow r] [(false,[(.s,.sc (.bool (rowFit t r)))])]:=by
 have hcl:r.fVals.length≤9223372036854775807:=hr
 refine vc_of_ew good hm [0,1,2,3,4,13,15,16,17,18,6,5,29] Tryz.func300 rfl (by kernel_rfl) (by kernel_rfl) rfl ?_
 simp[Tryz.f300]
 refine ⟨fun h=>by grind[rowFit],fun h2=> ?_⟩
 have h2':r.fVals.length=t.fCols.length:=by omega
 refine ew_loop (fun E=> ∃i:Nat,i≤r.fVals.length∧rowTo t r i=true∧E= {nt:=31,sl:= [(2,.p (.bx 2 0)),(15,vValS r.fVals),(16,int .i64 r.fVals.length),(17,int .i64 i)],bx:= [(2,cTable t)],rt:= []}) (fun E=>r.fVals.length- (E.num 17).toNat) _ (Gh.kb _ [2,15,16,17] [2] []) ⟨0,by omega,by simp[rowTo],by simp⟩ ?_
 rintro E1 ⟨i,hi,hall,rfl⟩
 simp
 refine ⟨fun h=>⟨h,by omega,.of (stands_ok _ _) ?_⟩,fun h=> ?_⟩
 ·simp
  have hat:rowAt t r i=stands (t.fCols[i]?.getD dCol) (r.fVals[i]?.getD dVal):=rfl
  refine ⟨fun hb=>by rw[rowFit_no h (hat.trans hb)],fun hb=> .of _ (Gh.kb _ [2,15,16,17] [2] []) ⟨i+1,by omega, ?_, ?_⟩ ?_⟩
  ·rw[rowTo,rangeAll_succ];unfold rowTo at hall;grind
  ·simp[wrapS (show i<9223372036854775807 by omega)]
  ·simp[wrapS (show i<9223372036854775807 by omega)];omega
 ·have:i=r.fVals.length:=by omega
  subst this
  simp[rowFit,h2']
  rwa [h2'] at hall
def rowsAt (t:GTable) (l:List GRow) (i:Nat):Bool:=rowFit t (l[i]?.getD dRow)&& !(decide (0<i)&& !keyLess (keyOf t (l[i-1]?.getD dRow)) (keyOf t (l[i]?.getD dRow)))
def rowsTo (t:GTable) (l:List GRow) (n:Nat):Bool:=(List.range n).all (rowsAt t l)
def rowsOk (t:GTable) (l:List GRow):Bool:=tableOk t&& (decide ((l.length:Int)≤60)&&rowsTo t l l.length)
theorem rowsTo_at {t:GTable} {l:List GRow} {n i:Nat} (h:rowsTo t l n=true) (hi:i<n):rowFit t (l[i]?.getD dRow)=true:=by
 simp only[rowsTo,List.all_eq_true,List.mem_range] at h
 have:=h i hi
 simp only[rowsAt,Bool.and_eq_true] at this
 exact this.1
theorem rowsOk_no {t:GTable} {l:List GRow} {i:Nat} (hi:i<l.length) (h:rowsAt t l i=false):rowsOk t l=false:=by
 simp[rowsOk,rowsTo,rangeAll_no hi h]
theorem keyOf_len (t:GTable) (r:GRow):(keyOf t r).length=t.fKeys.length:=by simp[keyOf]
theorem rowsOkS_ok (t:GTable) (l:List GRow) (ht:okTable t) (hl:okRowS l) (hk:t.fKeys.length≤1048576):VC Tryz.prog 180 [vTable t,vRowS l] [(false,[(.s,.sc (.bool (rowsOk t l)))])]:=by
 have hll:l.length≤9223372036854775807:=hl.1
 refine vc_of_ew good hm [0,1,2,4,14,15,16,17,18,6,5,43] Tryz.func180 rfl (by kernel_rfl) (by kernel_rfl) rfl ?_
 simp[Tryz.f180]
 refine .of (tableOkS_ok t ht) ?_
 simp
 refine ⟨fun h=>by grind[rowsOk],fun h1 h2=> ?_⟩
 refine ew_loop (fun E=> ∃i:Nat,i≤l.length∧rowsTo t l i=true∧E= {nt:=45,sl:= [(1,vRowS l),(2,.p (.bx 2 0)),(15,vRowS l),(16,int .i64 l.length),(17,int .i64 i)],bx:= [(2,cTable t)],rt:= []}) (fun E=>l.length- (E.num 17).toNat) _ (Gh.kb _ [1,2,15,16,17] [2] []) ⟨0,by omega,by simp[rowsTo],by simp⟩ ?_
 rintro E1 ⟨i,hi,hall,rfl⟩
 have hw:0<i→IntKind.i64.wrap ((i:Int)-1)=((i-1:Nat):Int):=fun h0=>wrapP h0 (by omega)
 simp
 refine ⟨fun h=>⟨h,.of (rowOkS_ok t _ ht (hl.2 _ (getD_mem dRow h)).1.1) ?_⟩,fun h=> ?_⟩
 ·simp[h1]
  have hbnd:0<i→0≤IntKind.i64.wrap ((i:Int)-1)∧IntKind.i64.wrap ((i:Int)-1)<l.length:=fun h0=>by rw[hw h0];omega
  have hprev:0<i→rowFit t (l[(IntKind.i64.wrap ((i:Int)-1)).toNat]?.getD dRow)=true:=fun h0=>by
   rw[hw h0,Int.toNat_natCast]
   exact rowsTo_at hall (by omega)
  refine ⟨by grind,.of (fun g=>⟨g,keyS_ok t _ ht hk (tableOk_keys h1 (hprev g.2))⟩) ?_⟩
  simp[mValS]
  refine .of (fun g=>⟨g,keyS_ok t (l[i]?.getD dRow) ht hk (tableOk_keys h1 (by grind))⟩) ?_
  simp[mValS]
  refine .of (fun g=>⟨by grind,keyLessS_ok (keyOf t _) (keyOf t _) (by rw[keyOf_len];exact ht.2.2.1.1) (by rw[keyOf_len];exact ht.2.2.1.1)⟩) ?_
  simp
  have hat:rowsAt t l i=(rowFit t (l[i]?.getD dRow)&& (decide (i=0)||keyLess (keyOf t (l[(IntKind.i64.wrap ((i:Int)-1)).toNat]?.getD dRow)) (keyOf t (l[i]?.getD dRow)))):=by
   unfold rowsAt
   rcases Nat.eq_zero_or_pos i with h0|h0
   ·simp[h0]
   ·rw[hw h0];simp[Nat.ne_of_gt h0];simp[h0]
  refine ⟨by grind,fun hb=>rowsOk_no h (by grind),fun g1 g2=> .of _ (Gh.kb _ [1,2,15,16,17] [2] []) ⟨i+1,by omega, ?_, ?_⟩ ?_⟩
  ·rw[rowsTo,rangeAll_succ];unfold rowsTo at hall;grind
  ·simp[wrapS (show i<9223372036854775807 by omega)]
  ·simp[wrapS (show i<9223372036854775807 by omega)];omega
 ·have:i=l.length:=by omega
  subst this
  grind[rowsOk]
theorem rowsOkI_ok (t:GTable) (l:List GRow) (ht:okTable t) (hl:okRowS l) (hk:t.fKeys.length≤1048576):VC Tryz.prog 193 [vTable t,vRowS l] [(false,[(.s,.sc (.bool (rowsOk t l)))])]:=by
 have hll:l.length≤9223372036854775807:=hl.1
 refine vc_of_ew good hm [0,1,2,4,14,15,16,17,18,6,5,43] Tryz.func193 rfl (by kernel_rfl) (by kernel_rfl) rfl ?_
 simp[Tryz.f193]
 refine .of (tableOkI_ok t ht) ?_
 simp
 refine ⟨fun h=>by grind[rowsOk],fun h1 h2=> ?_⟩
 refine ew_loop (fun E=> ∃i:Nat,i≤l.length∧rowsTo t l i=true∧E= {nt:=45,sl:= [(1,vRowS l),(2,.p (.bx 2 0)),(15,vRowS l),(16,int .i64 l.length),(17,int .i64 i)],bx:= [(2,cTable t)],rt:= []}) (fun E=>l.length- (E.num 17).toNat) _ (Gh.kb _ [1,2,15,16,17] [2] []) ⟨0,by omega,by simp[rowsTo],by simp⟩ ?_
 rintro E1 ⟨i,hi,hall,rfl⟩
 have hw:0<i→IntKind.i64.wrap ((i:Int)-1)=((i-1:Nat):Int):=fun h0=>wrapP h0 (by omega)
 simp
 refine ⟨fun h=>⟨h,.of (rowOkI_ok t _ ht (hl.2 _ (getD_mem dRow h)).1.1) ?_⟩,fun h=> ?_⟩
 ·simp[h1]
  have hbnd:0<i→0≤IntKind.i64.wrap ((i:Int)-1)∧IntKind.i64.wrap ((i:Int)-1)<l.length:=fun h0=>by rw[hw h0];omega
  have hprev:0<i→rowFit t (l[(IntKind.i64.wrap ((i:Int)-1)).toNat]?.getD dRow)=true:=fun h0=>by
   rw[hw h0,Int.toNat_natCast]
   exact rowsTo_at hall (by omega)
  refine ⟨by grind,.of (fun g=>⟨g,keyI_ok t _ ht hk (tableOk_keys h1 (hprev g.2))⟩) ?_⟩
  simp[mValS]
  refine .of (fun g=>⟨g,keyI_ok t (l[i]?.getD dRow) ht hk (tableOk_keys h1 (by grind))⟩) ?_
  simp[mValS]
  refine .of (fun g=>⟨by grind,keyLessI_ok (keyOf t _) (keyOf t _) (by rw[keyOf_len];exact ht.2.2.1.1) (by rw[keyOf_len];exact ht.2.2.1.1)⟩) ?_
  simp
  have hat:rowsAt t l i=(rowFit t (l[i]?.getD dRow)&& (decide (i=0)||keyLess (keyOf t (l[(IntKind.i64.wrap ((i:Int)-1)).toNat]?.getD dRow)) (keyOf t (l[i]?.getD dRow)))):=by
   unfold rowsAt
   rcases Nat.eq_zero_or_pos i with h0|h0
   ·simp[h0]
   ·rw[hw h0];simp[Nat.ne_of_gt h0];simp[h0]
  refine ⟨by grind,fun hb=>rowsOk_no h (by grind),fun g1 g2=> .of _ (Gh.kb _ [1,2,15,16,17] [2] []) ⟨i+1,by omega, ?_, ?_⟩ ?_⟩
  ·rw[rowsTo,rangeAll_succ];unfold rowsTo at hall;grind
  ·simp[wrapS (show i<9223372036854775807 by omega)]
  ·simp[wrapS (show i<9223372036854775807 by omega)];omega
 ·have:i=l.length:=by omega
  subst this
  grind[rowsOk]
def catAt (l:List GTable) (i:Nat):Bool:=tableOk (l[i]?.getD dTable)&& !(decide (0<i)&&geq (l[i-1]?.getD dTable).fName (l[i]?.getD dTable).fName)
def catTo (l:List GTable) (n:Nat):Bool:=(List.range n).all (catAt l)
def catOk (c:GCat):Bool:=catTo c.fTables c.fTables.length&&decide ((c.fTables.length:Int)≤6)
theorem catOk_no {c:GCat} {i:Nat} (hi:i<c.fTables.length) (h:catAt c.fTables i=false):catOk c=false:=by
 simp[catOk,catTo,rangeAll_no hi h]
theorem cat_hat (l:List GTable) (i:Nat) (hw:0<i→IntKind.i64.wrap ((i:Int)-1)=((i-1:Nat):Int)):catAt l i=(tableOk (l[i]?.getD dTable)&& (decide (i=0)||Op.bytesLess (l[(IntKind.i64.wrap ((i:Int)-1)).toNat]?.getD dTable).fName.toList (l[i]?.getD dTable).fName.toList)):=by
 unfold catAt geq
 rcases Nat.eq_zero_or_pos i with h0|h0
 ·simp[h0]
 ·rw[hw h0];simp[Nat.ne_of_gt h0];simp[h0]
theorem catOkS_ok (c:GCat) (hc:okCat c):VC Tryz.prog 179 [vCat c] [(false,[(.s,.sc (.bool (catOk c)))])]:=by
 have hll:c.fTables.length≤9223372036854775807:=hc.1.1
 refine vc_of_ew good hm [0,1,2,8,10,11,12,13,4,3,35] Tryz.func179 rfl (by kernel_rfl) (by kernel_rfl) rfl ?_
 simp[Tryz.f179]
 refine ⟨fun h=>by grind[catOk],fun h2=> ?_⟩
 refine ew_loop (fun E=> ∃i:Nat,i≤c.fTables.length∧catTo c.fTables i=true∧E= {nt:=37,sl:= [(1,.p (.bx 1 0)),(10,vTableS c.fTables),(11,int .i64 c.fTables.length),(12,int .i64 i)],bx:= [(1,cCat c)],rt:= []}) (fun E=>c.fTables.length- (E.num 12).toNat) _ (Gh.kb _ [1,10,11,12] [1] []) ⟨0,by omega,by simp[catTo],by simp⟩ ?_
 rintro E1 ⟨i,hi,hall,rfl⟩
 have hw:0<i→IntKind.i64.wrap ((i:Int)-1)=((i-1:Nat):Int):=fun h0=>wrapP h0 (by omega)
 simp
 refine ⟨fun h=>⟨h,.of (tableOkS_ok _ (hc.1.2 _ (getD_mem dTable h))) ?_⟩,fun h=> ?_⟩
 ·simp
  have hbnd:0<i→0≤IntKind.i64.wrap ((i:Int)-1)∧IntKind.i64.wrap ((i:Int)-1)<c.fTables.length:=fun h0=>by rw[hw h0];omega
  have hat:=cat_hat c.fTables i hw
  refine ⟨by grind,by grind,fun hb=>catOk_no h (by grind),fun g1 g2=> .of _ (Gh.kb _ [1,10,11,12] [1] []) ⟨i+1,by omega, ?_, ?_⟩ ?_⟩
  ·rw[catTo,rangeAll_succ];unfold catTo at hall;grind
  ·simp[wrapS (show i<9223372036854775807 by omega)]
  ·simp[wrapS (show i<9223372036854775807 by omega)];omega
 ·have:i=c.fTables.length:=by omega
  subst this
  grind[catOk]
theorem catOkI_ok (c:GCat) (hc:okCat c):VC Tryz.prog 192 [vCat c] [(false,[(.s,.sc (.bool (catOk c)))])]:=by
 have hll:c.fTables.length≤9223372036854775807:=hc.1.1
 refine vc_of_ew good hm [0,1,2,6,7,8,9,4,3,31] Tryz.func192 rfl (by kernel_rfl) (by kernel_rfl) rfl ?_
 simp[Tryz.f192]
 refine ew_loop (fun E=> ∃i:Nat,i≤c.fTables.length∧catTo c.fTables i=true∧E= {nt:=37,sl:= [(1,.p (.bx 1 0)),(6,vTableS c.fTables),(7,int .i64 c.fTables.length),(8,int .i64 i)],bx:= [(1,cCat c)],rt:= []}) (fun E=>c.fTables.length- (E.num 8).toNat) _ (Gh.kb _ [1,6,7,8] [1] []) ⟨0,by omega,by simp[catTo],by simp⟩ ?_
 rintro E1 ⟨i,hi,hall,rfl⟩
 have hw:0<i→IntKind.i64.wrap ((i:Int)-1)=((i-1:Nat):Int):=fun h0=>wrapP h0 (by omega)
 simp
 refine ⟨fun h=>⟨h,.of (tableOkI_ok _ (hc.1.2 _ (getD_mem dTable h))) ?_⟩,fun h=> ?_⟩
 ·simp
  have hbnd:0<i→0≤IntKind.i64.wrap ((i:Int)-1)∧IntKind.i64.wrap ((i:Int)-1)<c.fTables.length:=fun h0=>by rw[hw h0];omega
  have hat:=cat_hat c.fTables i hw
  refine ⟨by grind,by grind,fun hb=>catOk_no h (by grind),fun g1 g2=> .of _ (Gh.kb _ [1,6,7,8] [1] []) ⟨i+1,by omega, ?_, ?_⟩ ?_⟩
  ·rw[catTo,rangeAll_succ];unfold catTo at hall;grind
  ·simp[wrapS (show i<9223372036854775807 by omega)]
  ·simp[wrapS (show i<9223372036854775807 by omega)];omega
 ·have:i=c.fTables.length:=by omega
  subst this
  grind[catOk]
def dbAt (d:GDb) (i:Nat):Bool:=rowsOk (d.fCat.fTables[i]?.getD dTable) (d.fData[i]?.getD dRows).fRows
def dbTo (d:GDb) (n:Nat):Bool:=(List.range n).all (dbAt d)
def dbOk (d:GDb):Bool:=catOk d.fCat&& (decide ((d.fData.length:Int)=d.fCat.fTables.length)&&dbTo d d.fCat.fTables.length)
theorem dbOk_no {d:GDb} {i:Nat} (hi:i<d.fCat.fTables.length) (h:dbAt d i=false):dbOk d=false:=by
 simp[dbOk,dbTo,rangeAll_no hi h]
theorem dbOkS_ok (d:GDb) (hd:okDb d) (hs: ∀t∈d.fCat.fTables,t.fKeys.length≤1048576):VC Tryz.prog 85 [vDb d] [(false,[(.s,.sc (.bool (dbOk d)))])]:=by
 have hll:d.fCat.fTables.length≤9223372036854775807:=hd.1.1.1
 refine vc_of_ew good hm [0,1,2,18,21,22,23,24,4,3,36] Tryz.func85 rfl (by kernel_rfl) (by kernel_rfl) rfl ?_
 simp[Tryz.f85]
 refine .of (catOkS_ok d.fCat hd.1) ?_
 simp
 refine ⟨fun h=>by grind[dbOk],fun h1 h2=> ?_⟩
 refine ew_loop (fun E=> ∃i:Nat,i≤d.fCat.fTables.length∧dbTo d i=true∧E= {nt:=38,sl:= [(1,.p (.bx 1 0)),(21,vTableS d.fCat.fTables),(22,int .i64 d.fCat.fTables.length),(23,int .i64 i)],bx:= [(1,cDb d)],rt:= []}) (fun E=>d.fCat.fTables.length- (E.num 23).toNat) _ (Gh.kb _ [1,21,22,23] [1] []) ⟨0,by omega,by simp[dbTo],by simp⟩ ?_
 rintro E1 ⟨i,hi,hall,rfl⟩
 simp
 refine ⟨fun h=>⟨h,by omega,.of (rowsOkS_ok (d.fCat.fTables[i]?.getD dTable) (d.fData[i]?.getD dRows).fRows (hd.1.1.2 _ (getD_mem dTable h)) (hd.2.1.2 _ (getD_mem dRows (by omega))).1 (hs _ (getD_mem dTable h))) ?_⟩,fun h=> ?_⟩
 ·simp
  have hat:dbAt d i=rowsOk (d.fCat.fTables[i]?.getD dTable) (d.fData[i]?.getD dRows).fRows:=rfl
  refine ⟨fun hb=>by rw[dbOk_no h (hat.trans hb)],fun hb=> .of _ (Gh.kb _ [1,21,22,23] [1] []) ⟨i+1,by omega, ?_, ?_⟩ ?_⟩
  ·rw[dbTo,rangeAll_succ];unfold dbTo at hall;grind
  ·simp[wrapS (show i<9223372036854775807 by omega)]
  ·simp[wrapS (show i<9223372036854775807 by omega)];omega
 ·have:i=d.fCat.fTables.length:=by omega
  subst this
  grind[dbOk]
theorem dbOkI_ok (d:GDb) (hd:okDb d) (hs: ∀t∈d.fCat.fTables,t.fKeys.length≤1048576):VC Tryz.prog 92 [vDb d] [(false,[(.s,.sc (.bool (dbOk d)))])]:=by
 have hll:d.fCat.fTables.length≤9223372036854775807:=hd.1.1.1
 refine vc_of_ew good hm [0,1,2,18,21,22,23,24,4,3,36] Tryz.func92 rfl (by kernel_rfl) (by kernel_rfl) rfl ?_
 simp[Tryz.f92]
 refine .of (catOkI_ok d.fCat hd.1) ?_
 simp
 refine ⟨fun h=>by grind[dbOk],fun h1 h2=> ?_⟩
 refine ew_loop (fun E=> ∃i:Nat,i≤d.fCat.fTables.length∧dbTo d i=true∧E= {nt:=38,sl:= [(1,.p (.bx 1 0)),(21,vTableS d.fCat.fTables),(22,int .i64 d.fCat.fTables.length),(23,int .i64 i)],bx:= [(1,cDb d)],rt:= []}) (fun E=>d.fCat.fTables.length- (E.num 23).toNat) _ (Gh.kb _ [1,21,22,23] [1] []) ⟨0,by omega,by simp[dbTo],by simp⟩ ?_
 rintro E1 ⟨i,hi,hall,rfl⟩
 simp
 refine ⟨fun h=>⟨h,by omega,.of (rowsOkI_ok (d.fCat.fTables[i]?.getD dTable) (d.fData[i]?.getD dRows).fRows (hd.1.1.2 _ (getD_mem dTable h)) (hd.2.1.2 _ (getD_mem dRows (by omega))).1 (hs _ (getD_mem dTable h))) ?_⟩,fun h=> ?_⟩
 ·simp
  have hat:dbAt d i=rowsOk (d.fCat.fTables[i]?.getD dTable) (d.fData[i]?.getD dRows).fRows:=rfl
  refine ⟨fun hb=>by rw[dbOk_no h (hat.trans hb)],fun hb=> .of _ (Gh.kb _ [1,21,22,23] [1] []) ⟨i+1,by omega, ?_, ?_⟩ ?_⟩
  ·rw[dbTo,rangeAll_succ];unfold dbTo at hall;grind
  ·simp[wrapS (show i<9223372036854775807 by omega)]
  ·simp[wrapS (show i<9223372036854775807 by omega)];omega
 ·have:i=d.fCat.fTables.length:=by omega
  subst this
  grind[dbOk]
def folOk (f:GFol):Bool:=dbOk f.fDb&& (within f.fAt 0 400&&decide (0≤f.fHalt))
theorem folOkS_ok (f:GFol) (hf:okFol f) (hs: ∀t∈f.fDb.fCat.fTables,t.fKeys.length≤1048576):VC Tryz.prog 140 [vFol f] [(false,[(.s,.sc (.bool (folOk f)))])]:=by
 refine vc_of_ew good hm [0,1,2] Tryz.func140 rfl (by kernel_rfl) (by kernel_rfl) rfl ?_
 simp[Tryz.f140]
 refine .of (dbOkS_ok f.fDb hf.1 hs) ?_
 simp
 grind[folOk,within]
theorem folOkI_ok (f:GFol) (hf:okFol f) (hs: ∀t∈f.fDb.fCat.fTables,t.fKeys.length≤1048576):VC Tryz.prog 146 [vFol f] [(false,[(.s,.sc (.bool (folOk f)))])]:=by
 refine vc_of_ew good hm [0,1,2] Tryz.func146 rfl (by kernel_rfl) (by kernel_rfl) rfl ?_
 simp[Tryz.f146]
 refine .of (dbOkI_ok f.fDb hf.1 hs) ?_
 simp
 refine .of (fun h=>⟨h,within_ok _ _ _⟩) ?_
 simp
 grind[folOk,within]
theorem folB {f:GFol} (hs: ∀n∈wFol f,n≤1048576): ∀t∈f.fDb.fCat.fTables,t.fKeys.length≤1048576:=fun t ht=>hs _ (by
 simp only[wFol,wDb,wCat,wTableS,List.append_nil]
 refine List.mem_append_left _ (List.mem_cons_of_mem _ (List.mem_flatMap.2 ⟨t,ht, ?_⟩))
 simp[wTable,wStrS])
end Go.Proofs.YteeolohhmfjafaaGreat
