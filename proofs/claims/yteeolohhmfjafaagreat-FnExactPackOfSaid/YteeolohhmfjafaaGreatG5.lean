import Derived.Test.YteeolohhmfjafaaGreatG4
import Derived.Test.YteeolohhmfjafaaGreatProg
import Derived.KernelRfl
set_option maxHeartbeats 8000000
set_option maxRecDepth 8000
namespace Go.Proofs.YteeolohhmfjafaaGreat
open Go Go.Proofs Go.Sm
def ti:TT
 |2=> {ok:=true,desc:= .int .i64,sz:=1,by_:=8,zv:= .int .i64 0,z:= [.sc (.int .i64 0)]}
 |3=> {ok:=true,desc:= .int .i64,sz:=1,by_:=8,zv:= .int .i64 0,z:= [.sc (.int .i64 0)]}
 |4=> {ok:=true,desc:= .bool,sz:=1,by_:=1,zv:= .bool false,z:= [.sc (.bool false)]}
 |5=> {ok:=true,desc:= .int .u8,sz:=1,by_:=1,zv:= .int .u8 0,z:= [.sc (.int .u8 0)]}
 |9=> {ok:=true,desc:= .string,sz:=1,by_:=16,zv:= .string ⟨#[]⟩,z:= [.sc (.string ⟨#[]⟩)]}
 |21=> {ok:=true,desc:= .int .i32,sz:=1,by_:=4,zv:= .int .i32 0,z:= [.sc (.int .i32 0)]}
 |22=> {ok:=true,desc:= .slice 308,sz:=1,by_:=24,zv:= .slice none 0 0,z:= [.ls [.sc (.string ⟨#[]⟩),.ls [.sc (.string ⟨#[]⟩),.sc (.int .i64 0),.sc (.bool false),.sc (.bool false),.sc (.int .i64 0),.sc (.int .i64 0),.sc (.string ⟨#[]⟩)] [],.ls [.sc (.string ⟨#[]⟩)] []] []],ms:= [.o 308 (fun _=> [.s,.o 367 (fun _=> [.s,.s,.s,.s,.s,.s,.s]),.o 9 (fun _=> [.s])])]}
 |24=> {ok:=true,desc:= .struct #[fld "Tables" 22 0 0 ""],sz:=1,by_:=24,zv:= .agg #[.slice none 0 0],z:= [.ls [.sc (.string ⟨#[]⟩),.ls [.sc (.string ⟨#[]⟩),.sc (.int .i64 0),.sc (.bool false),.sc (.bool false),.sc (.int .i64 0),.sc (.int .i64 0),.sc (.string ⟨#[]⟩)] [],.ls [.sc (.string ⟨#[]⟩)] []] []],ms:= [.o 308 (fun _=> [.s,.o 367 (fun _=> [.s,.s,.s,.s,.s,.s,.s]),.o 9 (fun _=> [.s])])]}
 |25=> {ok:=true,desc:= .slice 224,sz:=1,by_:=24,zv:= .slice none 0 0,z:= [.ls [.ls [.ls [.sc (.int .i64 0),.sc (.int .i64 0),.sc (.string ⟨#[]⟩)] []] []] []],ms:= [.o 224 (fun _=> [.o 141 (fun _=> [.o 311 (fun _=> [.s,.s,.s])])])]}
 |27=> {ok:=true,desc:= .struct #[fld "Cat" 24 0 0 "",fld "Data" 25 1 24 ""],sz:=2,by_:=48,zv:= .agg #[.slice none 0 0,.slice none 0 0],z:= [.ls [.sc (.string ⟨#[]⟩),.ls [.sc (.string ⟨#[]⟩),.sc (.int .i64 0),.sc (.bool false),.sc (.bool false),.sc (.int .i64 0),.sc (.int .i64 0),.sc (.string ⟨#[]⟩)] [],.ls [.sc (.string ⟨#[]⟩)] []] [],.ls [.ls [.ls [.sc (.int .i64 0),.sc (.int .i64 0),.sc (.string ⟨#[]⟩)] []] []] []],ms:= [.o 308 (fun _=> [.s,.o 367 (fun _=> [.s,.s,.s,.s,.s,.s,.s]),.o 9 (fun _=> [.s])]),.o 224 (fun _=> [.o 141 (fun _=> [.o 311 (fun _=> [.s,.s,.s])])])]}
 |28=> {ok:=true,desc:= .slice 146,sz:=1,by_:=24,zv:= .slice none 0 0,z:= [.ls [.sc (.int .i64 0),.sc (.string ⟨#[]⟩),.ls [.sc (.int .i64 0),.sc (.int .i64 0),.sc (.string ⟨#[]⟩)] [],.ls [.sc (.int .i64 0),.sc (.int .i64 0),.sc (.string ⟨#[]⟩)] [],.sc (.int .i64 0),.sc (.string ⟨#[]⟩),.ls [.sc (.string ⟨#[]⟩),.sc (.int .i64 0),.sc (.bool false),.sc (.bool false),.sc (.int .i64 0),.sc (.int .i64 0),.sc (.string ⟨#[]⟩)] [],.ls [.sc (.string ⟨#[]⟩)] [],.sc (.string ⟨#[]⟩),.sc (.string ⟨#[]⟩)] []],ms:= [.o 146 (fun _=> [.s,.s,.o 311 (fun _=> [.s,.s,.s]),.o 311 (fun _=> [.s,.s,.s]),.s,.s,.o 367 (fun _=> [.s,.s,.s,.s,.s,.s,.s]),.o 9 (fun _=> [.s]),.s,.s])]}
 |31=> {ok:=true,desc:= .slice 150,sz:=1,by_:=24,zv:= .slice none 0 0,z:= [.ls [.sc (.int .i64 0),.sc (.string ⟨#[]⟩),.ls [.sc (.int .i64 0),.sc (.int .i64 0),.sc (.string ⟨#[]⟩)] [],.ls [.sc (.int .i64 0),.sc (.int .i64 0),.sc (.string ⟨#[]⟩)] [],.sc (.int .i64 0),.sc (.string ⟨#[]⟩),.ls [.sc (.string ⟨#[]⟩),.sc (.int .i64 0),.sc (.bool false),.sc (.bool false),.sc (.int .i64 0),.sc (.int .i64 0),.sc (.string ⟨#[]⟩)] [],.ls [.sc (.string ⟨#[]⟩)] [],.sc (.string ⟨#[]⟩),.sc (.string ⟨#[]⟩),.ls [.sc (.string ⟨#[]⟩)] [],.ls [.sc (.string ⟨#[]⟩)] []] []],ms:= [.o 150 (fun _=> [.s,.s,.o 234 (fun _=> [.s,.s,.s]),.o 234 (fun _=> [.s,.s,.s]),.s,.s,.o 236 (fun _=> [.s,.s,.s,.s,.s,.s,.s]),.o 9 (fun _=> [.s]),.s,.s,.o 9 (fun _=> [.s]),.o 9 (fun _=> [.s])])]}
 |34=> {ok:=true,desc:= .slice 201,sz:=1,by_:=24,zv:= .slice none 0 0,z:= [.ls [.sc (.string ⟨#[]⟩),.ls [.sc (.string ⟨#[]⟩),.sc (.int .i64 0),.sc (.bool false),.sc (.bool false),.sc (.int .i64 0),.sc (.int .i64 0),.sc (.string ⟨#[]⟩)] [],.ls [.sc (.string ⟨#[]⟩)] []] []],ms:= [.o 201 (fun _=> [.s,.o 236 (fun _=> [.s,.s,.s,.s,.s,.s,.s]),.o 9 (fun _=> [.s])])]}
 |36=> {ok:=true,desc:= .struct #[fld "Tables" 34 0 0 ""],sz:=1,by_:=24,zv:= .agg #[.slice none 0 0],z:= [.ls [.sc (.string ⟨#[]⟩),.ls [.sc (.string ⟨#[]⟩),.sc (.int .i64 0),.sc (.bool false),.sc (.bool false),.sc (.int .i64 0),.sc (.int .i64 0),.sc (.string ⟨#[]⟩)] [],.ls [.sc (.string ⟨#[]⟩)] []] []],ms:= [.o 201 (fun _=> [.s,.o 236 (fun _=> [.s,.s,.s,.s,.s,.s,.s]),.o 9 (fun _=> [.s])])]}
 |37=> {ok:=true,desc:= .slice 205,sz:=1,by_:=24,zv:= .slice none 0 0,z:= [.ls [.ls [.ls [.sc (.int .i64 0),.sc (.int .i64 0),.sc (.string ⟨#[]⟩)] []] []] []],ms:= [.o 205 (fun _=> [.o 120 (fun _=> [.o 234 (fun _=> [.s,.s,.s])])])]}
 |39=> {ok:=true,desc:= .struct #[fld "Cat" 36 0 0 "",fld "Data" 37 1 24 ""],sz:=2,by_:=48,zv:= .agg #[.slice none 0 0,.slice none 0 0],z:= [.ls [.sc (.string ⟨#[]⟩),.ls [.sc (.string ⟨#[]⟩),.sc (.int .i64 0),.sc (.bool false),.sc (.bool false),.sc (.int .i64 0),.sc (.int .i64 0),.sc (.string ⟨#[]⟩)] [],.ls [.sc (.string ⟨#[]⟩)] []] [],.ls [.ls [.ls [.sc (.int .i64 0),.sc (.int .i64 0),.sc (.string ⟨#[]⟩)] []] []] []],ms:= [.o 201 (fun _=> [.s,.o 236 (fun _=> [.s,.s,.s,.s,.s,.s,.s]),.o 9 (fun _=> [.s])]),.o 205 (fun _=> [.o 120 (fun _=> [.o 234 (fun _=> [.s,.s,.s])])])]}
 |41=> {ok:=true,desc:= .slice 126,sz:=1,by_:=24,zv:= .slice none 0 0,z:= [.ls [.sc (.int .i64 0),.sc (.string ⟨#[]⟩),.ls [.sc (.int .i64 0),.sc (.int .i64 0),.sc (.string ⟨#[]⟩)] [],.ls [.sc (.int .i64 0),.sc (.int .i64 0),.sc (.string ⟨#[]⟩)] [],.sc (.int .i64 0),.sc (.string ⟨#[]⟩),.ls [.sc (.string ⟨#[]⟩),.sc (.int .i64 0),.sc (.bool false),.sc (.bool false),.sc (.int .i64 0),.sc (.int .i64 0),.sc (.string ⟨#[]⟩)] [],.ls [.sc (.string ⟨#[]⟩)] [],.sc (.string ⟨#[]⟩),.sc (.string ⟨#[]⟩)] []],ms:= [.o 126 (fun _=> [.s,.s,.o 234 (fun _=> [.s,.s,.s]),.o 234 (fun _=> [.s,.s,.s]),.s,.s,.o 236 (fun _=> [.s,.s,.s,.s,.s,.s,.s]),.o 9 (fun _=> [.s]),.s,.s])]}
 |50=> {ok:=true,desc:= .slice 171,sz:=1,by_:=24,zv:= .slice none 0 0,z:= [.ls [.sc (.int .i64 0),.sc (.int .i64 0),.sc (.int .i64 0),.sc (.string ⟨#[]⟩),.ls [.sc (.int .i64 0),.sc (.int .i64 0),.sc (.string ⟨#[]⟩)] [],.ls [.sc (.int .i64 0),.sc (.int .i64 0),.sc (.string ⟨#[]⟩)] [],.sc (.int .i64 0),.sc (.string ⟨#[]⟩),.ls [.sc (.string ⟨#[]⟩),.sc (.int .i64 0),.sc (.bool false),.sc (.bool false),.sc (.int .i64 0),.sc (.int .i64 0),.sc (.string ⟨#[]⟩)] [],.ls [.sc (.string ⟨#[]⟩)] [],.sc (.string ⟨#[]⟩),.sc (.string ⟨#[]⟩)] []],ms:= [.o 171 (fun _=> [.s,.s,.s,.s,.o 311 (fun _=> [.s,.s,.s]),.o 311 (fun _=> [.s,.s,.s]),.s,.s,.o 367 (fun _=> [.s,.s,.s,.s,.s,.s,.s]),.o 9 (fun _=> [.s]),.s,.s])]}
 |52=> {ok:=true,desc:= .slice 62,sz:=1,by_:=24,zv:= .slice none 0 0,z:= [.ls [.sc (.int .i64 0),.sc (.int .i64 0),.ls [.sc (.int .i64 0),.sc (.string ⟨#[]⟩),.ls [.sc (.int .i64 0),.sc (.int .i64 0),.sc (.string ⟨#[]⟩)] [],.ls [.sc (.int .i64 0),.sc (.int .i64 0),.sc (.string ⟨#[]⟩)] [],.sc (.int .i64 0),.sc (.string ⟨#[]⟩),.ls [.sc (.string ⟨#[]⟩),.sc (.int .i64 0),.sc (.bool false),.sc (.bool false),.sc (.int .i64 0),.sc (.int .i64 0),.sc (.string ⟨#[]⟩)] [],.ls [.sc (.string ⟨#[]⟩)] [],.sc (.string ⟨#[]⟩),.sc (.string ⟨#[]⟩),.ls [.sc (.string ⟨#[]⟩)] [],.ls [.sc (.string ⟨#[]⟩)] []] []] []],ms:= [.o 62 (fun _=> [.s,.s,.o 150 (fun _=> [.s,.s,.o 234 (fun _=> [.s,.s,.s]),.o 234 (fun _=> [.s,.s,.s]),.s,.s,.o 236 (fun _=> [.s,.s,.s,.s,.s,.s,.s]),.o 9 (fun _=> [.s]),.s,.s,.o 9 (fun _=> [.s]),.o 9 (fun _=> [.s])])])]}
 |54=> {ok:=true,desc:= .slice 128,sz:=1,by_:=24,zv:= .slice none 0 0,z:= [.ls [.sc (.int .i64 0),.sc (.int .i64 0),.sc (.int .i64 0),.sc (.string ⟨#[]⟩),.ls [.sc (.int .i64 0),.sc (.int .i64 0),.sc (.string ⟨#[]⟩)] [],.ls [.sc (.int .i64 0),.sc (.int .i64 0),.sc (.string ⟨#[]⟩)] [],.sc (.int .i64 0),.sc (.string ⟨#[]⟩),.ls [.sc (.string ⟨#[]⟩),.sc (.int .i64 0),.sc (.bool false),.sc (.bool false),.sc (.int .i64 0),.sc (.int .i64 0),.sc (.string ⟨#[]⟩)] [],.ls [.sc (.string ⟨#[]⟩)] [],.sc (.string ⟨#[]⟩),.sc (.string ⟨#[]⟩)] []],ms:= [.o 128 (fun _=> [.s,.s,.s,.s,.o 234 (fun _=> [.s,.s,.s]),.o 234 (fun _=> [.s,.s,.s]),.s,.s,.o 236 (fun _=> [.s,.s,.s,.s,.s,.s,.s]),.o 9 (fun _=> [.s]),.s,.s])]}
 |62=> {ok:=true,desc:= .struct #[fld "Lsn" 3 0 0 "",fld "Prev" 3 1 8 "",fld "Parts" 31 2 16 ""],sz:=3,by_:=40,zv:= .agg #[.int .i64 0,.int .i64 0,.slice none 0 0],z:= [.sc (.int .i64 0),.sc (.int .i64 0),.ls [.sc (.int .i64 0),.sc (.string ⟨#[]⟩),.ls [.sc (.int .i64 0),.sc (.int .i64 0),.sc (.string ⟨#[]⟩)] [],.ls [.sc (.int .i64 0),.sc (.int .i64 0),.sc (.string ⟨#[]⟩)] [],.sc (.int .i64 0),.sc (.string ⟨#[]⟩),.ls [.sc (.string ⟨#[]⟩),.sc (.int .i64 0),.sc (.bool false),.sc (.bool false),.sc (.int .i64 0),.sc (.int .i64 0),.sc (.string ⟨#[]⟩)] [],.ls [.sc (.string ⟨#[]⟩)] [],.sc (.string ⟨#[]⟩),.sc (.string ⟨#[]⟩),.ls [.sc (.string ⟨#[]⟩)] [],.ls [.sc (.string ⟨#[]⟩)] []] []],ms:= [.s,.s,.o 150 (fun _=> [.s,.s,.o 234 (fun _=> [.s,.s,.s]),.o 234 (fun _=> [.s,.s,.s]),.s,.s,.o 236 (fun _=> [.s,.s,.s,.s,.s,.s,.s]),.o 9 (fun _=> [.s]),.s,.s,.o 9 (fun _=> [.s]),.o 9 (fun _=> [.s])])]}
 |68=> {ok:=true,desc:= .slice 277,sz:=1,by_:=24,zv:= .slice none 0 0,z:= [.ls [.sc (.int .i64 0),.sc (.string ⟨#[]⟩),.ls [.sc (.int .i64 0),.sc (.int .i64 0),.sc (.string ⟨#[]⟩)] [],.ls [.sc (.int .i64 0),.sc (.int .i64 0),.sc (.string ⟨#[]⟩)] [],.sc (.int .i64 0),.sc (.string ⟨#[]⟩),.ls [.sc (.string ⟨#[]⟩),.sc (.int .i64 0),.sc (.bool false),.sc (.bool false),.sc (.int .i64 0),.sc (.int .i64 0),.sc (.string ⟨#[]⟩)] [],.ls [.sc (.string ⟨#[]⟩)] [],.sc (.string ⟨#[]⟩),.sc (.string ⟨#[]⟩),.ls [.sc (.string ⟨#[]⟩)] [],.ls [.sc (.string ⟨#[]⟩)] []] []],ms:= [.o 277 (fun _=> [.s,.s,.o 311 (fun _=> [.s,.s,.s]),.o 311 (fun _=> [.s,.s,.s]),.s,.s,.o 367 (fun _=> [.s,.s,.s,.s,.s,.s,.s]),.o 9 (fun _=> [.s]),.s,.s,.o 9 (fun _=> [.s]),.o 9 (fun _=> [.s])])]}
 |70=> {ok:=true,desc:= .struct #[fld "Lsn" 3 0 0 "",fld "Prev" 3 1 8 "",fld "Parts" 68 2 16 ""],sz:=3,by_:=40,zv:= .agg #[.int .i64 0,.int .i64 0,.slice none 0 0],z:= [.sc (.int .i64 0),.sc (.int .i64 0),.ls [.sc (.int .i64 0),.sc (.string ⟨#[]⟩),.ls [.sc (.int .i64 0),.sc (.int .i64 0),.sc (.string ⟨#[]⟩)] [],.ls [.sc (.int .i64 0),.sc (.int .i64 0),.sc (.string ⟨#[]⟩)] [],.sc (.int .i64 0),.sc (.string ⟨#[]⟩),.ls [.sc (.string ⟨#[]⟩),.sc (.int .i64 0),.sc (.bool false),.sc (.bool false),.sc (.int .i64 0),.sc (.int .i64 0),.sc (.string ⟨#[]⟩)] [],.ls [.sc (.string ⟨#[]⟩)] [],.sc (.string ⟨#[]⟩),.sc (.string ⟨#[]⟩),.ls [.sc (.string ⟨#[]⟩)] [],.ls [.sc (.string ⟨#[]⟩)] []] []],ms:= [.s,.s,.o 277 (fun _=> [.s,.s,.o 311 (fun _=> [.s,.s,.s]),.o 311 (fun _=> [.s,.s,.s]),.s,.s,.o 367 (fun _=> [.s,.s,.s,.s,.s,.s,.s]),.o 9 (fun _=> [.s]),.s,.s,.o 9 (fun _=> [.s]),.o 9 (fun _=> [.s])])]}
 |72=> {ok:=true,desc:= .slice 5,sz:=1,by_:=24,zv:= .slice none 0 0,z:= [.ls [.sc (.int .u8 0)] []],ms:= [.o 5 (fun _=> [.s])]}
 |74=> {ok:=true,desc:= .struct #[fld "Bytes" 72 0 0 ""],sz:=1,by_:=24,zv:= .agg #[.slice none 0 0],z:= [.ls [.sc (.int .u8 0)] []],ms:= [.o 5 (fun _=> [.s])]}
 |81=> {ok:=true,desc:= .slice 74,sz:=1,by_:=24,zv:= .slice none 0 0,z:= [.ls [.ls [.sc (.int .u8 0)] []] []],ms:= [.o 74 (fun _=> [.o 5 (fun _=> [.s])])]}
 |87=> {ok:=true,desc:= .struct #[fld "Base" 3 0 0 "",fld "Db" 27 1 8 "",fld "Recs" 50 3 56 ""],sz:=4,by_:=80,zv:= .agg #[.int .i64 0,.slice none 0 0,.slice none 0 0,.slice none 0 0],z:= [.sc (.int .i64 0),.ls [.sc (.string ⟨#[]⟩),.ls [.sc (.string ⟨#[]⟩),.sc (.int .i64 0),.sc (.bool false),.sc (.bool false),.sc (.int .i64 0),.sc (.int .i64 0),.sc (.string ⟨#[]⟩)] [],.ls [.sc (.string ⟨#[]⟩)] []] [],.ls [.ls [.ls [.sc (.int .i64 0),.sc (.int .i64 0),.sc (.string ⟨#[]⟩)] []] []] [],.ls [.sc (.int .i64 0),.sc (.int .i64 0),.sc (.int .i64 0),.sc (.string ⟨#[]⟩),.ls [.sc (.int .i64 0),.sc (.int .i64 0),.sc (.string ⟨#[]⟩)] [],.ls [.sc (.int .i64 0),.sc (.int .i64 0),.sc (.string ⟨#[]⟩)] [],.sc (.int .i64 0),.sc (.string ⟨#[]⟩),.ls [.sc (.string ⟨#[]⟩),.sc (.int .i64 0),.sc (.bool false),.sc (.bool false),.sc (.int .i64 0),.sc (.int .i64 0),.sc (.string ⟨#[]⟩)] [],.ls [.sc (.string ⟨#[]⟩)] [],.sc (.string ⟨#[]⟩),.sc (.string ⟨#[]⟩)] []],ms:= [.s,.o 308 (fun _=> [.s,.o 367 (fun _=> [.s,.s,.s,.s,.s,.s,.s]),.o 9 (fun _=> [.s])]),.o 224 (fun _=> [.o 141 (fun _=> [.o 311 (fun _=> [.s,.s,.s])])]),.o 171 (fun _=> [.s,.s,.s,.s,.o 311 (fun _=> [.s,.s,.s]),.o 311 (fun _=> [.s,.s,.s]),.s,.s,.o 367 (fun _=> [.s,.s,.s,.s,.s,.s,.s]),.o 9 (fun _=> [.s]),.s,.s])]}
 |92=> {ok:=true,desc:= .struct #[fld "Base" 3 0 0 "",fld "Db" 39 1 8 "",fld "Recs" 54 3 56 ""],sz:=4,by_:=80,zv:= .agg #[.int .i64 0,.slice none 0 0,.slice none 0 0,.slice none 0 0],z:= [.sc (.int .i64 0),.ls [.sc (.string ⟨#[]⟩),.ls [.sc (.string ⟨#[]⟩),.sc (.int .i64 0),.sc (.bool false),.sc (.bool false),.sc (.int .i64 0),.sc (.int .i64 0),.sc (.string ⟨#[]⟩)] [],.ls [.sc (.string ⟨#[]⟩)] []] [],.ls [.ls [.ls [.sc (.int .i64 0),.sc (.int .i64 0),.sc (.string ⟨#[]⟩)] []] []] [],.ls [.sc (.int .i64 0),.sc (.int .i64 0),.sc (.int .i64 0),.sc (.string ⟨#[]⟩),.ls [.sc (.int .i64 0),.sc (.int .i64 0),.sc (.string ⟨#[]⟩)] [],.ls [.sc (.int .i64 0),.sc (.int .i64 0),.sc (.string ⟨#[]⟩)] [],.sc (.int .i64 0),.sc (.string ⟨#[]⟩),.ls [.sc (.string ⟨#[]⟩),.sc (.int .i64 0),.sc (.bool false),.sc (.bool false),.sc (.int .i64 0),.sc (.int .i64 0),.sc (.string ⟨#[]⟩)] [],.ls [.sc (.string ⟨#[]⟩)] [],.sc (.string ⟨#[]⟩),.sc (.string ⟨#[]⟩)] []],ms:= [.s,.o 201 (fun _=> [.s,.o 236 (fun _=> [.s,.s,.s,.s,.s,.s,.s]),.o 9 (fun _=> [.s])]),.o 205 (fun _=> [.o 120 (fun _=> [.o 234 (fun _=> [.s,.s,.s])])]),.o 128 (fun _=> [.s,.s,.s,.s,.o 234 (fun _=> [.s,.s,.s]),.o 234 (fun _=> [.s,.s,.s]),.s,.s,.o 236 (fun _=> [.s,.s,.s,.s,.s,.s,.s]),.o 9 (fun _=> [.s]),.s,.s])]}
 |98=> {ok:=true,desc:= .struct #[fld "Db" 27 0 0 "",fld "At" 3 2 48 "",fld "Halt" 3 3 56 ""],sz:=4,by_:=64,zv:= .agg #[.slice none 0 0,.slice none 0 0,.int .i64 0,.int .i64 0],z:= [.ls [.sc (.string ⟨#[]⟩),.ls [.sc (.string ⟨#[]⟩),.sc (.int .i64 0),.sc (.bool false),.sc (.bool false),.sc (.int .i64 0),.sc (.int .i64 0),.sc (.string ⟨#[]⟩)] [],.ls [.sc (.string ⟨#[]⟩)] []] [],.ls [.ls [.ls [.sc (.int .i64 0),.sc (.int .i64 0),.sc (.string ⟨#[]⟩)] []] []] [],.sc (.int .i64 0),.sc (.int .i64 0)],ms:= [.o 308 (fun _=> [.s,.o 367 (fun _=> [.s,.s,.s,.s,.s,.s,.s]),.o 9 (fun _=> [.s])]),.o 224 (fun _=> [.o 141 (fun _=> [.o 311 (fun _=> [.s,.s,.s])])]),.s,.s]}
 |100=> {ok:=true,desc:= .struct #[fld "Lsn" 3 0 0 "",fld "Db" 27 1 8 ""],sz:=3,by_:=56,zv:= .agg #[.int .i64 0,.slice none 0 0,.slice none 0 0],z:= [.sc (.int .i64 0),.ls [.sc (.string ⟨#[]⟩),.ls [.sc (.string ⟨#[]⟩),.sc (.int .i64 0),.sc (.bool false),.sc (.bool false),.sc (.int .i64 0),.sc (.int .i64 0),.sc (.string ⟨#[]⟩)] [],.ls [.sc (.string ⟨#[]⟩)] []] [],.ls [.ls [.ls [.sc (.int .i64 0),.sc (.int .i64 0),.sc (.string ⟨#[]⟩)] []] []] []],ms:= [.s,.o 308 (fun _=> [.s,.o 367 (fun _=> [.s,.s,.s,.s,.s,.s,.s]),.o 9 (fun _=> [.s])]),.o 224 (fun _=> [.o 141 (fun _=> [.o 311 (fun _=> [.s,.s,.s])])])]}
 |104=> {ok:=true,desc:= .struct #[fld "Db" 39 0 0 "",fld "At" 3 2 48 "",fld "Halt" 3 3 56 ""],sz:=4,by_:=64,zv:= .agg #[.slice none 0 0,.slice none 0 0,.int .i64 0,.int .i64 0],z:= [.ls [.sc (.string ⟨#[]⟩),.ls [.sc (.string ⟨#[]⟩),.sc (.int .i64 0),.sc (.bool false),.sc (.bool false),.sc (.int .i64 0),.sc (.int .i64 0),.sc (.string ⟨#[]⟩)] [],.ls [.sc (.string ⟨#[]⟩)] []] [],.ls [.ls [.ls [.sc (.int .i64 0),.sc (.int .i64 0),.sc (.string ⟨#[]⟩)] []] []] [],.sc (.int .i64 0),.sc (.int .i64 0)],ms:= [.o 201 (fun _=> [.s,.o 236 (fun _=> [.s,.s,.s,.s,.s,.s,.s]),.o 9 (fun _=> [.s])]),.o 205 (fun _=> [.o 120 (fun _=> [.o 234 (fun _=> [.s,.s,.s])])]),.s,.s]}
 |109=> {ok:=true,desc:= .struct #[fld "Lsn" 3 0 0 "",fld "Db" 39 1 8 ""],sz:=3,by_:=56,zv:= .agg #[.int .i64 0,.slice none 0 0,.slice none 0 0],z:= [.sc (.int .i64 0),.ls [.sc (.string ⟨#[]⟩),.ls [.sc (.string ⟨#[]⟩),.sc (.int .i64 0),.sc (.bool false),.sc (.bool false),.sc (.int .i64 0),.sc (.int .i64 0),.sc (.string ⟨#[]⟩)] [],.ls [.sc (.string ⟨#[]⟩)] []] [],.ls [.ls [.ls [.sc (.int .i64 0),.sc (.int .i64 0),.sc (.string ⟨#[]⟩)] []] []] []],ms:= [.s,.o 201 (fun _=> [.s,.o 236 (fun _=> [.s,.s,.s,.s,.s,.s,.s]),.o 9 (fun _=> [.s])]),.o 205 (fun _=> [.o 120 (fun _=> [.o 234 (fun _=> [.s,.s,.s])])])]}
 |118=> {ok:=true,desc:= .slice 234,sz:=1,by_:=24,zv:= .slice none 0 0,z:= [.ls [.sc (.int .i64 0),.sc (.int .i64 0),.sc (.string ⟨#[]⟩)] []],ms:= [.o 234 (fun _=> [.s,.s,.s])]}
 |120=> {ok:=true,desc:= .struct #[fld "Vals" 118 0 0 ""],sz:=1,by_:=24,zv:= .agg #[.slice none 0 0],z:= [.ls [.sc (.int .i64 0),.sc (.int .i64 0),.sc (.string ⟨#[]⟩)] []],ms:= [.o 234 (fun _=> [.s,.s,.s])]}
 |121=> {ok:=true,desc:= .slice 236,sz:=1,by_:=24,zv:= .slice none 0 0,z:= [.ls [.sc (.string ⟨#[]⟩),.sc (.int .i64 0),.sc (.bool false),.sc (.bool false),.sc (.int .i64 0),.sc (.int .i64 0),.sc (.string ⟨#[]⟩)] []],ms:= [.o 236 (fun _=> [.s,.s,.s,.s,.s,.s,.s])]}
 |122=> {ok:=true,desc:= .slice 9,sz:=1,by_:=24,zv:= .slice none 0 0,z:= [.ls [.sc (.string ⟨#[]⟩)] []],ms:= [.o 9 (fun _=> [.s])]}
 |124=> {ok:=true,desc:= .struct #[fld "Kind" 3 0 0 "",fld "Table" 9 1 8 "",fld "Cols" 121 2 24 "",fld "Keys" 122 3 48 "",fld "Name" 9 4 72 "",fld "To" 9 5 88 ""],sz:=6,by_:=104,zv:= .agg #[.int .i64 0,.string ⟨#[]⟩,.slice none 0 0,.slice none 0 0,.string ⟨#[]⟩,.string ⟨#[]⟩],z:= [.sc (.int .i64 0),.sc (.string ⟨#[]⟩),.ls [.sc (.string ⟨#[]⟩),.sc (.int .i64 0),.sc (.bool false),.sc (.bool false),.sc (.int .i64 0),.sc (.int .i64 0),.sc (.string ⟨#[]⟩)] [],.ls [.sc (.string ⟨#[]⟩)] [],.sc (.string ⟨#[]⟩),.sc (.string ⟨#[]⟩)],ms:= [.s,.s,.o 236 (fun _=> [.s,.s,.s,.s,.s,.s,.s]),.o 9 (fun _=> [.s]),.s,.s]}
 |126=> {ok:=true,desc:= .struct #[fld "Kind" 3 0 0 "",fld "Table" 9 1 8 "",fld "Key" 118 2 24 "",fld "Row" 120 3 48 "",fld "Ddl" 124 4 72 ""],sz:=10,by_:=176,zv:= .agg #[.int .i64 0,.string ⟨#[]⟩,.slice none 0 0,.slice none 0 0,.int .i64 0,.string ⟨#[]⟩,.slice none 0 0,.slice none 0 0,.string ⟨#[]⟩,.string ⟨#[]⟩],z:= [.sc (.int .i64 0),.sc (.string ⟨#[]⟩),.ls [.sc (.int .i64 0),.sc (.int .i64 0),.sc (.string ⟨#[]⟩)] [],.ls [.sc (.int .i64 0),.sc (.int .i64 0),.sc (.string ⟨#[]⟩)] [],.sc (.int .i64 0),.sc (.string ⟨#[]⟩),.ls [.sc (.string ⟨#[]⟩),.sc (.int .i64 0),.sc (.bool false),.sc (.bool false),.sc (.int .i64 0),.sc (.int .i64 0),.sc (.string ⟨#[]⟩)] [],.ls [.sc (.string ⟨#[]⟩)] [],.sc (.string ⟨#[]⟩),.sc (.string ⟨#[]⟩)],ms:= [.s,.s,.o 234 (fun _=> [.s,.s,.s]),.o 234 (fun _=> [.s,.s,.s]),.s,.s,.o 236 (fun _=> [.s,.s,.s,.s,.s,.s,.s]),.o 9 (fun _=> [.s]),.s,.s]}
 |128=> {ok:=true,desc:= .struct #[fld "Kind" 3 0 0 "",fld "Xid" 3 1 8 "",fld "Stmt" 126 2 16 ""],sz:=12,by_:=192,zv:= .agg #[.int .i64 0,.int .i64 0,.int .i64 0,.string ⟨#[]⟩,.slice none 0 0,.slice none 0 0,.int .i64 0,.string ⟨#[]⟩,.slice none 0 0,.slice none 0 0,.string ⟨#[]⟩,.string ⟨#[]⟩],z:= [.sc (.int .i64 0),.sc (.int .i64 0),.sc (.int .i64 0),.sc (.string ⟨#[]⟩),.ls [.sc (.int .i64 0),.sc (.int .i64 0),.sc (.string ⟨#[]⟩)] [],.ls [.sc (.int .i64 0),.sc (.int .i64 0),.sc (.string ⟨#[]⟩)] [],.sc (.int .i64 0),.sc (.string ⟨#[]⟩),.ls [.sc (.string ⟨#[]⟩),.sc (.int .i64 0),.sc (.bool false),.sc (.bool false),.sc (.int .i64 0),.sc (.int .i64 0),.sc (.string ⟨#[]⟩)] [],.ls [.sc (.string ⟨#[]⟩)] [],.sc (.string ⟨#[]⟩),.sc (.string ⟨#[]⟩)],ms:= [.s,.s,.s,.s,.o 234 (fun _=> [.s,.s,.s]),.o 234 (fun _=> [.s,.s,.s]),.s,.s,.o 236 (fun _=> [.s,.s,.s,.s,.s,.s,.s]),.o 9 (fun _=> [.s]),.s,.s]}
 |139=> {ok:=true,desc:= .slice 311,sz:=1,by_:=24,zv:= .slice none 0 0,z:= [.ls [.sc (.int .i64 0),.sc (.int .i64 0),.sc (.string ⟨#[]⟩)] []],ms:= [.o 311 (fun _=> [.s,.s,.s])]}
 |141=> {ok:=true,desc:= .struct #[fld "Vals" 139 0 0 ""],sz:=1,by_:=24,zv:= .agg #[.slice none 0 0],z:= [.ls [.sc (.int .i64 0),.sc (.int .i64 0),.sc (.string ⟨#[]⟩)] []],ms:= [.o 311 (fun _=> [.s,.s,.s])]}
 |142=> {ok:=true,desc:= .slice 367,sz:=1,by_:=24,zv:= .slice none 0 0,z:= [.ls [.sc (.string ⟨#[]⟩),.sc (.int .i64 0),.sc (.bool false),.sc (.bool false),.sc (.int .i64 0),.sc (.int .i64 0),.sc (.string ⟨#[]⟩)] []],ms:= [.o 367 (fun _=> [.s,.s,.s,.s,.s,.s,.s])]}
 |144=> {ok:=true,desc:= .struct #[fld "Kind" 3 0 0 "",fld "Table" 9 1 8 "",fld "Cols" 142 2 24 "",fld "Keys" 122 3 48 "",fld "Name" 9 4 72 "",fld "To" 9 5 88 ""],sz:=6,by_:=104,zv:= .agg #[.int .i64 0,.string ⟨#[]⟩,.slice none 0 0,.slice none 0 0,.string ⟨#[]⟩,.string ⟨#[]⟩],z:= [.sc (.int .i64 0),.sc (.string ⟨#[]⟩),.ls [.sc (.string ⟨#[]⟩),.sc (.int .i64 0),.sc (.bool false),.sc (.bool false),.sc (.int .i64 0),.sc (.int .i64 0),.sc (.string ⟨#[]⟩)] [],.ls [.sc (.string ⟨#[]⟩)] [],.sc (.string ⟨#[]⟩),.sc (.string ⟨#[]⟩)],ms:= [.s,.s,.o 367 (fun _=> [.s,.s,.s,.s,.s,.s,.s]),.o 9 (fun _=> [.s]),.s,.s]}
 |146=> {ok:=true,desc:= .struct #[fld "Kind" 3 0 0 "",fld "Table" 9 1 8 "",fld "Key" 139 2 24 "",fld "Row" 141 3 48 "",fld "Ddl" 144 4 72 ""],sz:=10,by_:=176,zv:= .agg #[.int .i64 0,.string ⟨#[]⟩,.slice none 0 0,.slice none 0 0,.int .i64 0,.string ⟨#[]⟩,.slice none 0 0,.slice none 0 0,.string ⟨#[]⟩,.string ⟨#[]⟩],z:= [.sc (.int .i64 0),.sc (.string ⟨#[]⟩),.ls [.sc (.int .i64 0),.sc (.int .i64 0),.sc (.string ⟨#[]⟩)] [],.ls [.sc (.int .i64 0),.sc (.int .i64 0),.sc (.string ⟨#[]⟩)] [],.sc (.int .i64 0),.sc (.string ⟨#[]⟩),.ls [.sc (.string ⟨#[]⟩),.sc (.int .i64 0),.sc (.bool false),.sc (.bool false),.sc (.int .i64 0),.sc (.int .i64 0),.sc (.string ⟨#[]⟩)] [],.ls [.sc (.string ⟨#[]⟩)] [],.sc (.string ⟨#[]⟩),.sc (.string ⟨#[]⟩)],ms:= [.s,.s,.o 311 (fun _=> [.s,.s,.s]),.o 311 (fun _=> [.s,.s,.s]),.s,.s,.o 367 (fun _=> [.s,.s,.s,.s,.s,.s,.s]),.o 9 (fun _=> [.s]),.s,.s]}
 |150=> {ok:=true,desc:= .struct #[fld "Stmt" 126 0 0 "",fld "Cols" 122 10 176 "",fld "Keys" 122 11 200 ""],sz:=12,by_:=224,zv:= .agg #[.int .i64 0,.string ⟨#[]⟩,.slice none 0 0,.slice none 0 0,.int .i64 0,.string ⟨#[]⟩,.slice none 0 0,.slice none 0 0,.string ⟨#[]⟩,.string ⟨#[]⟩,.slice none 0 0,.slice none 0 0],z:= [.sc (.int .i64 0),.sc (.string ⟨#[]⟩),.ls [.sc (.int .i64 0),.sc (.int .i64 0),.sc (.string ⟨#[]⟩)] [],.ls [.sc (.int .i64 0),.sc (.int .i64 0),.sc (.string ⟨#[]⟩)] [],.sc (.int .i64 0),.sc (.string ⟨#[]⟩),.ls [.sc (.string ⟨#[]⟩),.sc (.int .i64 0),.sc (.bool false),.sc (.bool false),.sc (.int .i64 0),.sc (.int .i64 0),.sc (.string ⟨#[]⟩)] [],.ls [.sc (.string ⟨#[]⟩)] [],.sc (.string ⟨#[]⟩),.sc (.string ⟨#[]⟩),.ls [.sc (.string ⟨#[]⟩)] [],.ls [.sc (.string ⟨#[]⟩)] []],ms:= [.s,.s,.o 234 (fun _=> [.s,.s,.s]),.o 234 (fun _=> [.s,.s,.s]),.s,.s,.o 236 (fun _=> [.s,.s,.s,.s,.s,.s,.s]),.o 9 (fun _=> [.s]),.s,.s,.o 9 (fun _=> [.s]),.o 9 (fun _=> [.s])]}
 |171=> {ok:=true,desc:= .struct #[fld "Kind" 3 0 0 "",fld "Xid" 3 1 8 "",fld "Stmt" 146 2 16 ""],sz:=12,by_:=192,zv:= .agg #[.int .i64 0,.int .i64 0,.int .i64 0,.string ⟨#[]⟩,.slice none 0 0,.slice none 0 0,.int .i64 0,.string ⟨#[]⟩,.slice none 0 0,.slice none 0 0,.string ⟨#[]⟩,.string ⟨#[]⟩],z:= [.sc (.int .i64 0),.sc (.int .i64 0),.sc (.int .i64 0),.sc (.string ⟨#[]⟩),.ls [.sc (.int .i64 0),.sc (.int .i64 0),.sc (.string ⟨#[]⟩)] [],.ls [.sc (.int .i64 0),.sc (.int .i64 0),.sc (.string ⟨#[]⟩)] [],.sc (.int .i64 0),.sc (.string ⟨#[]⟩),.ls [.sc (.string ⟨#[]⟩),.sc (.int .i64 0),.sc (.bool false),.sc (.bool false),.sc (.int .i64 0),.sc (.int .i64 0),.sc (.string ⟨#[]⟩)] [],.ls [.sc (.string ⟨#[]⟩)] [],.sc (.string ⟨#[]⟩),.sc (.string ⟨#[]⟩)],ms:= [.s,.s,.s,.s,.o 311 (fun _=> [.s,.s,.s]),.o 311 (fun _=> [.s,.s,.s]),.s,.s,.o 367 (fun _=> [.s,.s,.s,.s,.s,.s,.s]),.o 9 (fun _=> [.s]),.s,.s]}
 |172=> {ok:=true,desc:= .slice 3,sz:=1,by_:=24,zv:= .slice none 0 0,z:= [.ls [.sc (.int .i64 0)] []],ms:= [.o 3 (fun _=> [.s])]}
 |201=> {ok:=true,desc:= .struct #[fld "Name" 9 0 0 "",fld "Cols" 121 1 16 "",fld "Keys" 122 2 40 ""],sz:=3,by_:=64,zv:= .agg #[.string ⟨#[]⟩,.slice none 0 0,.slice none 0 0],z:= [.sc (.string ⟨#[]⟩),.ls [.sc (.string ⟨#[]⟩),.sc (.int .i64 0),.sc (.bool false),.sc (.bool false),.sc (.int .i64 0),.sc (.int .i64 0),.sc (.string ⟨#[]⟩)] [],.ls [.sc (.string ⟨#[]⟩)] []],ms:= [.s,.o 236 (fun _=> [.s,.s,.s,.s,.s,.s,.s]),.o 9 (fun _=> [.s])]}
 |203=> {ok:=true,desc:= .slice 120,sz:=1,by_:=24,zv:= .slice none 0 0,z:= [.ls [.ls [.sc (.int .i64 0),.sc (.int .i64 0),.sc (.string ⟨#[]⟩)] []] []],ms:= [.o 120 (fun _=> [.o 234 (fun _=> [.s,.s,.s])])]}
 |205=> {ok:=true,desc:= .struct #[fld "Rows" 203 0 0 ""],sz:=1,by_:=24,zv:= .agg #[.slice none 0 0],z:= [.ls [.ls [.sc (.int .i64 0),.sc (.int .i64 0),.sc (.string ⟨#[]⟩)] []] []],ms:= [.o 120 (fun _=> [.o 234 (fun _=> [.s,.s,.s])])]}
 |222=> {ok:=true,desc:= .slice 141,sz:=1,by_:=24,zv:= .slice none 0 0,z:= [.ls [.ls [.sc (.int .i64 0),.sc (.int .i64 0),.sc (.string ⟨#[]⟩)] []] []],ms:= [.o 141 (fun _=> [.o 311 (fun _=> [.s,.s,.s])])]}
 |224=> {ok:=true,desc:= .struct #[fld "Rows" 222 0 0 ""],sz:=1,by_:=24,zv:= .agg #[.slice none 0 0],z:= [.ls [.ls [.sc (.int .i64 0),.sc (.int .i64 0),.sc (.string ⟨#[]⟩)] []] []],ms:= [.o 141 (fun _=> [.o 311 (fun _=> [.s,.s,.s])])]}
 |234=> {ok:=true,desc:= .struct #[fld "Ty" 3 0 0 "",fld "N" 3 1 8 "",fld "S" 9 2 16 ""],sz:=3,by_:=32,zv:= .agg #[.int .i64 0,.int .i64 0,.string ⟨#[]⟩],z:= [.sc (.int .i64 0),.sc (.int .i64 0),.sc (.string ⟨#[]⟩)],eqb:=true}
 |236=> {ok:=true,desc:= .struct #[fld "Name" 9 0 0 "",fld "Ty" 3 1 16 "",fld "Not" 4 2 24 "",fld "Has" 4 3 25 "",fld "Def" 234 4 32 ""],sz:=7,by_:=64,zv:= .agg #[.string ⟨#[]⟩,.int .i64 0,.bool false,.bool false,.int .i64 0,.int .i64 0,.string ⟨#[]⟩],z:= [.sc (.string ⟨#[]⟩),.sc (.int .i64 0),.sc (.bool false),.sc (.bool false),.sc (.int .i64 0),.sc (.int .i64 0),.sc (.string ⟨#[]⟩)],eqb:=true}
 |277=> {ok:=true,desc:= .struct #[fld "Stmt" 146 0 0 "",fld "Cols" 122 10 176 "",fld "Keys" 122 11 200 ""],sz:=12,by_:=224,zv:= .agg #[.int .i64 0,.string ⟨#[]⟩,.slice none 0 0,.slice none 0 0,.int .i64 0,.string ⟨#[]⟩,.slice none 0 0,.slice none 0 0,.string ⟨#[]⟩,.string ⟨#[]⟩,.slice none 0 0,.slice none 0 0],z:= [.sc (.int .i64 0),.sc (.string ⟨#[]⟩),.ls [.sc (.int .i64 0),.sc (.int .i64 0),.sc (.string ⟨#[]⟩)] [],.ls [.sc (.int .i64 0),.sc (.int .i64 0),.sc (.string ⟨#[]⟩)] [],.sc (.int .i64 0),.sc (.string ⟨#[]⟩),.ls [.sc (.string ⟨#[]⟩),.sc (.int .i64 0),.sc (.bool false),.sc (.bool false),.sc (.int .i64 0),.sc (.int .i64 0),.sc (.string ⟨#[]⟩)] [],.ls [.sc (.string ⟨#[]⟩)] [],.sc (.string ⟨#[]⟩),.sc (.string ⟨#[]⟩),.ls [.sc (.string ⟨#[]⟩)] [],.ls [.sc (.string ⟨#[]⟩)] []],ms:= [.s,.s,.o 311 (fun _=> [.s,.s,.s]),.o 311 (fun _=> [.s,.s,.s]),.s,.s,.o 367 (fun _=> [.s,.s,.s,.s,.s,.s,.s]),.o 9 (fun _=> [.s]),.s,.s,.o 9 (fun _=> [.s]),.o 9 (fun _=> [.s])]}
 |308=> {ok:=true,desc:= .struct #[fld "Name" 9 0 0 "",fld "Cols" 142 1 16 "",fld "Keys" 122 2 40 ""],sz:=3,by_:=64,zv:= .agg #[.string ⟨#[]⟩,.slice none 0 0,.slice none 0 0],z:= [.sc (.string ⟨#[]⟩),.ls [.sc (.string ⟨#[]⟩),.sc (.int .i64 0),.sc (.bool false),.sc (.bool false),.sc (.int .i64 0),.sc (.int .i64 0),.sc (.string ⟨#[]⟩)] [],.ls [.sc (.string ⟨#[]⟩)] []],ms:= [.s,.o 367 (fun _=> [.s,.s,.s,.s,.s,.s,.s]),.o 9 (fun _=> [.s])]}
 |311=> {ok:=true,desc:= .struct #[fld "Ty" 3 0 0 "",fld "N" 3 1 8 "",fld "S" 9 2 16 ""],sz:=3,by_:=32,zv:= .agg #[.int .i64 0,.int .i64 0,.string ⟨#[]⟩],z:= [.sc (.int .i64 0),.sc (.int .i64 0),.sc (.string ⟨#[]⟩)]}
 |367=> {ok:=true,desc:= .struct #[fld "Name" 9 0 0 "",fld "Ty" 3 1 16 "",fld "Not" 4 2 24 "",fld "Has" 4 3 25 "",fld "Def" 311 4 32 ""],sz:=7,by_:=64,zv:= .agg #[.string ⟨#[]⟩,.int .i64 0,.bool false,.bool false,.int .i64 0,.int .i64 0,.string ⟨#[]⟩],z:= [.sc (.string ⟨#[]⟩),.sc (.int .i64 0),.sc (.bool false),.sc (.bool false),.sc (.int .i64 0),.sc (.int .i64 0),.sc (.string ⟨#[]⟩)]}
 |394=> {ok:=true,desc:= .int .u64,sz:=1,by_:=8,zv:= .int .u64 0,z:= [.sc (.int .u64 0)]}
 |415=> {ok:=true,desc:= .int .u32,sz:=1,by_:=4,zv:= .int .u32 0,z:= [.sc (.int .u32 0)]}
 |417=> {ok:=true,desc:= .int .u64,sz:=1,by_:=8,zv:= .int .u64 0,z:= [.sc (.int .u64 0)]}
 |_=> {}
def ck:Nat→List CK
 |2=> [.int .i64]
 |3=> [.int .i64]
 |4=> [.bool]
 |5=> [.int .u8]
 |9=> [.str]
 |21=> [.int .i32]
 |22=> [.sl 308]
 |24=> [.sl 308]
 |25=> [.sl 224]
 |27=> [.sl 308,.sl 224]
 |28=> [.sl 146]
 |31=> [.sl 150]
 |34=> [.sl 201]
 |36=> [.sl 201]
 |37=> [.sl 205]
 |39=> [.sl 201,.sl 205]
 |41=> [.sl 126]
 |50=> [.sl 171]
 |52=> [.sl 62]
 |54=> [.sl 128]
 |62=> [.int .i64,.int .i64,.sl 150]
 |68=> [.sl 277]
 |70=> [.int .i64,.int .i64,.sl 277]
 |72=> [.sl 5]
 |74=> [.sl 5]
 |81=> [.sl 74]
 |87=> [.int .i64,.sl 308,.sl 224,.sl 171]
 |92=> [.int .i64,.sl 201,.sl 205,.sl 128]
 |98=> [.sl 308,.sl 224,.int .i64,.int .i64]
 |100=> [.int .i64,.sl 308,.sl 224]
 |104=> [.sl 201,.sl 205,.int .i64,.int .i64]
 |109=> [.int .i64,.sl 201,.sl 205]
 |118=> [.sl 234]
 |120=> [.sl 234]
 |121=> [.sl 236]
 |122=> [.sl 9]
 |124=> [.int .i64,.str,.sl 236,.sl 9,.str,.str]
 |126=> [.int .i64,.str,.sl 234,.sl 234,.int .i64,.str,.sl 236,.sl 9,.str,.str]
 |128=> [.int .i64,.int .i64,.int .i64,.str,.sl 234,.sl 234,.int .i64,.str,.sl 236,.sl 9,.str,.str]
 |139=> [.sl 311]
 |141=> [.sl 311]
 |142=> [.sl 367]
 |144=> [.int .i64,.str,.sl 367,.sl 9,.str,.str]
 |146=> [.int .i64,.str,.sl 311,.sl 311,.int .i64,.str,.sl 367,.sl 9,.str,.str]
 |150=> [.int .i64,.str,.sl 234,.sl 234,.int .i64,.str,.sl 236,.sl 9,.str,.str,.sl 9,.sl 9]
 |171=> [.int .i64,.int .i64,.int .i64,.str,.sl 311,.sl 311,.int .i64,.str,.sl 367,.sl 9,.str,.str]
 |172=> [.sl 3]
 |201=> [.str,.sl 236,.sl 9]
 |203=> [.sl 120]
 |205=> [.sl 120]
 |222=> [.sl 141]
 |224=> [.sl 141]
 |234=> [.int .i64,.int .i64,.str]
 |236=> [.str,.int .i64,.bool,.bool,.int .i64,.int .i64,.str]
 |277=> [.int .i64,.str,.sl 311,.sl 311,.int .i64,.str,.sl 367,.sl 9,.str,.str,.sl 9,.sl 9]
 |308=> [.str,.sl 367,.sl 9]
 |311=> [.int .i64,.int .i64,.str]
 |367=> [.str,.int .i64,.bool,.bool,.int .i64,.int .i64,.str]
 |394=> [.int .u64]
 |415=> [.int .u32]
 |417=> [.int .u64]
 |_=> []
theorem good2:(ti 2).good Tryz.prog 2:=good_sc (v:= .int .i64 0) rfl rfl rfl rfl (by decide) rfl (by intro _ _ h;cases h) (by kernel_rfl) (by kernel_rfl) (fun _=>rfl)
theorem good3:(ti 3).good Tryz.prog 3:=good_sc (v:= .int .i64 0) rfl rfl rfl rfl (by decide) rfl (by intro _ _ h;cases h) (by kernel_rfl) (by kernel_rfl) (fun _=>rfl)
theorem good4:(ti 4).good Tryz.prog 4:=good_sc (v:= .bool false) rfl rfl rfl rfl (by decide) rfl (by intro _ _ h;cases h) (by kernel_rfl) (by kernel_rfl) (fun _=>rfl)
theorem good5:(ti 5).good Tryz.prog 5:=good_sc (v:= .int .u8 0) rfl rfl rfl rfl (by decide) rfl (by intro _ _ h;cases h) (by kernel_rfl) (by kernel_rfl) (fun _=>rfl)
theorem good9:(ti 9).good Tryz.prog 9:=good_sc (v:= .string ⟨#[]⟩) rfl rfl rfl rfl (by decide) rfl (by intro _ _ h;cases h) (by kernel_rfl) (by kernel_rfl) (fun _=>rfl)
theorem good21:(ti 21).good Tryz.prog 21:=good_sc (v:= .int .i32 0) rfl rfl rfl rfl (by decide) rfl (by intro _ _ h;cases h) (by kernel_rfl) (by kernel_rfl) (fun _=>rfl)
theorem good22:(ti 22).good Tryz.prog 22:=good_sl (zz:= [.sc (.string ⟨#[]⟩),.ls [.sc (.string ⟨#[]⟩),.sc (.int .i64 0),.sc (.bool false),.sc (.bool false),.sc (.int .i64 0),.sc (.int .i64 0),.sc (.string ⟨#[]⟩)] [],.ls [.sc (.string ⟨#[]⟩)] []]) rfl rfl rfl rfl (by decide) (by kernel_rfl) (by kernel_rfl)
theorem good24:(ti 24).good Tryz.prog 24:=good_st (fs:= #[fld "Tables" 22 0 0 ""]) (cs:= #[.slice none 0 0]) rfl rfl rfl rfl (by decide) (by decide) (zOk_ok rfl) (by kernel_rfl) (by kernel_rfl) (by kernel_rfl)
theorem good25:(ti 25).good Tryz.prog 25:=good_sl (zz:= [.ls [.ls [.sc (.int .i64 0),.sc (.int .i64 0),.sc (.string ⟨#[]⟩)] []] []]) rfl rfl rfl rfl (by decide) (by kernel_rfl) (by kernel_rfl)
theorem good27:(ti 27).good Tryz.prog 27:=good_st (fs:= #[fld "Cat" 24 0 0 "",fld "Data" 25 1 24 ""]) (cs:= #[.slice none 0 0,.slice none 0 0]) rfl rfl rfl rfl (by decide) (by decide) (zOk_ok rfl) (by kernel_rfl) (by kernel_rfl) (by kernel_rfl)
theorem good28:(ti 28).good Tryz.prog 28:=good_sl (zz:= [.sc (.int .i64 0),.sc (.string ⟨#[]⟩),.ls [.sc (.int .i64 0),.sc (.int .i64 0),.sc (.string ⟨#[]⟩)] [],.ls [.sc (.int .i64 0),.sc (.int .i64 0),.sc (.string ⟨#[]⟩)] [],.sc (.int .i64 0),.sc (.string ⟨#[]⟩),.ls [.sc (.string ⟨#[]⟩),.sc (.int .i64 0),.sc (.bool false),.sc (.bool false),.sc (.int .i64 0),.sc (.int .i64 0),.sc (.string ⟨#[]⟩)] [],.ls [.sc (.string ⟨#[]⟩)] [],.sc (.string ⟨#[]⟩),.sc (.string ⟨#[]⟩)]) rfl rfl rfl rfl (by decide) (by kernel_rfl) (by kernel_rfl)
theorem good31:(ti 31).good Tryz.prog 31:=good_sl (zz:= [.sc (.int .i64 0),.sc (.string ⟨#[]⟩),.ls [.sc (.int .i64 0),.sc (.int .i64 0),.sc (.string ⟨#[]⟩)] [],.ls [.sc (.int .i64 0),.sc (.int .i64 0),.sc (.string ⟨#[]⟩)] [],.sc (.int .i64 0),.sc (.string ⟨#[]⟩),.ls [.sc (.string ⟨#[]⟩),.sc (.int .i64 0),.sc (.bool false),.sc (.bool false),.sc (.int .i64 0),.sc (.int .i64 0),.sc (.string ⟨#[]⟩)] [],.ls [.sc (.string ⟨#[]⟩)] [],.sc (.string ⟨#[]⟩),.sc (.string ⟨#[]⟩),.ls [.sc (.string ⟨#[]⟩)] [],.ls [.sc (.string ⟨#[]⟩)] []]) rfl rfl rfl rfl (by decide) (by kernel_rfl) (by kernel_rfl)
theorem good34:(ti 34).good Tryz.prog 34:=good_sl (zz:= [.sc (.string ⟨#[]⟩),.ls [.sc (.string ⟨#[]⟩),.sc (.int .i64 0),.sc (.bool false),.sc (.bool false),.sc (.int .i64 0),.sc (.int .i64 0),.sc (.string ⟨#[]⟩)] [],.ls [.sc (.string ⟨#[]⟩)] []]) rfl rfl rfl rfl (by decide) (by kernel_rfl) (by kernel_rfl)
theorem good36:(ti 36).good Tryz.prog 36:=good_st (fs:= #[fld "Tables" 34 0 0 ""]) (cs:= #[.slice none 0 0]) rfl rfl rfl rfl (by decide) (by decide) (zOk_ok rfl) (by kernel_rfl) (by kernel_rfl) (by kernel_rfl)
theorem good37:(ti 37).good Tryz.prog 37:=good_sl (zz:= [.ls [.ls [.sc (.int .i64 0),.sc (.int .i64 0),.sc (.string ⟨#[]⟩)] []] []]) rfl rfl rfl rfl (by decide) (by kernel_rfl) (by kernel_rfl)
theorem good39:(ti 39).good Tryz.prog 39:=good_st (fs:= #[fld "Cat" 36 0 0 "",fld "Data" 37 1 24 ""]) (cs:= #[.slice none 0 0,.slice none 0 0]) rfl rfl rfl rfl (by decide) (by decide) (zOk_ok rfl) (by kernel_rfl) (by kernel_rfl) (by kernel_rfl)
theorem good41:(ti 41).good Tryz.prog 41:=good_sl (zz:= [.sc (.int .i64 0),.sc (.string ⟨#[]⟩),.ls [.sc (.int .i64 0),.sc (.int .i64 0),.sc (.string ⟨#[]⟩)] [],.ls [.sc (.int .i64 0),.sc (.int .i64 0),.sc (.string ⟨#[]⟩)] [],.sc (.int .i64 0),.sc (.string ⟨#[]⟩),.ls [.sc (.string ⟨#[]⟩),.sc (.int .i64 0),.sc (.bool false),.sc (.bool false),.sc (.int .i64 0),.sc (.int .i64 0),.sc (.string ⟨#[]⟩)] [],.ls [.sc (.string ⟨#[]⟩)] [],.sc (.string ⟨#[]⟩),.sc (.string ⟨#[]⟩)]) rfl rfl rfl rfl (by decide) (by kernel_rfl) (by kernel_rfl)
theorem good50:(ti 50).good Tryz.prog 50:=good_sl (zz:= [.sc (.int .i64 0),.sc (.int .i64 0),.sc (.int .i64 0),.sc (.string ⟨#[]⟩),.ls [.sc (.int .i64 0),.sc (.int .i64 0),.sc (.string ⟨#[]⟩)] [],.ls [.sc (.int .i64 0),.sc (.int .i64 0),.sc (.string ⟨#[]⟩)] [],.sc (.int .i64 0),.sc (.string ⟨#[]⟩),.ls [.sc (.string ⟨#[]⟩),.sc (.int .i64 0),.sc (.bool false),.sc (.bool false),.sc (.int .i64 0),.sc (.int .i64 0),.sc (.string ⟨#[]⟩)] [],.ls [.sc (.string ⟨#[]⟩)] [],.sc (.string ⟨#[]⟩),.sc (.string ⟨#[]⟩)]) rfl rfl rfl rfl (by decide) (by kernel_rfl) (by kernel_rfl)
theorem good52:(ti 52).good Tryz.prog 52:=good_sl (zz:= [.sc (.int .i64 0),.sc (.int .i64 0),.ls [.sc (.int .i64 0),.sc (.string ⟨#[]⟩),.ls [.sc (.int .i64 0),.sc (.int .i64 0),.sc (.string ⟨#[]⟩)] [],.ls [.sc (.int .i64 0),.sc (.int .i64 0),.sc (.string ⟨#[]⟩)] [],.sc (.int .i64 0),.sc (.string ⟨#[]⟩),.ls [.sc (.string ⟨#[]⟩),.sc (.int .i64 0),.sc (.bool false),.sc (.bool false),.sc (.int .i64 0),.sc (.int .i64 0),.sc (.string ⟨#[]⟩)] [],.ls [.sc (.string ⟨#[]⟩)] [],.sc (.string ⟨#[]⟩),.sc (.string ⟨#[]⟩),.ls [.sc (.string ⟨#[]⟩)] [],.ls [.sc (.string ⟨#[]⟩)] []] []]) rfl rfl rfl rfl (by decide) (by kernel_rfl) (by kernel_rfl)
theorem good54:(ti 54).good Tryz.prog 54:=good_sl (zz:= [.sc (.int .i64 0),.sc (.int .i64 0),.sc (.int .i64 0),.sc (.string ⟨#[]⟩),.ls [.sc (.int .i64 0),.sc (.int .i64 0),.sc (.string ⟨#[]⟩)] [],.ls [.sc (.int .i64 0),.sc (.int .i64 0),.sc (.string ⟨#[]⟩)] [],.sc (.int .i64 0),.sc (.string ⟨#[]⟩),.ls [.sc (.string ⟨#[]⟩),.sc (.int .i64 0),.sc (.bool false),.sc (.bool false),.sc (.int .i64 0),.sc (.int .i64 0),.sc (.string ⟨#[]⟩)] [],.ls [.sc (.string ⟨#[]⟩)] [],.sc (.string ⟨#[]⟩),.sc (.string ⟨#[]⟩)]) rfl rfl rfl rfl (by decide) (by kernel_rfl) (by kernel_rfl)
theorem good62:(ti 62).good Tryz.prog 62:=good_st (fs:= #[fld "Lsn" 3 0 0 "",fld "Prev" 3 1 8 "",fld "Parts" 31 2 16 ""]) (cs:= #[.int .i64 0,.int .i64 0,.slice none 0 0]) rfl rfl rfl rfl (by decide) (by decide) (zOk_ok rfl) (by kernel_rfl) (by kernel_rfl) (by kernel_rfl)
theorem good68:(ti 68).good Tryz.prog 68:=good_sl (zz:= [.sc (.int .i64 0),.sc (.string ⟨#[]⟩),.ls [.sc (.int .i64 0),.sc (.int .i64 0),.sc (.string ⟨#[]⟩)] [],.ls [.sc (.int .i64 0),.sc (.int .i64 0),.sc (.string ⟨#[]⟩)] [],.sc (.int .i64 0),.sc (.string ⟨#[]⟩),.ls [.sc (.string ⟨#[]⟩),.sc (.int .i64 0),.sc (.bool false),.sc (.bool false),.sc (.int .i64 0),.sc (.int .i64 0),.sc (.string ⟨#[]⟩)] [],.ls [.sc (.string ⟨#[]⟩)] [],.sc (.string ⟨#[]⟩),.sc (.string ⟨#[]⟩),.ls [.sc (.string ⟨#[]⟩)] [],.ls [.sc (.string ⟨#[]⟩)] []]) rfl rfl rfl rfl (by decide) (by kernel_rfl) (by kernel_rfl)
theorem good70:(ti 70).good Tryz.prog 70:=good_st (fs:= #[fld "Lsn" 3 0 0 "",fld "Prev" 3 1 8 "",fld "Parts" 68 2 16 ""]) (cs:= #[.int .i64 0,.int .i64 0,.slice none 0 0]) rfl rfl rfl rfl (by decide) (by decide) (zOk_ok rfl) (by kernel_rfl) (by kernel_rfl) (by kernel_rfl)
theorem good72:(ti 72).good Tryz.prog 72:=good_sl (zz:= [.sc (.int .u8 0)]) rfl rfl rfl rfl (by decide) (by kernel_rfl) (by kernel_rfl)
theorem good74:(ti 74).good Tryz.prog 74:=good_st (fs:= #[fld "Bytes" 72 0 0 ""]) (cs:= #[.slice none 0 0]) rfl rfl rfl rfl (by decide) (by decide) (zOk_ok rfl) (by kernel_rfl) (by kernel_rfl) (by kernel_rfl)
theorem good81:(ti 81).good Tryz.prog 81:=good_sl (zz:= [.ls [.sc (.int .u8 0)] []]) rfl rfl rfl rfl (by decide) (by kernel_rfl) (by kernel_rfl)
theorem good87:(ti 87).good Tryz.prog 87:=good_st (fs:= #[fld "Base" 3 0 0 "",fld "Db" 27 1 8 "",fld "Recs" 50 3 56 ""]) (cs:= #[.int .i64 0,.slice none 0 0,.slice none 0 0,.slice none 0 0]) rfl rfl rfl rfl (by decide) (by decide) (zOk_ok rfl) (by kernel_rfl) (by kernel_rfl) (by kernel_rfl)
theorem good92:(ti 92).good Tryz.prog 92:=good_st (fs:= #[fld "Base" 3 0 0 "",fld "Db" 39 1 8 "",fld "Recs" 54 3 56 ""]) (cs:= #[.int .i64 0,.slice none 0 0,.slice none 0 0,.slice none 0 0]) rfl rfl rfl rfl (by decide) (by decide) (zOk_ok rfl) (by kernel_rfl) (by kernel_rfl) (by kernel_rfl)
theorem good98:(ti 98).good Tryz.prog 98:=good_st (fs:= #[fld "Db" 27 0 0 "",fld "At" 3 2 48 "",fld "Halt" 3 3 56 ""]) (cs:= #[.slice none 0 0,.slice none 0 0,.int .i64 0,.int .i64 0]) rfl rfl rfl rfl (by decide) (by decide) (zOk_ok rfl) (by kernel_rfl) (by kernel_rfl) (by kernel_rfl)
theorem good100:(ti 100).good Tryz.prog 100:=good_st (fs:= #[fld "Lsn" 3 0 0 "",fld "Db" 27 1 8 ""]) (cs:= #[.int .i64 0,.slice none 0 0,.slice none 0 0]) rfl rfl rfl rfl (by decide) (by decide) (zOk_ok rfl) (by kernel_rfl) (by kernel_rfl) (by kernel_rfl)
theorem good104:(ti 104).good Tryz.prog 104:=good_st (fs:= #[fld "Db" 39 0 0 "",fld "At" 3 2 48 "",fld "Halt" 3 3 56 ""]) (cs:= #[.slice none 0 0,.slice none 0 0,.int .i64 0,.int .i64 0]) rfl rfl rfl rfl (by decide) (by decide) (zOk_ok rfl) (by kernel_rfl) (by kernel_rfl) (by kernel_rfl)
theorem good109:(ti 109).good Tryz.prog 109:=good_st (fs:= #[fld "Lsn" 3 0 0 "",fld "Db" 39 1 8 ""]) (cs:= #[.int .i64 0,.slice none 0 0,.slice none 0 0]) rfl rfl rfl rfl (by decide) (by decide) (zOk_ok rfl) (by kernel_rfl) (by kernel_rfl) (by kernel_rfl)
theorem good118:(ti 118).good Tryz.prog 118:=good_sl (zz:= [.sc (.int .i64 0),.sc (.int .i64 0),.sc (.string ⟨#[]⟩)]) rfl rfl rfl rfl (by decide) (by kernel_rfl) (by kernel_rfl)
theorem good120:(ti 120).good Tryz.prog 120:=good_st (fs:= #[fld "Vals" 118 0 0 ""]) (cs:= #[.slice none 0 0]) rfl rfl rfl rfl (by decide) (by decide) (zOk_ok rfl) (by kernel_rfl) (by kernel_rfl) (by kernel_rfl)
theorem good121:(ti 121).good Tryz.prog 121:=good_sl (zz:= [.sc (.string ⟨#[]⟩),.sc (.int .i64 0),.sc (.bool false),.sc (.bool false),.sc (.int .i64 0),.sc (.int .i64 0),.sc (.string ⟨#[]⟩)]) rfl rfl rfl rfl (by decide) (by kernel_rfl) (by kernel_rfl)
theorem good122:(ti 122).good Tryz.prog 122:=good_sl (zz:= [.sc (.string ⟨#[]⟩)]) rfl rfl rfl rfl (by decide) (by kernel_rfl) (by kernel_rfl)
theorem good124:(ti 124).good Tryz.prog 124:=good_st (fs:= #[fld "Kind" 3 0 0 "",fld "Table" 9 1 8 "",fld "Cols" 121 2 24 "",fld "Keys" 122 3 48 "",fld "Name" 9 4 72 "",fld "To" 9 5 88 ""]) (cs:= #[.int .i64 0,.string ⟨#[]⟩,.slice none 0 0,.slice none 0 0,.string ⟨#[]⟩,.string ⟨#[]⟩]) rfl rfl rfl rfl (by decide) (by decide) (zOk_ok rfl) (by kernel_rfl) (by kernel_rfl) (by kernel_rfl)
theorem good126:(ti 126).good Tryz.prog 126:=good_st (fs:= #[fld "Kind" 3 0 0 "",fld "Table" 9 1 8 "",fld "Key" 118 2 24 "",fld "Row" 120 3 48 "",fld "Ddl" 124 4 72 ""]) (cs:= #[.int .i64 0,.string ⟨#[]⟩,.slice none 0 0,.slice none 0 0,.int .i64 0,.string ⟨#[]⟩,.slice none 0 0,.slice none 0 0,.string ⟨#[]⟩,.string ⟨#[]⟩]) rfl rfl rfl rfl (by decide) (by decide) (zOk_ok rfl) (by kernel_rfl) (by kernel_rfl) (by kernel_rfl)
theorem good128:(ti 128).good Tryz.prog 128:=good_st (fs:= #[fld "Kind" 3 0 0 "",fld "Xid" 3 1 8 "",fld "Stmt" 126 2 16 ""]) (cs:= #[.int .i64 0,.int .i64 0,.int .i64 0,.string ⟨#[]⟩,.slice none 0 0,.slice none 0 0,.int .i64 0,.string ⟨#[]⟩,.slice none 0 0,.slice none 0 0,.string ⟨#[]⟩,.string ⟨#[]⟩]) rfl rfl rfl rfl (by decide) (by decide) (zOk_ok rfl) (by kernel_rfl) (by kernel_rfl) (by kernel_rfl)
theorem good139:(ti 139).good Tryz.prog 139:=good_sl (zz:= [.sc (.int .i64 0),.sc (.int .i64 0),.sc (.string ⟨#[]⟩)]) rfl rfl rfl rfl (by decide) (by kernel_rfl) (by kernel_rfl)
theorem good141:(ti 141).good Tryz.prog 141:=good_st (fs:= #[fld "Vals" 139 0 0 ""]) (cs:= #[.slice none 0 0]) rfl rfl rfl rfl (by decide) (by decide) (zOk_ok rfl) (by kernel_rfl) (by kernel_rfl) (by kernel_rfl)
theorem good142:(ti 142).good Tryz.prog 142:=good_sl (zz:= [.sc (.string ⟨#[]⟩),.sc (.int .i64 0),.sc (.bool false),.sc (.bool false),.sc (.int .i64 0),.sc (.int .i64 0),.sc (.string ⟨#[]⟩)]) rfl rfl rfl rfl (by decide) (by kernel_rfl) (by kernel_rfl)
theorem good144:(ti 144).good Tryz.prog 144:=good_st (fs:= #[fld "Kind" 3 0 0 "",fld "Table" 9 1 8 "",fld "Cols" 142 2 24 "",fld "Keys" 122 3 48 "",fld "Name" 9 4 72 "",fld "To" 9 5 88 ""]) (cs:= #[.int .i64 0,.string ⟨#[]⟩,.slice none 0 0,.slice none 0 0,.string ⟨#[]⟩,.string ⟨#[]⟩]) rfl rfl rfl rfl (by decide) (by decide) (zOk_ok rfl) (by kernel_rfl) (by kernel_rfl) (by kernel_rfl)
theorem good146:(ti 146).good Tryz.prog 146:=good_st (fs:= #[fld "Kind" 3 0 0 "",fld "Table" 9 1 8 "",fld "Key" 139 2 24 "",fld "Row" 141 3 48 "",fld "Ddl" 144 4 72 ""]) (cs:= #[.int .i64 0,.string ⟨#[]⟩,.slice none 0 0,.slice none 0 0,.int .i64 0,.string ⟨#[]⟩,.slice none 0 0,.slice none 0 0,.string ⟨#[]⟩,.string ⟨#[]⟩]) rfl rfl rfl rfl (by decide) (by decide) (zOk_ok rfl) (by kernel_rfl) (by kernel_rfl) (by kernel_rfl)
theorem good150:(ti 150).good Tryz.prog 150:=good_st (fs:= #[fld "Stmt" 126 0 0 "",fld "Cols" 122 10 176 "",fld "Keys" 122 11 200 ""]) (cs:= #[.int .i64 0,.string ⟨#[]⟩,.slice none 0 0,.slice none 0 0,.int .i64 0,.string ⟨#[]⟩,.slice none 0 0,.slice none 0 0,.string ⟨#[]⟩,.string ⟨#[]⟩,.slice none 0 0,.slice none 0 0]) rfl rfl rfl rfl (by decide) (by decide) (zOk_ok rfl) (by kernel_rfl) (by kernel_rfl) (by kernel_rfl)
theorem good171:(ti 171).good Tryz.prog 171:=good_st (fs:= #[fld "Kind" 3 0 0 "",fld "Xid" 3 1 8 "",fld "Stmt" 146 2 16 ""]) (cs:= #[.int .i64 0,.int .i64 0,.int .i64 0,.string ⟨#[]⟩,.slice none 0 0,.slice none 0 0,.int .i64 0,.string ⟨#[]⟩,.slice none 0 0,.slice none 0 0,.string ⟨#[]⟩,.string ⟨#[]⟩]) rfl rfl rfl rfl (by decide) (by decide) (zOk_ok rfl) (by kernel_rfl) (by kernel_rfl) (by kernel_rfl)
theorem good172:(ti 172).good Tryz.prog 172:=good_sl (zz:= [.sc (.int .i64 0)]) rfl rfl rfl rfl (by decide) (by kernel_rfl) (by kernel_rfl)
theorem good201:(ti 201).good Tryz.prog 201:=good_st (fs:= #[fld "Name" 9 0 0 "",fld "Cols" 121 1 16 "",fld "Keys" 122 2 40 ""]) (cs:= #[.string ⟨#[]⟩,.slice none 0 0,.slice none 0 0]) rfl rfl rfl rfl (by decide) (by decide) (zOk_ok rfl) (by kernel_rfl) (by kernel_rfl) (by kernel_rfl)
theorem good203:(ti 203).good Tryz.prog 203:=good_sl (zz:= [.ls [.sc (.int .i64 0),.sc (.int .i64 0),.sc (.string ⟨#[]⟩)] []]) rfl rfl rfl rfl (by decide) (by kernel_rfl) (by kernel_rfl)
theorem good205:(ti 205).good Tryz.prog 205:=good_st (fs:= #[fld "Rows" 203 0 0 ""]) (cs:= #[.slice none 0 0]) rfl rfl rfl rfl (by decide) (by decide) (zOk_ok rfl) (by kernel_rfl) (by kernel_rfl) (by kernel_rfl)
theorem good222:(ti 222).good Tryz.prog 222:=good_sl (zz:= [.ls [.sc (.int .i64 0),.sc (.int .i64 0),.sc (.string ⟨#[]⟩)] []]) rfl rfl rfl rfl (by decide) (by kernel_rfl) (by kernel_rfl)
theorem good224:(ti 224).good Tryz.prog 224:=good_st (fs:= #[fld "Rows" 222 0 0 ""]) (cs:= #[.slice none 0 0]) rfl rfl rfl rfl (by decide) (by decide) (zOk_ok rfl) (by kernel_rfl) (by kernel_rfl) (by kernel_rfl)
theorem good234:(ti 234).good Tryz.prog 234:=good_st (fs:= #[fld "Ty" 3 0 0 "",fld "N" 3 1 8 "",fld "S" 9 2 16 ""]) (cs:= #[.int .i64 0,.int .i64 0,.string ⟨#[]⟩]) rfl rfl rfl rfl (by decide) (by decide) (zOk_ok rfl) (by kernel_rfl) (by kernel_rfl) (by kernel_rfl)
theorem good236:(ti 236).good Tryz.prog 236:=good_st (fs:= #[fld "Name" 9 0 0 "",fld "Ty" 3 1 16 "",fld "Not" 4 2 24 "",fld "Has" 4 3 25 "",fld "Def" 234 4 32 ""]) (cs:= #[.string ⟨#[]⟩,.int .i64 0,.bool false,.bool false,.int .i64 0,.int .i64 0,.string ⟨#[]⟩]) rfl rfl rfl rfl (by decide) (by decide) (zOk_ok rfl) (by kernel_rfl) (by kernel_rfl) (by kernel_rfl)
theorem good277:(ti 277).good Tryz.prog 277:=good_st (fs:= #[fld "Stmt" 146 0 0 "",fld "Cols" 122 10 176 "",fld "Keys" 122 11 200 ""]) (cs:= #[.int .i64 0,.string ⟨#[]⟩,.slice none 0 0,.slice none 0 0,.int .i64 0,.string ⟨#[]⟩,.slice none 0 0,.slice none 0 0,.string ⟨#[]⟩,.string ⟨#[]⟩,.slice none 0 0,.slice none 0 0]) rfl rfl rfl rfl (by decide) (by decide) (zOk_ok rfl) (by kernel_rfl) (by kernel_rfl) (by kernel_rfl)
theorem good308:(ti 308).good Tryz.prog 308:=good_st (fs:= #[fld "Name" 9 0 0 "",fld "Cols" 142 1 16 "",fld "Keys" 122 2 40 ""]) (cs:= #[.string ⟨#[]⟩,.slice none 0 0,.slice none 0 0]) rfl rfl rfl rfl (by decide) (by decide) (zOk_ok rfl) (by kernel_rfl) (by kernel_rfl) (by kernel_rfl)
theorem good311:(ti 311).good Tryz.prog 311:=good_st (fs:= #[fld "Ty" 3 0 0 "",fld "N" 3 1 8 "",fld "S" 9 2 16 ""]) (cs:= #[.int .i64 0,.int .i64 0,.string ⟨#[]⟩]) rfl rfl rfl rfl (by decide) (by decide) (zOk_ok rfl) (by kernel_rfl) (by kernel_rfl) (by kernel_rfl)
theorem good367:(ti 367).good Tryz.prog 367:=good_st (fs:= #[fld "Name" 9 0 0 "",fld "Ty" 3 1 16 "",fld "Not" 4 2 24 "",fld "Has" 4 3 25 "",fld "Def" 311 4 32 ""]) (cs:= #[.string ⟨#[]⟩,.int .i64 0,.bool false,.bool false,.int .i64 0,.int .i64 0,.string ⟨#[]⟩]) rfl rfl rfl rfl (by decide) (by decide) (zOk_ok rfl) (by kernel_rfl) (by kernel_rfl) (by kernel_rfl)
theorem good394:(ti 394).good Tryz.prog 394:=good_sc (v:= .int .u64 0) rfl rfl rfl rfl (by decide) rfl (by intro _ _ h;cases h) (by kernel_rfl) (by kernel_rfl) (fun _=>rfl)
theorem good415:(ti 415).good Tryz.prog 415:=good_sc (v:= .int .u32 0) rfl rfl rfl rfl (by decide) rfl (by intro _ _ h;cases h) (by kernel_rfl) (by kernel_rfl) (fun _=>rfl)
theorem good417:(ti 417).good Tryz.prog 417:=good_sc (v:= .int .u64 0) rfl rfl rfl rfl (by decide) rfl (by intro _ _ h;cases h) (by kernel_rfl) (by kernel_rfl) (fun _=>rfl)
theorem eq3:eqAt Tryz.prog (ti 3) 3 1:=eqAt_int (n:=0) rfl rfl (by kernel_rfl)
theorem eq9:eqAt Tryz.prog (ti 9) 9 1:=eqAt_str (s:=⟨#[]⟩) rfl rfl (by kernel_rfl)
theorem eq234:eqAt Tryz.prog (ti 234) 234 2:=eqAt_st (fs:= [fld "Ty" 3 0 0 "",fld "N" 3 1 8 "",fld "S" 9 2 16 ""]) (by kernel_rfl) (by kernel_rfl) (by kernel_rfl) rfl ⟨by decide,rfl,good3,rfl,rfl,eqAt_up eq3 (by decide),⟨by decide,rfl,good3,rfl,rfl,eqAt_up eq3 (by decide),⟨by decide,rfl,good9,rfl,rfl,eqAt_up eq9 (by decide),rfl⟩⟩⟩
theorem eq4:eqAt Tryz.prog (ti 4) 4 1:=eqAt_bool (s:=false) rfl rfl (by kernel_rfl)
theorem eq236:eqAt Tryz.prog (ti 236) 236 3:=eqAt_st (fs:= [fld "Name" 9 0 0 "",fld "Ty" 3 1 16 "",fld "Not" 4 2 24 "",fld "Has" 4 3 25 "",fld "Def" 234 4 32 ""]) (by kernel_rfl) (by kernel_rfl) (by kernel_rfl) rfl ⟨by decide,rfl,good9,rfl,rfl,eqAt_up eq9 (by decide),⟨by decide,rfl,good3,rfl,rfl,eqAt_up eq3 (by decide),⟨by decide,rfl,good4,rfl,rfl,eqAt_up eq4 (by decide),⟨by decide,rfl,good4,rfl,rfl,eqAt_up eq4 (by decide),⟨by decide,rfl,good234,rfl,rfl,eqAt_up eq234 (by decide),rfl⟩⟩⟩⟩⟩
theorem good': ∀t,(ti t).ok=true→(ti t).good Tryz.prog t:=by
 intro t h
 unfold ti at h
 split at h
 ·exact good2
 ·exact good3
 ·exact good4
 ·exact good5
 ·exact good9
 ·exact good21
 ·exact good22
 ·exact good24
 ·exact good25
 ·exact good27
 ·exact good28
 ·exact good31
 ·exact good34
 ·exact good36
 ·exact good37
 ·exact good39
 ·exact good41
 ·exact good50
 ·exact good52
 ·exact good54
 ·exact good62
 ·exact good68
 ·exact good70
 ·exact good72
 ·exact good74
 ·exact good81
 ·exact good87
 ·exact good92
 ·exact good98
 ·exact good100
 ·exact good104
 ·exact good109
 ·exact good118
 ·exact good120
 ·exact good121
 ·exact good122
 ·exact good124
 ·exact good126
 ·exact good128
 ·exact good139
 ·exact good141
 ·exact good142
 ·exact good144
 ·exact good146
 ·exact good150
 ·exact good171
 ·exact good172
 ·exact good201
 ·exact good203
 ·exact good205
 ·exact good222
 ·exact good224
 ·exact good234
 ·exact good236
 ·exact good277
 ·exact good308
 ·exact good311
 ·exact good367
 ·exact good394
 ·exact good415
 ·exact good417
 ·cases h
theorem gooe: ∀t,(ti t).eqb=true→eqAt Tryz.prog (ti t) t 5000∧Tryz.prog.eqGuardType Tryz.prog.depth t=false:=by
 intro t h
 have h0:=h
 unfold ti at h
 split at h
 ·cases h
 ·cases h
 ·cases h
 ·cases h
 ·cases h
 ·cases h
 ·cases h
 ·cases h
 ·cases h
 ·cases h
 ·cases h
 ·cases h
 ·cases h
 ·cases h
 ·cases h
 ·cases h
 ·cases h
 ·cases h
 ·cases h
 ·cases h
 ·cases h
 ·cases h
 ·cases h
 ·cases h
 ·cases h
 ·cases h
 ·cases h
 ·cases h
 ·cases h
 ·cases h
 ·cases h
 ·cases h
 ·cases h
 ·cases h
 ·cases h
 ·cases h
 ·cases h
 ·cases h
 ·cases h
 ·cases h
 ·cases h
 ·cases h
 ·cases h
 ·cases h
 ·cases h
 ·cases h
 ·cases h
 ·cases h
 ·cases h
 ·cases h
 ·cases h
 ·cases h
 ·exact ⟨eqAt_up eq234 (by decide),by kernel_rfl⟩
 ·exact ⟨eqAt_up eq236 (by decide),by kernel_rfl⟩
 ·cases h
 ·cases h
 ·cases h
 ·cases h
 ·cases h
 ·cases h
 ·cases h
 ·cases h
theorem good:TGood Tryz.prog ti:=⟨good',gooe⟩
theorem cg2:ckOk ti ck 2:=by simp[ckOk,ti,ck]
theorem cg3:ckOk ti ck 3:=by simp[ckOk,ti,ck]
theorem cg4:ckOk ti ck 4:=by simp[ckOk,ti,ck]
theorem cg5:ckOk ti ck 5:=by simp[ckOk,ti,ck]
theorem cg9:ckOk ti ck 9:=by simp[ckOk,ti,ck]
theorem cg21:ckOk ti ck 21:=by simp[ckOk,ti,ck]
theorem cg22:ckOk ti ck 22:=by simp[ckOk,ti,ck]
theorem cg24:ckOk ti ck 24:=by simp[ckOk,ti,ck,contig]
theorem cg25:ckOk ti ck 25:=by simp[ckOk,ti,ck]
theorem cg27:ckOk ti ck 27:=by simp[ckOk,ti,ck,contig]
theorem cg28:ckOk ti ck 28:=by simp[ckOk,ti,ck]
theorem cg31:ckOk ti ck 31:=by simp[ckOk,ti,ck]
theorem cg34:ckOk ti ck 34:=by simp[ckOk,ti,ck]
theorem cg36:ckOk ti ck 36:=by simp[ckOk,ti,ck,contig]
theorem cg37:ckOk ti ck 37:=by simp[ckOk,ti,ck]
theorem cg39:ckOk ti ck 39:=by simp[ckOk,ti,ck,contig]
theorem cg41:ckOk ti ck 41:=by simp[ckOk,ti,ck]
theorem cg50:ckOk ti ck 50:=by simp[ckOk,ti,ck]
theorem cg52:ckOk ti ck 52:=by simp[ckOk,ti,ck]
theorem cg54:ckOk ti ck 54:=by simp[ckOk,ti,ck]
theorem cg62:ckOk ti ck 62:=by simp[ckOk,ti,ck,contig]
theorem cg68:ckOk ti ck 68:=by simp[ckOk,ti,ck]
theorem cg70:ckOk ti ck 70:=by simp[ckOk,ti,ck,contig]
theorem cg72:ckOk ti ck 72:=by simp[ckOk,ti,ck]
theorem cg74:ckOk ti ck 74:=by simp[ckOk,ti,ck,contig]
theorem cg81:ckOk ti ck 81:=by simp[ckOk,ti,ck]
theorem cg87:ckOk ti ck 87:=by simp[ckOk,ti,ck,contig]
theorem cg92:ckOk ti ck 92:=by simp[ckOk,ti,ck,contig]
theorem cg98:ckOk ti ck 98:=by simp[ckOk,ti,ck,contig]
theorem cg100:ckOk ti ck 100:=by simp[ckOk,ti,ck,contig]
theorem cg104:ckOk ti ck 104:=by simp[ckOk,ti,ck,contig]
theorem cg109:ckOk ti ck 109:=by simp[ckOk,ti,ck,contig]
theorem cg118:ckOk ti ck 118:=by simp[ckOk,ti,ck]
theorem cg120:ckOk ti ck 120:=by simp[ckOk,ti,ck,contig]
theorem cg121:ckOk ti ck 121:=by simp[ckOk,ti,ck]
theorem cg122:ckOk ti ck 122:=by simp[ckOk,ti,ck]
theorem cg124:ckOk ti ck 124:=by simp[ckOk,ti,ck,contig]
theorem cg126:ckOk ti ck 126:=by simp[ckOk,ti,ck,contig]
theorem cg128:ckOk ti ck 128:=by simp[ckOk,ti,ck,contig]
theorem cg139:ckOk ti ck 139:=by simp[ckOk,ti,ck]
theorem cg141:ckOk ti ck 141:=by simp[ckOk,ti,ck,contig]
theorem cg142:ckOk ti ck 142:=by simp[ckOk,ti,ck]
theorem cg144:ckOk ti ck 144:=by simp[ckOk,ti,ck,contig]
theorem cg146:ckOk ti ck 146:=by simp[ckOk,ti,ck,contig]
theorem cg150:ckOk ti ck 150:=by simp[ckOk,ti,ck,contig]
theorem cg171:ckOk ti ck 171:=by simp[ckOk,ti,ck,contig]
theorem cg172:ckOk ti ck 172:=by simp[ckOk,ti,ck]
theorem cg201:ckOk ti ck 201:=by simp[ckOk,ti,ck,contig]
theorem cg203:ckOk ti ck 203:=by simp[ckOk,ti,ck]
theorem cg205:ckOk ti ck 205:=by simp[ckOk,ti,ck,contig]
theorem cg222:ckOk ti ck 222:=by simp[ckOk,ti,ck]
theorem cg224:ckOk ti ck 224:=by simp[ckOk,ti,ck,contig]
theorem cg234:ckOk ti ck 234:=by simp[ckOk,ti,ck,contig]
theorem cg236:ckOk ti ck 236:=by simp[ckOk,ti,ck,contig]
theorem cg277:ckOk ti ck 277:=by simp[ckOk,ti,ck,contig]
theorem cg308:ckOk ti ck 308:=by simp[ckOk,ti,ck,contig]
theorem cg311:ckOk ti ck 311:=by simp[ckOk,ti,ck,contig]
theorem cg367:ckOk ti ck 367:=by simp[ckOk,ti,ck,contig]
theorem cg394:ckOk ti ck 394:=by simp[ckOk,ti,ck]
theorem cg415:ckOk ti ck 415:=by simp[ckOk,ti,ck]
theorem cg417:ckOk ti ck 417:=by simp[ckOk,ti,ck]
theorem cgood:CGood ti ck:=by
 intro t h
 unfold ti at h
 split at h
 ·exact cg2
 ·exact cg3
 ·exact cg4
 ·exact cg5
 ·exact cg9
 ·exact cg21
 ·exact cg22
 ·exact cg24
 ·exact cg25
 ·exact cg27
 ·exact cg28
 ·exact cg31
 ·exact cg34
 ·exact cg36
 ·exact cg37
 ·exact cg39
 ·exact cg41
 ·exact cg50
 ·exact cg52
 ·exact cg54
 ·exact cg62
 ·exact cg68
 ·exact cg70
 ·exact cg72
 ·exact cg74
 ·exact cg81
 ·exact cg87
 ·exact cg92
 ·exact cg98
 ·exact cg100
 ·exact cg104
 ·exact cg109
 ·exact cg118
 ·exact cg120
 ·exact cg121
 ·exact cg122
 ·exact cg124
 ·exact cg126
 ·exact cg128
 ·exact cg139
 ·exact cg141
 ·exact cg142
 ·exact cg144
 ·exact cg146
 ·exact cg150
 ·exact cg171
 ·exact cg172
 ·exact cg201
 ·exact cg203
 ·exact cg205
 ·exact cg222
 ·exact cg224
 ·exact cg234
 ·exact cg236
 ·exact cg277
 ·exact cg308
 ·exact cg311
 ·exact cg367
 ·exact cg394
 ·exact cg415
 ·exact cg417
 ·cases h
theorem hm:Tryz.prog.follows .mixedOrders=true:=by kernel_rfl
end Go.Proofs.YteeolohhmfjafaaGreat
namespace Go.Proofs.YteeolohhmfjafaaGreat
open Go Go.Proofs Go.Sm
attribute [local simp] ti
set_option linter.unusedVariables false
set_option linter.unusedSimpArgs false
theorem markText_ok (k':Int) (k:Nat) (hkk:k'=(k:Int)) (hk:k≤4611686018427387904):VC Tryz.prog 103 [int .i64 k'] [(false,[(.s,.sc (.string (mtext k)))])]:=by
 subst hkk
 refine vc_of_ew good hm [0,2,5,3,7] Tryz.func103 rfl (by kernel_rfl) (by kernel_rfl) rfl ?_
 simp[Tryz.f103]
 refine ⟨fun h=>by simp[mtext,h],fun h0=> ?_⟩
 refine ew_loop (fun E=> ∃ (j f:Nat) (out:ByteArray),j≤f∧out.size+j≤k∧dgo f j out=dgo k k ⟨#[]⟩∧E= {nt:=20,sl:= [(0,int .i64 j),(3,str out)],bx:= [],rt:= []}) (fun E=>(E.num 0).toNat) _ (Gh.kb _ [0,3] [] []) ⟨k,k,⟨#[]⟩,by omega,by simp[ByteArray.size],rfl,by simp⟩ ?_
 rintro E1 ⟨j,f,out,hjf,hsz,hd,rfl⟩
 have q1:(j:Int).tmod 10=((j%10:Nat):Int):=(Int.ofNat_tmod j 10).symm
 have q2:IntKind.i64.wrap (48+((j%10:Nat):Int))=((48+j%10:Nat):Int):=by rw[wrapI (by omega) (by omega)];omega
 have q3:(j:Int).tdiv 10=((j/10:Nat):Int):=(Int.ofNat_tdiv j 10).symm
 have q4:IntKind.i64.wrap ((j/10:Nat):Int)=((j/10:Nat):Int):=wrapI (by omega) (by omega)
 have q5:=wrapU8 (48+j%10)
 obtain ⟨b,hb⟩: ∃b:UInt8,b=UInt8.ofNat (48+j%10):=⟨_,rfl⟩
 rw[←hb] at q5
 simp only[Int.natCast_add,Int.natCast_emod,Int.natCast_ediv,Int.cast_ofNat_Int] at q1 q2 q3 q4 q5
 simp[q1,q2,q3,q4,q5,md]
 have hba: ∀s:ByteArray,(⟨#[b]⟩++s:ByteArray).size=1+s.size:=fun s=>by rw[ByteArray.size_append];rfl
 refine ⟨fun hj=> ?_,fun hj=> ?_⟩
 ·obtain ⟨f',rfl⟩: ∃f',f=f'+1:=⟨f-1,by omega⟩
  rw[dgo,if_neg (by omega),←hb] at hd
  refine ⟨by have h1:(⟨#[b]⟩:ByteArray).size=1:=rfl;omega,.of _ (Gh.kb _ [0,3] [] []) ⟨j/10,f',by omega,_, ?_,hd,by simp⟩ (by simp;omega)⟩
  rw[hba];omega
 ·subst hj
  have:dgo f 0 out=out:=by cases f<;>simp[dgo]
  rw[this] at hd
  subst hd
  exact ⟨by have h1:(⟨#[109]⟩:ByteArray).size=1:=rfl;omega,by simp[mtext,h0]⟩
def wStr (s:ByteArray):List Nat:= [s.size]
def okStr (s:ByteArray):Prop:=okM s.size
theorem okw_Str (x:ByteArray) (h:okStr x): ∀n∈wStr x,okM n:=by
 intro n hn
 rcases List.mem_singleton.1 hn with rfl
 exact h
theorem fit_Str (ls:List Lf) (h:Fit ti ck 9 ls): ∃x:ByteArray,ls=eStr x∧okStr x:=by
 obtain ⟨x,r,rfl,h1,h2⟩:=All2.cons_inv h
 obtain rfl:=All2.nil_inv h2
 obtain ⟨s,rfl,hs⟩:=h1.str_inv
 exact ⟨s,rfl,hs⟩
structure GVal where
 fTy:Int
 fN:Int
 fS:ByteArray
def eVal (x:GVal):List Lf:= [.sc (.int .i64 x.fTy),.sc (.int .i64 x.fN),.sc (.string x.fS)]
def vVal (x:GVal):SV:= .v true [.s (.sc (.int .i64 x.fTy)),.s (.sc (.int .i64 x.fN)),.s (.sc (.string x.fS))]
def dVal:GVal:=⟨0,0,⟨#[]⟩⟩
@[simp] theorem row_Val (l:List GVal) (i:Nat):(Option.map eVal l[i]?).getD [.sc (.int .i64 0),.sc (.int .i64 0),.sc (.string ⟨#[]⟩)]=eVal (l[i]?.getD dVal):=by cases l[i]? <;>rfl
def wVal (x:GVal):List Nat:=x.fS.size::([])
def okVal (x:GVal):Prop:=okI x.fTy∧okI x.fN∧okM x.fS.size∧True
theorem okw_Val (x:GVal) (h:okVal x): ∀n∈wVal x,okM n:=by
 obtain ⟨h0,h1,h2,_⟩:=h
 intro n hn
 simp only[wVal,List.mem_cons,List.mem_append,List.not_mem_nil,or_false,false_or] at hn
 rcases hn with rfl
 ·exact h2
theorem fit_Val (ls:List Lf) (h:Fit ti ck 311 ls): ∃x:GVal,ls=eVal x∧okVal x:=by
 obtain ⟨c0,r0,rfl,h0,g0⟩:=All2.cons_inv h
 obtain ⟨a0,rfl,b0⟩:=h0.int_inv
 obtain ⟨c1,r1,rfl,h1,g1⟩:=All2.cons_inv g0
 obtain ⟨a1,rfl,b1⟩:=h1.int_inv
 obtain ⟨c2,r2,rfl,h2,g2⟩:=All2.cons_inv g1
 obtain ⟨a2,rfl,b2⟩:=h2.str_inv
 obtain rfl:=All2.nil_inv g2
 exact ⟨⟨a0,a1,a2⟩,rfl,⟨okI_wf b0,okI_wf b1,b2,trivial⟩⟩
def mVal (x:GVal):ML:= [(.s,.sc (.int .i64 x.fTy)),(.s,.sc (.int .i64 x.fN)),(.s,.sc (.string x.fS))]
theorem szVal_ok (x:GVal) (left:Int) (h0:0≤left) (h1:left≤1048576) (hs: ∀n∈wVal x,okM n):VC Tryz.prog 277 [vVal x,int .i64 left] [(false,[(.s,.sc (.int .i64 (szL (wVal x) left)))])]:=by
 refine vc_of_ew good hm [0,1,2,4,11] Tryz.func277 rfl (by kernel_rfl) (by kernel_rfl) rfl ?_
 simp[Tryz.f277,vVal]
 have hb0:x.fS.size≤9223372036854775807:=hs _ (by simp[wVal])
 rw[wrapI (i:=left- (x.fS.size:Nat)) (by omega) (by omega)]
 by_cases hn:(left- (x.fS.size:Nat))<0
 ·have e:szL (wVal x) left= -1:=by rw[wVal,szL,if_pos hn]
  rw[e]
  try omega
 ·have e:szL (wVal x) left=(left- (x.fS.size:Nat)):=by rw[wVal,szL,if_neg hn];rfl
  rw[e]
  try omega
theorem toVal_ok (x:GVal) (hs: ∀n∈wVal x,n≤1048576):VC Tryz.prog 296 [vVal x] [(true,mVal x)]:=by
 refine vc_of_ew good hm [0,1,2,3] Tryz.func296 rfl (by kernel_rfl) (by kernel_rfl) rfl ?_
 simp[Tryz.f296,vVal,mVal]
theorem eqVal_ok (x:GVal) (hs: ∀n∈wVal x,n≤1048576):VC Tryz.prog 323 [vVal x,vVal x] [(false,[(.s,.sc (.bool true))])]:=by
 refine vc_of_ew good hm [0,1,2,3,4,9,14,19] Tryz.func323 rfl (by kernel_rfl) (by kernel_rfl) rfl ?_
 simp[Tryz.f323,vVal]
def vValS (l:List GVal):SV:=list [.sc (.int .i64 0),.sc (.int .i64 0),.sc (.string ⟨#[]⟩)] (l.map eVal)
def wValS (l:List GVal):List Nat:=l.length::l.flatMap wVal
def okValS (l:List GVal):Prop:=okM l.length∧ ∀a∈l,okVal a
theorem okw_ValS (l:List GVal) (h:okValS l): ∀n∈wValS l,okM n:=by
 intro n hn
 rcases List.mem_cons.1 hn with rfl|hn
 ·exact h.1
 ·obtain ⟨a,ha,hn⟩:=List.mem_flatMap.1 hn
  exact okw_Val a (h.2 a ha) n hn
def mValS (x:List GVal):ML:= [(.o 234 (fun _=> [.s,.s,.s]),.ls [.sc (.int .i64 0),.sc (.int .i64 0),.sc (.string ⟨#[]⟩)] (x.map eVal))]
@[simp] theorem ow_ValS (l:List GVal):Ow (.o 234 (fun _=> [.s,.s,.s])) (.ls [.sc (.int .i64 0),.sc (.int .i64 0),.sc (.string ⟨#[]⟩)] (l.map eVal))=True:=eq_true (Ow_rows (fun x j hj=>match j,hj with|0,_=> .sc|1,_=> .sc|2,_=> .sc|n+3,hj=>absurd hj (by simp)) l)
@[simp] theorem full_ValS (l:List GVal):Full (.o 234 (fun _=> [.s,.s,.s])) (.ls [.sc (.int .i64 0),.sc (.int .i64 0),.sc (.string ⟨#[]⟩)] (l.map eVal))=True:=eq_true (Full_rows (fun x j hj=>match j,hj with|0,_=> .s|1,_=> .s|2,_=> .s|n+3,hj=>absurd hj (by simp)) l)
theorem szValS_ok (x:List GVal) (left:Int) (h0:0≤left) (h1:left≤1048576) (hs: ∀n∈wValS x,okM n):VC Tryz.prog 176 [vValS x,int .i64 left] [(false,[(.s,.sc (.int .i64 (szL (wValS x) left)))])]:=by
 refine vc_of_ew good hm [0,1,4,11,5,15,25] Tryz.func176 rfl (by kernel_rfl) (by kernel_rfl) rfl ?_
 have hl:x.length≤9223372036854775807:=hs _ (by simp[wValS])
 simp[Tryz.f176,vValS]
 rw[wrapI (i:=left-x.length) (by omega) (by omega)]
 refine ⟨fun h=>by simp[wValS,szL,h],fun hk=> ?_⟩
 refine ew_loop (fun E=> ∃i:Nat,i≤x.length∧0≤szL ((x.take i).flatMap wVal) (left-x.length)∧E= {nt:=27,sl:= [(0,vValS x),(1,int .i64 (szL ((x.take i).flatMap wVal) (left-x.length))),(5,int .i64 i)],bx:= [],rt:= []}) (fun E=>x.length- (E.num 5).toNat) _ (Gh.keep _ [0,1,5]) ⟨0,by omega,by simp[szL];omega,by simp[szL,vValS]⟩ ?_
 rintro E1 ⟨i,hi,hr0,rfl⟩
 have hr1:=szL_le' (l:=(x.take i).flatMap wVal) (left:=left-x.length) (by omega)
 simp[vValS,eVal]
 refine ⟨fun h=> ?_,fun h=> ?_⟩
 ·obtain ⟨q1,q2⟩:=szF_step wVal (dVal) h (by omega:0≤left-x.length) hr0
  have hm: ∀n∈wVal (x[i]?.getD (dVal)),okM n:=fun n hn=>hs n (List.mem_cons_of_mem _ (mem_flat h hn))
  have hn1:=szL_neg (wVal (x[i]?.getD (dVal))) _ hr0
  refine ⟨h,.of (szVal_ok _ _ hr0 (by omega) hm) ?_⟩
  simp
  refine ⟨fun h2=> ?_,fun h2=> .of _ (Gh.keep _ [0,1,5]) ⟨i+1,by omega, ?_, ?_⟩ ?_⟩
  ·rw[wValS,szL,if_neg (by omega),q1 h2]
  ·rw[q2];exact h2
  ·rw[q2];simp[wrapS (show i<9223372036854775807 by omega)]
  ·simp[wrapS (show i<9223372036854775807 by omega)];omega
 ·rw[wValS,szL,if_neg (by omega),List.take_of_length_le (by simpa using h)]
theorem toValS_ok (x:List GVal) (hs: ∀n∈wValS x,n≤1048576):VC Tryz.prog 189 [vValS x] [(false,mValS x)]:=by
 refine vc_of_ew good hm [0,2,3,4,11] Tryz.func189 rfl (by kernel_rfl) (by kernel_rfl) rfl ?_
 have hl:x.length≤1048576:=hs _ (by simp[wValS])
 simp[Tryz.f189,vValS,mValS]
 refine ⟨by omega, ?_⟩
 refine ew_loop (fun E=> ∃i:Nat,i≤x.length∧E= {nt:=23,sl:= [(0,vValS x),(3,.v false [.r [7]]),(4,int .i64 i)],bx:= [],rt:= [(7,.o 234 (fun _=> [.s,.s,.s]),.ls [.sc (.int .i64 0),.sc (.int .i64 0),.sc (.string ⟨#[]⟩)] (fillR [.sc (.int .i64 0),.sc (.int .i64 0),.sc (.string ⟨#[]⟩)] (x.map eVal) i))]}) (fun E=>x.length- (E.num 4).toNat) _ (Gh.keep _ [0,3,4]) ⟨0,by omega,by simp[vValS,fillR]⟩ ?_
 rintro E1 ⟨i,hi,rfl⟩
 have hfl:(fillR [.sc (.int .i64 0),.sc (.int .i64 0),.sc (.string ⟨#[]⟩)] (x.map eVal) i).length=x.length:=by rw[fillR_len _ _ (by simpa using hi)];simp
 simp[vValS,eVal] at hfl⊢
 try simp[hfl]
 refine ⟨fun h=>⟨h,.of (toVal_ok (x[i]?.getD dVal) (fun n hn=>hs n (List.mem_cons_of_mem _ (mem_flat (wt:=wVal) h hn)))) ?_⟩,fun h=>fillR_all _ _ (by simpa using h)⟩
 simp[mVal]
 try simp[hfl,h]
 refine .of _ (Gh.keep _ [0,3,4]) ⟨i+1,by omega, ?_⟩ ?_
 ·have:=fillR_set [.sc (.int .i64 0),.sc (.int .i64 0),.sc (.string ⟨#[]⟩)] (x.map eVal) (i:=i) (by simpa using h)
  simp[wrapS (show i<9223372036854775807 by omega),vValS,eVal,h] at this⊢
  rw[←this]
 ·simp[wrapS (show i<9223372036854775807 by omega)];omega
theorem eqValS_ok (x:List GVal) (hs: ∀n∈wValS x,n≤1048576):VC Tryz.prog 209 [vValS x,vValS x] [(false,[(.s,.sc (.bool true))])]:=by
 refine vc_of_ew good hm [0,1,4,10,5,14,26] Tryz.func209 rfl (by kernel_rfl) (by kernel_rfl) rfl ?_
 have hl:x.length≤1048576:=hs _ (by simp[wValS])
 simp[Tryz.f209,vValS]
 refine ew_loop (fun E=> ∃i:Nat,i≤x.length∧E= {nt:=27,sl:= [(0,vValS x),(1,vValS x),(5,int .i64 i)],bx:= [],rt:= []}) (fun E=>x.length- (E.num 5).toNat) _ (Gh.keep _ [0,1,5]) ⟨0,by omega,by simp[vValS]⟩ ?_
 rintro E1 ⟨i,hi,rfl⟩
 simp[vValS,eVal]
 intro h
 refine ⟨h,.of (eqVal_ok (x[i]?.getD dVal) (fun n hn=>hs n (List.mem_cons_of_mem _ (mem_flat (wt:=wVal) h hn)))) ?_⟩
 simp
 refine .of _ (Gh.keep _ [0,1,5]) ⟨i+1,by omega, ?_⟩ ?_
 ·simp[wrapS (show i<9223372036854775807 by omega),vValS]
 ·simp[wrapS (show i<9223372036854775807 by omega)];omega
def ctVal (x:GVal):Nat:=3
def mkVal (k:Nat) (x:GVal):GVal:=⟨mkInt (k) x.fTy,mkInt (k+1) x.fN,mkStr (k+2) x.fS⟩
theorem ctle_Val (x:GVal):ctVal x≤64+64* (wVal x).sum:=by
 simp only[ctVal,wVal,List.sum_cons,List.sum_append,List.sum_nil]
 omega
def ctValS (l:List GVal):Nat:=ctRw ctVal l
def mkValS (k:Nat) (l:List GVal):List GVal:=mkRw mkVal ctVal k l
theorem ctle_ValS (l:List GVal):ctValS l≤64* (wValS l).sum:=by
 have:=ctRw_le64 ctVal wVal l (fun x _=>ctle_Val x)
 simp only[wValS,List.sum_cons]
 exact this
theorem markValS_ok (x:List GVal) (k:Nat) (k':Int) (hkk':k'=(k:Int)) (hk:k+ctValS x≤4611686018427387904) (hs: ∀n∈wValS x,n≤4611686018427387904):VM Tryz.prog 104 [.v false [.r [900]],int .i64 k'] [(.o 234 (fun _=> [.s,.s,.s]),.ls [.sc (.int .i64 0),.sc (.int .i64 0),.sc (.string ⟨#[]⟩)] (x.map eVal),.ls [.sc (.int .i64 0),.sc (.int .i64 0),.sc (.string ⟨#[]⟩)] ((mkValS k x).map eVal))] (some ((k:Int)+(ctValS x:Int))):=by
 subst hkk'
 have hl:x.length≤4611686018427387904:=hs _ (by simp[wValS])
 refine vm_of_ew good hm [0,1,4,5,9,5000] Tryz.func104 rfl (by kernel_rfl) (by kernel_rfl) rfl fun pv=> ?_
 simp[Tryz.f104]
 refine ew_loop (fun E=> ∃ (i K:Nat) (M:List (GVal)),i≤x.length∧K=k+ctRw ctVal (x.take i)∧M=mixR mkVal ctVal k x i∧E= {nt:=35,sl:= [(0,.v false [.r [900]]),(1,int .i64 (K:Int)),(5,int .i64 i),(5000,.pin 900 [] (pv 900))],bx:= [],rt:= [(900,.o 234 (fun _=> [.s,.s,.s]),.ls [.sc (.int .i64 0),.sc (.int .i64 0),.sc (.string ⟨#[]⟩)] (M.map eVal))]}) (fun E=>x.length- (E.num 5).toNat) _ (Gh.kb _ [0,1,5,5000] [] [900]) ⟨0,k,x,by omega,by simp[ctRw],by simp[mixR_zero],by simp⟩ ?_
 rintro E1 ⟨i,K,M,hi,hK,hM,rfl⟩
 have hfl:M.length=x.length:=by rw[hM];exact mixR_len mkVal ctVal k x i
 have hct:=ctRw_le ctVal x i
 simp only[ctValS] at hk
 simp[hfl]
 refine ⟨fun h=> ?_,fun h=> ?_⟩
 ·have hg:M[i]? =x[i]? :=by rw[hM];exact mixR_get mkVal ctVal k x i h
  have hst:=mixR_set mkVal ctVal k x i (dVal) h
  have hc1:=ctRw_lt ctVal (dVal) h
  have hs1:ctRw ctVal (x.take (i+1))=ctRw ctVal (x.take i)+ctVal (x[i]?.getD (dVal)):=ctRw_succ ctVal (dVal) h
  have hxi:x[i]? =some (x[i]?.getD (dVal)):=by rw[List.getElem?_eq_getElem h];rfl
  have hy:(x[i]?.getD (dVal))∈x:=getD_mem _ h
  rw[hxi] at hg
  rw[←hK,←hM] at hst
  generalize (x[i]?.getD (dVal))=y at*
  have hg': ∀h',M[i]'h'=y:=fun h'=>by simpa [List.getElem?_eq_getElem h'] using hg
  have hse: ∀n∈wVal y,n≤4611686018427387904:=fun n hn=>hs n (List.mem_cons_of_mem _ (List.mem_flatMap.2 ⟨y,hy,hn⟩))
  simp only[ctVal] at hc1 hs1
  have w0:IntKind.i64.wrap ((K:Int)+1)=(K:Int)+1:=(wrapI (by omega) (by omega)).trans (by omega)
  have w1:IntKind.i64.wrap ((K:Int)+1+1)=(K:Int)+2:=(wrapI (by omega) (by omega)).trans (by omega)
  simp[md,lf,hg',hg,h,hfl,eVal,w0,w1]
  refine .of (markText_ok _ (K+2) (by omega) (by omega)) ?_
  have w2:IntKind.i64.wrap ((K:Int)+2+1)=(K:Int)+3:=(wrapI (by omega) (by omega)).trans (by omega)
  simp[md,lf,hg',hg,h,hfl,eVal,w0,w1,w2]
  have e1:(k:Int)+(ctRw ctVal (x.take (i+1)):Int)=(K:Int)+3:=by omega
  refine .of _ (Gh.kb _ [0,1,5,5000] [] [900]) ⟨i+1,by omega, ?_⟩ ?_
  ·simp[wrapS (show i<9223372036854775807 by omega),e1,←hst,List.map_set,mkVal,mkInt,mkStr,eVal,wrapU8]
  ·simp[wrapS (show i<9223372036854775807 by omega)];omega
 ·have:i=x.length:=by omega
  subst this
  subst hM
  subst hK
  simp[mixR_all,ctValS,mkValS]
structure GRow where
 fVals:List GVal
def vRow (x:GRow):SV:= .v true [.s (.ls [.sc (.int .i64 0),.sc (.int .i64 0),.sc (.string ⟨#[]⟩)] (x.fVals.map eVal))]
def wRow (x:GRow):List Nat:=wValS x.fVals++([])
def okRow (x:GRow):Prop:=okValS x.fVals∧True
theorem okw_Row (x:GRow) (h:okRow x): ∀n∈wRow x,okM n:=by
 obtain ⟨h0,_⟩:=h
 intro n hn
 simp only[wRow,List.mem_cons,List.mem_append,List.not_mem_nil,or_false,false_or] at hn
 rcases hn with hn
 ·exact okw_ValS _ h0 n hn
def mRow (x:GRow):ML:= [(.o 234 (fun _=> [.s,.s,.s]),.ls [.sc (.int .i64 0),.sc (.int .i64 0),.sc (.string ⟨#[]⟩)] (x.fVals.map eVal))]
theorem szRow_ok (x:GRow) (left:Int) (h0:0≤left) (h1:left≤1048576) (hs: ∀n∈wRow x,okM n):VC Tryz.prog 177 [vRow x,int .i64 left] [(false,[(.s,.sc (.int .i64 (szL (wRow x) left)))])]:=by
 refine vc_of_ew good hm [0,1,2,4,10] Tryz.func177 rfl (by kernel_rfl) (by kernel_rfl) rfl ?_
 simp[Tryz.f177,vRow]
 refine .of (szValS_ok x.fVals left (by omega) (by omega) (fun n hn=>hs n (by simp[wRow,hn]))) ?_
 simp
 have hb0:=szL_le' (l:=wValS x.fVals) (left:=left) (by omega)
 have hc0:=szL_neg (wValS x.fVals) left (by omega)
 by_cases hn:(szL (wValS x.fVals) left)<0
 ·have e:szL (wRow x) left= -1:=by rw[wRow,szL_app _ _ _ h0,if_pos hn]
  rw[e]
  try omega
 ·have e:szL (wRow x) left=(szL (wValS x.fVals) left):=by rw[wRow,szL_app _ _ _ h0,if_neg hn];rfl
  rw[e]
  try omega
theorem toRow_ok (x:GRow) (hs: ∀n∈wRow x,n≤1048576):VC Tryz.prog 190 [vRow x] [(true,mRow x)]:=by
 refine vc_of_ew good hm [0,1,2,3] Tryz.func190 rfl (by kernel_rfl) (by kernel_rfl) rfl ?_
 simp[Tryz.f190,vRow,mRow]
 refine .of (toValS_ok x.fVals (fun n hn=>hs n (by simp[wRow,hn]))) ?_
 simp[mValS]
theorem eqRow_ok (x:GRow) (hs: ∀n∈wRow x,n≤1048576):VC Tryz.prog 210 [vRow x,vRow x] [(false,[(.s,.sc (.bool true))])]:=by
 refine vc_of_ew good hm [0,1,2,3,4,10] Tryz.func210 rfl (by kernel_rfl) (by kernel_rfl) rfl ?_
 simp[Tryz.f210,vRow]
 refine .of (eqValS_ok x.fVals (fun n hn=>hs n (by simp[wRow,hn]))) ?_
 simp
def cvRow (x:GRow):Nat:=ctValS x.fVals
def mvRow (k:Nat) (x:GRow):GRow:= {x with fVals:=mkValS (k) x.fVals}
structure GCol where
 fName:ByteArray
 fTy:Int
 fNot:Bool
 fHas:Bool
 fDef:GVal
def eCol (x:GCol):List Lf:= [.sc (.string x.fName),.sc (.int .i64 x.fTy),.sc (.bool x.fNot),.sc (.bool x.fHas),.sc (.int .i64 x.fDef.fTy),.sc (.int .i64 x.fDef.fN),.sc (.string x.fDef.fS)]
def vCol (x:GCol):SV:= .v true [.s (.sc (.string x.fName)),.s (.sc (.int .i64 x.fTy)),.s (.sc (.bool x.fNot)),.s (.sc (.bool x.fHas)),.s (.sc (.int .i64 x.fDef.fTy)),.s (.sc (.int .i64 x.fDef.fN)),.s (.sc (.string x.fDef.fS))]
def dCol:GCol:=⟨⟨#[]⟩,0,false,false,⟨0,0,⟨#[]⟩⟩⟩
@[simp] theorem row_Col (l:List GCol) (i:Nat):(Option.map eCol l[i]?).getD [.sc (.string ⟨#[]⟩),.sc (.int .i64 0),.sc (.bool false),.sc (.bool false),.sc (.int .i64 0),.sc (.int .i64 0),.sc (.string ⟨#[]⟩)]=eCol (l[i]?.getD dCol):=by cases l[i]? <;>rfl
def wCol (x:GCol):List Nat:=x.fName.size::(wVal x.fDef++([]))
def okCol (x:GCol):Prop:=okM x.fName.size∧okI x.fTy∧okVal x.fDef∧True
theorem okw_Col (x:GCol) (h:okCol x): ∀n∈wCol x,okM n:=by
 obtain ⟨h0,h1,h4,_⟩:=h
 intro n hn
 simp only[wCol,List.mem_cons,List.mem_append,List.not_mem_nil,or_false,false_or] at hn
 rcases hn with rfl|hn
 ·exact h0
 ·exact okw_Val _ h4 n hn
theorem fit_Col (ls:List Lf) (h:Fit ti ck 367 ls): ∃x:GCol,ls=eCol x∧okCol x:=by
 obtain ⟨c0,r0,rfl,h0,g0⟩:=All2.cons_inv h
 obtain ⟨a0,rfl,b0⟩:=h0.str_inv
 obtain ⟨c1,r1,rfl,h1,g1⟩:=All2.cons_inv g0
 obtain ⟨a1,rfl,b1⟩:=h1.int_inv
 obtain ⟨c2,r2,rfl,h2,g2⟩:=All2.cons_inv g1
 obtain ⟨a2,rfl⟩:=h2.bool_inv
 obtain ⟨c3,r3,rfl,h3,g3⟩:=All2.cons_inv g2
 obtain ⟨a3,rfl⟩:=h3.bool_inv
 obtain ⟨c4,r4,rfl,h4,g4⟩:=All2.cons_inv g3
 obtain ⟨a4,rfl,b4⟩:=h4.int_inv
 obtain ⟨c5,r5,rfl,h5,g5⟩:=All2.cons_inv g4
 obtain ⟨a5,rfl,b5⟩:=h5.int_inv
 obtain ⟨c6,r6,rfl,h6,g6⟩:=All2.cons_inv g5
 obtain ⟨a6,rfl,b6⟩:=h6.str_inv
 obtain rfl:=All2.nil_inv g6
 exact ⟨⟨a0,a1,a2,a3,⟨a4,a5,a6⟩⟩,rfl,⟨b0,okI_wf b1,⟨okI_wf b4,okI_wf b5,b6,trivial⟩,trivial⟩⟩
def mCol (x:GCol):ML:= [(.s,.sc (.string x.fName)),(.s,.sc (.int .i64 x.fTy)),(.s,.sc (.bool x.fNot)),(.s,.sc (.bool x.fHas)),(.s,.sc (.int .i64 x.fDef.fTy)),(.s,.sc (.int .i64 x.fDef.fN)),(.s,.sc (.string x.fDef.fS))]
theorem szCol_ok (x:GCol) (left:Int) (h0:0≤left) (h1:left≤1048576) (hs: ∀n∈wCol x,okM n):VC Tryz.prog 374 [vCol x,int .i64 left] [(false,[(.s,.sc (.int .i64 (szL (wCol x) left)))])]:=by
 refine vc_of_ew good hm [0,1,2,4,11,17] Tryz.func374 rfl (by kernel_rfl) (by kernel_rfl) rfl ?_
 simp[Tryz.f374,vCol]
 have hb0:x.fName.size≤9223372036854775807:=hs _ (by simp[wCol])
 rw[wrapI (i:=left- (x.fName.size:Nat)) (by omega) (by omega)]
 refine ⟨fun hn=> ?_,fun hk0=> ?_⟩
 ·have e:szL (wCol x) left= -1:=by rw[wCol,szL,if_pos (by omega)]
  rw[e]
  try omega
 have hq0: ¬(left- (x.fName.size:Nat))<0:=by omega
 have hz0:0≤(left- (x.fName.size:Nat)):=by omega
 refine .of (szVal_ok x.fDef (left- (x.fName.size:Nat)) (by omega) (by omega) (fun n hn=>hs n (by simp[wCol,hn]))) ?_
 simp
 have hb1:=szL_le' (l:=wVal x.fDef) (left:=(left- (x.fName.size:Nat))) (by omega)
 have hc1:=szL_neg (wVal x.fDef) (left- (x.fName.size:Nat)) (by omega)
 by_cases hn:(szL (wVal x.fDef) (left- (x.fName.size:Nat)))<0
 ·have e:szL (wCol x) left= -1:=by rw[wCol,szL,if_neg hq0,szL_app _ _ _ hz0,if_pos hn]
  rw[e]
  try omega
 ·have e:szL (wCol x) left=(szL (wVal x.fDef) (left- (x.fName.size:Nat))):=by rw[wCol,szL,if_neg hq0,szL_app _ _ _ hz0,if_neg hn];rfl
  rw[e]
  try omega
theorem toCol_ok (x:GCol) (hs: ∀n∈wCol x,n≤1048576):VC Tryz.prog 384 [vCol x] [(true,mCol x)]:=by
 refine vc_of_ew good hm [0,1,2,3] Tryz.func384 rfl (by kernel_rfl) (by kernel_rfl) rfl ?_
 simp[Tryz.f384,vCol,mCol]
 refine .of (toVal_ok x.fDef (fun n hn=>hs n (by simp[wCol,hn]))) ?_
 simp[mVal]
theorem eqCol_ok (x:GCol) (hs: ∀n∈wCol x,n≤1048576):VC Tryz.prog 399 [vCol x,vCol x] [(false,[(.s,.sc (.bool true))])]:=by
 refine vc_of_ew good hm [0,1,2,3,4,9,14,19,24,30] Tryz.func399 rfl (by kernel_rfl) (by kernel_rfl) rfl ?_
 simp[Tryz.f399,vCol]
 refine .of (eqVal_ok x.fDef (fun n hn=>hs n (by simp[wCol,hn]))) ?_
 simp
def vColS (l:List GCol):SV:=list [.sc (.string ⟨#[]⟩),.sc (.int .i64 0),.sc (.bool false),.sc (.bool false),.sc (.int .i64 0),.sc (.int .i64 0),.sc (.string ⟨#[]⟩)] (l.map eCol)
def wColS (l:List GCol):List Nat:=l.length::l.flatMap wCol
def okColS (l:List GCol):Prop:=okM l.length∧ ∀a∈l,okCol a
theorem okw_ColS (l:List GCol) (h:okColS l): ∀n∈wColS l,okM n:=by
 intro n hn
 rcases List.mem_cons.1 hn with rfl|hn
 ·exact h.1
 ·obtain ⟨a,ha,hn⟩:=List.mem_flatMap.1 hn
  exact okw_Col a (h.2 a ha) n hn
def mColS (x:List GCol):ML:= [(.o 236 (fun _=> [.s,.s,.s,.s,.s,.s,.s]),.ls [.sc (.string ⟨#[]⟩),.sc (.int .i64 0),.sc (.bool false),.sc (.bool false),.sc (.int .i64 0),.sc (.int .i64 0),.sc (.string ⟨#[]⟩)] (x.map eCol))]
@[simp] theorem ow_ColS (l:List GCol):Ow (.o 236 (fun _=> [.s,.s,.s,.s,.s,.s,.s])) (.ls [.sc (.string ⟨#[]⟩),.sc (.int .i64 0),.sc (.bool false),.sc (.bool false),.sc (.int .i64 0),.sc (.int .i64 0),.sc (.string ⟨#[]⟩)] (l.map eCol))=True:=eq_true (Ow_rows (fun x j hj=>match j,hj with|0,_=> .sc|1,_=> .sc|2,_=> .sc|3,_=> .sc|4,_=> .sc|5,_=> .sc|6,_=> .sc|n+7,hj=>absurd hj (by simp)) l)
@[simp] theorem full_ColS (l:List GCol):Full (.o 236 (fun _=> [.s,.s,.s,.s,.s,.s,.s])) (.ls [.sc (.string ⟨#[]⟩),.sc (.int .i64 0),.sc (.bool false),.sc (.bool false),.sc (.int .i64 0),.sc (.int .i64 0),.sc (.string ⟨#[]⟩)] (l.map eCol))=True:=eq_true (Full_rows (fun x j hj=>match j,hj with|0,_=> .s|1,_=> .s|2,_=> .s|3,_=> .s|4,_=> .s|5,_=> .s|6,_=> .s|n+7,hj=>absurd hj (by simp)) l)
theorem szColS_ok (x:List GCol) (left:Int) (h0:0≤left) (h1:left≤1048576) (hs: ∀n∈wColS x,okM n):VC Tryz.prog 278 [vColS x,int .i64 left] [(false,[(.s,.sc (.int .i64 (szL (wColS x) left)))])]:=by
 refine vc_of_ew good hm [0,1,4,11,5,15,25] Tryz.func278 rfl (by kernel_rfl) (by kernel_rfl) rfl ?_
 have hl:x.length≤9223372036854775807:=hs _ (by simp[wColS])
 simp[Tryz.f278,vColS]
 rw[wrapI (i:=left-x.length) (by omega) (by omega)]
 refine ⟨fun h=>by simp[wColS,szL,h],fun hk=> ?_⟩
 refine ew_loop (fun E=> ∃i:Nat,i≤x.length∧0≤szL ((x.take i).flatMap wCol) (left-x.length)∧E= {nt:=27,sl:= [(0,vColS x),(1,int .i64 (szL ((x.take i).flatMap wCol) (left-x.length))),(5,int .i64 i)],bx:= [],rt:= []}) (fun E=>x.length- (E.num 5).toNat) _ (Gh.keep _ [0,1,5]) ⟨0,by omega,by simp[szL];omega,by simp[szL,vColS]⟩ ?_
 rintro E1 ⟨i,hi,hr0,rfl⟩
 have hr1:=szL_le' (l:=(x.take i).flatMap wCol) (left:=left-x.length) (by omega)
 simp[vColS,eCol]
 refine ⟨fun h=> ?_,fun h=> ?_⟩
 ·obtain ⟨q1,q2⟩:=szF_step wCol (dCol) h (by omega:0≤left-x.length) hr0
  have hm: ∀n∈wCol (x[i]?.getD (dCol)),okM n:=fun n hn=>hs n (List.mem_cons_of_mem _ (mem_flat h hn))
  have hn1:=szL_neg (wCol (x[i]?.getD (dCol))) _ hr0
  refine ⟨h,.of (szCol_ok _ _ hr0 (by omega) hm) ?_⟩
  simp
  refine ⟨fun h2=> ?_,fun h2=> .of _ (Gh.keep _ [0,1,5]) ⟨i+1,by omega, ?_, ?_⟩ ?_⟩
  ·rw[wColS,szL,if_neg (by omega),q1 h2]
  ·rw[q2];exact h2
  ·rw[q2];simp[wrapS (show i<9223372036854775807 by omega)]
  ·simp[wrapS (show i<9223372036854775807 by omega)];omega
 ·rw[wColS,szL,if_neg (by omega),List.take_of_length_le (by simpa using h)]
theorem toColS_ok (x:List GCol) (hs: ∀n∈wColS x,n≤1048576):VC Tryz.prog 297 [vColS x] [(false,mColS x)]:=by
 refine vc_of_ew good hm [0,2,3,4,11] Tryz.func297 rfl (by kernel_rfl) (by kernel_rfl) rfl ?_
 have hl:x.length≤1048576:=hs _ (by simp[wColS])
 simp[Tryz.f297,vColS,mColS]
 refine ⟨by omega, ?_⟩
 refine ew_loop (fun E=> ∃i:Nat,i≤x.length∧E= {nt:=23,sl:= [(0,vColS x),(3,.v false [.r [7]]),(4,int .i64 i)],bx:= [],rt:= [(7,.o 236 (fun _=> [.s,.s,.s,.s,.s,.s,.s]),.ls [.sc (.string ⟨#[]⟩),.sc (.int .i64 0),.sc (.bool false),.sc (.bool false),.sc (.int .i64 0),.sc (.int .i64 0),.sc (.string ⟨#[]⟩)] (fillR [.sc (.string ⟨#[]⟩),.sc (.int .i64 0),.sc (.bool false),.sc (.bool false),.sc (.int .i64 0),.sc (.int .i64 0),.sc (.string ⟨#[]⟩)] (x.map eCol) i))]}) (fun E=>x.length- (E.num 4).toNat) _ (Gh.keep _ [0,3,4]) ⟨0,by omega,by simp[vColS,fillR]⟩ ?_
 rintro E1 ⟨i,hi,rfl⟩
 have hfl:(fillR [.sc (.string ⟨#[]⟩),.sc (.int .i64 0),.sc (.bool false),.sc (.bool false),.sc (.int .i64 0),.sc (.int .i64 0),.sc (.string ⟨#[]⟩)] (x.map eCol) i).length=x.length:=by rw[fillR_len _ _ (by simpa using hi)];simp
 simp[vColS,eCol] at hfl⊢
 try simp[hfl]
 refine ⟨fun h=>⟨h,.of (toCol_ok (x[i]?.getD dCol) (fun n hn=>hs n (List.mem_cons_of_mem _ (mem_flat (wt:=wCol) h hn)))) ?_⟩,fun h=>fillR_all _ _ (by simpa using h)⟩
 simp[mCol]
 try simp[hfl,h]
 refine .of _ (Gh.keep _ [0,3,4]) ⟨i+1,by omega, ?_⟩ ?_
 ·have:=fillR_set [.sc (.string ⟨#[]⟩),.sc (.int .i64 0),.sc (.bool false),.sc (.bool false),.sc (.int .i64 0),.sc (.int .i64 0),.sc (.string ⟨#[]⟩)] (x.map eCol) (i:=i) (by simpa using h)
  simp[wrapS (show i<9223372036854775807 by omega),vColS,eCol,h] at this⊢
  rw[←this]
 ·simp[wrapS (show i<9223372036854775807 by omega)];omega
theorem eqColS_ok (x:List GCol) (hs: ∀n∈wColS x,n≤1048576):VC Tryz.prog 324 [vColS x,vColS x] [(false,[(.s,.sc (.bool true))])]:=by
 refine vc_of_ew good hm [0,1,4,10,5,14,26] Tryz.func324 rfl (by kernel_rfl) (by kernel_rfl) rfl ?_
 have hl:x.length≤1048576:=hs _ (by simp[wColS])
 simp[Tryz.f324,vColS]
 refine ew_loop (fun E=> ∃i:Nat,i≤x.length∧E= {nt:=27,sl:= [(0,vColS x),(1,vColS x),(5,int .i64 i)],bx:= [],rt:= []}) (fun E=>x.length- (E.num 5).toNat) _ (Gh.keep _ [0,1,5]) ⟨0,by omega,by simp[vColS]⟩ ?_
 rintro E1 ⟨i,hi,rfl⟩
 simp[vColS,eCol]
 intro h
 refine ⟨h,.of (eqCol_ok (x[i]?.getD dCol) (fun n hn=>hs n (List.mem_cons_of_mem _ (mem_flat (wt:=wCol) h hn)))) ?_⟩
 simp
 refine .of _ (Gh.keep _ [0,1,5]) ⟨i+1,by omega, ?_⟩ ?_
 ·simp[wrapS (show i<9223372036854775807 by omega),vColS]
 ·simp[wrapS (show i<9223372036854775807 by omega)];omega
def ctCol (x:GCol):Nat:=7
def mkCol (k:Nat) (x:GCol):GCol:=⟨mkStr (k) x.fName,mkInt (k+1) x.fTy,mkBool (k+2) x.fNot,mkBool (k+3) x.fHas,⟨mkInt (k+4) x.fDef.fTy,mkInt (k+5) x.fDef.fN,mkStr (k+6) x.fDef.fS⟩⟩
theorem ctle_Col (x:GCol):ctCol x≤64+64* (wCol x).sum:=by
 simp only[ctCol,wCol,wVal,List.sum_cons,List.sum_append,List.sum_nil]
 omega
def ctColS (l:List GCol):Nat:=ctRw ctCol l
def mkColS (k:Nat) (l:List GCol):List GCol:=mkRw mkCol ctCol k l
theorem ctle_ColS (l:List GCol):ctColS l≤64* (wColS l).sum:=by
 have:=ctRw_le64 ctCol wCol l (fun x _=>ctle_Col x)
 simp only[wColS,List.sum_cons]
 exact this
theorem markColS_ok (x:List GCol) (k:Nat) (k':Int) (hkk':k'=(k:Int)) (hk:k+ctColS x≤4611686018427387904) (hs: ∀n∈wColS x,n≤4611686018427387904):VM Tryz.prog 105 [.v false [.r [900]],int .i64 k'] [(.o 236 (fun _=> [.s,.s,.s,.s,.s,.s,.s]),.ls [.sc (.string ⟨#[]⟩),.sc (.int .i64 0),.sc (.bool false),.sc (.bool false),.sc (.int .i64 0),.sc (.int .i64 0),.sc (.string ⟨#[]⟩)] (x.map eCol),.ls [.sc (.string ⟨#[]⟩),.sc (.int .i64 0),.sc (.bool false),.sc (.bool false),.sc (.int .i64 0),.sc (.int .i64 0),.sc (.string ⟨#[]⟩)] ((mkColS k x).map eCol))] (some ((k:Int)+(ctColS x:Int))):=by
 subst hkk'
 have hl:x.length≤4611686018427387904:=hs _ (by simp[wColS])
 refine vm_of_ew good hm [0,1,4,5,9,5000] Tryz.func105 rfl (by kernel_rfl) (by kernel_rfl) rfl fun pv=> ?_
 simp[Tryz.f105]
 refine ew_loop (fun E=> ∃ (i K:Nat) (M:List (GCol)),i≤x.length∧K=k+ctRw ctCol (x.take i)∧M=mixR mkCol ctCol k x i∧E= {nt:=71,sl:= [(0,.v false [.r [900]]),(1,int .i64 (K:Int)),(5,int .i64 i),(5000,.pin 900 [] (pv 900))],bx:= [],rt:= [(900,.o 236 (fun _=> [.s,.s,.s,.s,.s,.s,.s]),.ls [.sc (.string ⟨#[]⟩),.sc (.int .i64 0),.sc (.bool false),.sc (.bool false),.sc (.int .i64 0),.sc (.int .i64 0),.sc (.string ⟨#[]⟩)] (M.map eCol))]}) (fun E=>x.length- (E.num 5).toNat) _ (Gh.kb _ [0,1,5,5000] [] [900]) ⟨0,k,x,by omega,by simp[ctRw],by simp[mixR_zero],by simp⟩ ?_
 rintro E1 ⟨i,K,M,hi,hK,hM,rfl⟩
 have hfl:M.length=x.length:=by rw[hM];exact mixR_len mkCol ctCol k x i
 have hct:=ctRw_le ctCol x i
 simp only[ctColS] at hk
 simp[hfl]
 refine ⟨fun h=> ?_,fun h=> ?_⟩
 ·have hg:M[i]? =x[i]? :=by rw[hM];exact mixR_get mkCol ctCol k x i h
  have hst:=mixR_set mkCol ctCol k x i (dCol) h
  have hc1:=ctRw_lt ctCol (dCol) h
  have hs1:ctRw ctCol (x.take (i+1))=ctRw ctCol (x.take i)+ctCol (x[i]?.getD (dCol)):=ctRw_succ ctCol (dCol) h
  have hxi:x[i]? =some (x[i]?.getD (dCol)):=by rw[List.getElem?_eq_getElem h];rfl
  have hy:(x[i]?.getD (dCol))∈x:=getD_mem _ h
  rw[hxi] at hg
  rw[←hK,←hM] at hst
  generalize (x[i]?.getD (dCol))=y at*
  have hg': ∀h',M[i]'h'=y:=fun h'=>by simpa [List.getElem?_eq_getElem h'] using hg
  have hse: ∀n∈wCol y,n≤4611686018427387904:=fun n hn=>hs n (List.mem_cons_of_mem _ (List.mem_flatMap.2 ⟨y,hy,hn⟩))
  simp only[ctCol] at hc1 hs1
  simp[md,lf,hg',hg,h,hfl,eCol]
  refine .of (markText_ok _ (K) (by omega) (by omega)) ?_
  have w0:IntKind.i64.wrap ((K:Int)+1)=(K:Int)+1:=(wrapI (by omega) (by omega)).trans (by omega)
  have w1:IntKind.i64.wrap ((K:Int)+1+1)=(K:Int)+2:=(wrapI (by omega) (by omega)).trans (by omega)
  have w2:IntKind.i64.wrap ((K:Int)+2+1)=(K:Int)+3:=(wrapI (by omega) (by omega)).trans (by omega)
  have w3:IntKind.i64.wrap ((K:Int)+3+1)=(K:Int)+4:=(wrapI (by omega) (by omega)).trans (by omega)
  have w4:IntKind.i64.wrap ((K:Int)+4+1)=(K:Int)+5:=(wrapI (by omega) (by omega)).trans (by omega)
  have w5:IntKind.i64.wrap ((K:Int)+5+1)=(K:Int)+6:=(wrapI (by omega) (by omega)).trans (by omega)
  simp[md,lf,hg',hg,h,hfl,eCol,w0,w1,w2,w3,w4,w5]
  refine .of (markText_ok _ (K+6) (by omega) (by omega)) ?_
  have w6:IntKind.i64.wrap ((K:Int)+6+1)=(K:Int)+7:=(wrapI (by omega) (by omega)).trans (by omega)
  simp[md,lf,hg',hg,h,hfl,eCol,w0,w1,w2,w3,w4,w5,w6]
  have e1:(k:Int)+(ctRw ctCol (x.take (i+1)):Int)=(K:Int)+7:=by omega
  refine .of _ (Gh.kb _ [0,1,5,5000] [] [900]) ⟨i+1,by omega, ?_⟩ ?_
  ·simp[wrapS (show i<9223372036854775807 by omega),e1,←hst,List.map_set,mkCol,mkBool,mkInt,mkStr,eCol,wrapU8]
  ·simp[wrapS (show i<9223372036854775807 by omega)];omega
 ·have:i=x.length:=by omega
  subst this
  subst hM
  subst hK
  simp[mixR_all,ctColS,mkColS]
def vStrS (l:List ByteArray):SV:=list [.sc (.string ⟨#[]⟩)] (l.map eStr)
def wStrS (l:List ByteArray):List Nat:=l.length::l.flatMap wStr
def okStrS (l:List ByteArray):Prop:=okM l.length∧ ∀a∈l,okStr a
theorem okw_StrS (l:List ByteArray) (h:okStrS l): ∀n∈wStrS l,okM n:=by
 intro n hn
 rcases List.mem_cons.1 hn with rfl|hn
 ·exact h.1
 ·obtain ⟨a,ha,hn⟩:=List.mem_flatMap.1 hn
  exact okw_Str a (h.2 a ha) n hn
def mStrS (x:List ByteArray):ML:= [(.o 9 (fun _=> [.s]),.ls [.sc (.string ⟨#[]⟩)] (x.map eStr))]
@[simp] theorem ow_StrS (l:List ByteArray):Ow (.o 9 (fun _=> [.s])) (.ls [.sc (.string ⟨#[]⟩)] (l.map eStr))=True:=eq_true (Ow_rows (fun x j hj=>match j,hj with|0,_=> .sc|n+1,hj=>absurd hj (by simp)) l)
@[simp] theorem full_StrS (l:List ByteArray):Full (.o 9 (fun _=> [.s])) (.ls [.sc (.string ⟨#[]⟩)] (l.map eStr))=True:=eq_true (Full_rows (fun x j hj=>match j,hj with|0,_=> .s|n+1,hj=>absurd hj (by simp)) l)
theorem szStrS_ok (x:List ByteArray) (left:Int) (h0:0≤left) (h1:left≤1048576) (hs: ∀n∈wStrS x,okM n):VC Tryz.prog 279 [vStrS x,int .i64 left] [(false,[(.s,.sc (.int .i64 (szL (wStrS x) left)))])]:=by
 refine vc_of_ew good hm [0,1,4,11,5,15,26] Tryz.func279 rfl (by kernel_rfl) (by kernel_rfl) rfl ?_
 have hl:x.length≤9223372036854775807:=hs _ (by simp[wStrS])
 simp[Tryz.f279,vStrS]
 rw[wrapI (i:=left-x.length) (by omega) (by omega)]
 refine ⟨fun h=>by simp[wStrS,szL,h],fun hk=> ?_⟩
 refine ew_loop (fun E=> ∃i:Nat,i≤x.length∧0≤szL ((x.take i).flatMap wStr) (left-x.length)∧E= {nt:=28,sl:= [(0,vStrS x),(1,int .i64 (szL ((x.take i).flatMap wStr) (left-x.length))),(5,int .i64 i)],bx:= [],rt:= []}) (fun E=>x.length- (E.num 5).toNat) _ (Gh.keep _ [0,1,5]) ⟨0,by omega,by simp[szL];omega,by simp[szL,vStrS]⟩ ?_
 rintro E1 ⟨i,hi,hr0,rfl⟩
 have hr1:=szL_le' (l:=(x.take i).flatMap wStr) (left:=left-x.length) (by omega)
 simp[vStrS,eStr]
 refine ⟨fun h=> ?_,fun h=> ?_⟩
 ·obtain ⟨q1,q2⟩:=szF_step wStr (⟨#[]⟩) h (by omega:0≤left-x.length) hr0
  have hm: ∀n∈wStr (x[i]?.getD (⟨#[]⟩)),okM n:=fun n hn=>hs n (List.mem_cons_of_mem _ (mem_flat h hn))
  have hb:(x[i]?.getD (⟨#[]⟩:ByteArray)).size≤9223372036854775807:=hm _ (by simp[wStr])
  simp only[wStr,szL] at q1 q2
  try simp[eStr]
  rw[wrapI (i:=szL ((x.take i).flatMap wStr) (left-x.length)- ((x[i]?.getD (⟨#[]⟩:ByteArray)).size:Nat)) (by omega) (by omega)]
  refine ⟨h,fun h2=> ?_,fun h2=> .of _ (Gh.keep _ [0,1,5]) ⟨i+1,by omega, ?_, ?_⟩ ?_⟩
  ·simp[h2] at q1;rw[wStrS,szL,if_neg (by omega),q1]
  ·rw[q2,if_neg (by omega)];exact h2
  ·rw[q2,if_neg (by omega)];simp[wrapS (show i<9223372036854775807 by omega)]
  ·simp[wrapS (show i<9223372036854775807 by omega)];omega
 ·rw[wStrS,szL,if_neg (by omega),List.take_of_length_le (by simpa using h)]
theorem toStrS_ok (x:List ByteArray) (hs: ∀n∈wStrS x,n≤1048576):VC Tryz.prog 298 [vStrS x] [(false,mStrS x)]:=by
 refine vc_of_ew good hm [0,2,3,4,11] Tryz.func298 rfl (by kernel_rfl) (by kernel_rfl) rfl ?_
 have hl:x.length≤1048576:=hs _ (by simp[wStrS])
 simp[Tryz.f298,vStrS,mStrS]
 refine ⟨by omega, ?_⟩
 refine ew_loop (fun E=> ∃i:Nat,i≤x.length∧E= {nt:=22,sl:= [(0,vStrS x),(3,.v false [.r [7]]),(4,int .i64 i)],bx:= [],rt:= [(7,.o 9 (fun _=> [.s]),.ls [.sc (.string ⟨#[]⟩)] (fillR [.sc (.string ⟨#[]⟩)] (x.map eStr) i))]}) (fun E=>x.length- (E.num 4).toNat) _ (Gh.keep _ [0,3,4]) ⟨0,by omega,by simp[vStrS,fillR]⟩ ?_
 rintro E1 ⟨i,hi,rfl⟩
 have hfl:(fillR [.sc (.string ⟨#[]⟩)] (x.map eStr) i).length=x.length:=by rw[fillR_len _ _ (by simpa using hi)];simp
 simp[vStrS,eStr] at hfl⊢
 try simp[hfl]
 refine ⟨fun h=> ?_,fun h=>fillR_all _ _ (by simpa using h)⟩
 simp[eStr,hfl,h]
 refine .of _ (Gh.keep _ [0,3,4]) ⟨i+1,by omega, ?_⟩ ?_
 ·have:=fillR_set [.sc (.string ⟨#[]⟩)] (x.map eStr) (i:=i) (by simpa using h)
  simp[wrapS (show i<9223372036854775807 by omega),vStrS,eStr,h] at this⊢
  rw[←this]
 ·simp[wrapS (show i<9223372036854775807 by omega)];omega
theorem eqStrS_ok (x:List ByteArray) (hs: ∀n∈wStrS x,n≤1048576):VC Tryz.prog 206 [vStrS x,vStrS x] [(false,[(.s,.sc (.bool true))])]:=by
 refine vc_of_ew good hm [0,1,4,10,5,14,25] Tryz.func206 rfl (by kernel_rfl) (by kernel_rfl) rfl ?_
 have hl:x.length≤1048576:=hs _ (by simp[wStrS])
 simp[Tryz.f206,vStrS]
 refine ew_loop (fun E=> ∃i:Nat,i≤x.length∧E= {nt:=26,sl:= [(0,vStrS x),(1,vStrS x),(5,int .i64 i)],bx:= [],rt:= []}) (fun E=>x.length- (E.num 5).toNat) _ (Gh.keep _ [0,1,5]) ⟨0,by omega,by simp[vStrS]⟩ ?_
 rintro E1 ⟨i,hi,rfl⟩
 simp[vStrS,eStr]
 intro h
 simp[eStr,h]
 refine .of _ (Gh.keep _ [0,1,5]) ⟨i+1,by omega, ?_⟩ ?_
 ·simp[wrapS (show i<9223372036854775807 by omega),vStrS]
 ·simp[wrapS (show i<9223372036854775807 by omega)];omega
def ctStrS (l:List ByteArray):Nat:=ctRw ctStr l
def mkStrS (k:Nat) (l:List ByteArray):List ByteArray:=mkRw mkStr ctStr k l
theorem ctle_StrS (l:List ByteArray):ctStrS l≤64* (wStrS l).sum:=by
 have:=ctRw_le64 ctStr wStr l (fun x _=>by simp only[ctStr];omega)
 simp only[wStrS,List.sum_cons]
 exact this
theorem markStrS_ok (x:List ByteArray) (k:Nat) (k':Int) (hkk':k'=(k:Int)) (hk:k+ctStrS x≤4611686018427387904) (hs: ∀n∈wStrS x,n≤4611686018427387904):VM Tryz.prog 106 [.v false [.r [900]],int .i64 k'] [(.o 9 (fun _=> [.s]),.ls [.sc (.string ⟨#[]⟩)] (x.map eStr),.ls [.sc (.string ⟨#[]⟩)] ((mkStrS k x).map eStr))] (some ((k:Int)+(ctStrS x:Int))):=by
 subst hkk'
 have hl:x.length≤4611686018427387904:=hs _ (by simp[wStrS])
 refine vm_of_ew good hm [0,1,4,5,9,5000] Tryz.func106 rfl (by kernel_rfl) (by kernel_rfl) rfl fun pv=> ?_
 simp[Tryz.f106]
 refine ew_loop (fun E=> ∃ (i K:Nat) (M:List (ByteArray)),i≤x.length∧K=k+ctRw ctStr (x.take i)∧M=mixR mkStr ctStr k x i∧E= {nt:=20,sl:= [(0,.v false [.r [900]]),(1,int .i64 (K:Int)),(5,int .i64 i),(5000,.pin 900 [] (pv 900))],bx:= [],rt:= [(900,.o 9 (fun _=> [.s]),.ls [.sc (.string ⟨#[]⟩)] (M.map eStr))]}) (fun E=>x.length- (E.num 5).toNat) _ (Gh.kb _ [0,1,5,5000] [] [900]) ⟨0,k,x,by omega,by simp[ctRw],by simp[mixR_zero],by simp⟩ ?_
 rintro E1 ⟨i,K,M,hi,hK,hM,rfl⟩
 have hfl:M.length=x.length:=by rw[hM];exact mixR_len mkStr ctStr k x i
 have hct:=ctRw_le ctStr x i
 simp only[ctStrS] at hk
 simp[hfl]
 refine ⟨fun h=> ?_,fun h=> ?_⟩
 ·have hg:M[i]? =x[i]? :=by rw[hM];exact mixR_get mkStr ctStr k x i h
  have hst:=mixR_set mkStr ctStr k x i (⟨#[]⟩) h
  have hc1:=ctRw_lt ctStr (⟨#[]⟩) h
  have hs1:ctRw ctStr (x.take (i+1))=ctRw ctStr (x.take i)+ctStr (x[i]?.getD (⟨#[]⟩)):=ctRw_succ ctStr (⟨#[]⟩) h
  have hxi:x[i]? =some (x[i]?.getD (⟨#[]⟩)):=by rw[List.getElem?_eq_getElem h];rfl
  have hy:(x[i]?.getD (⟨#[]⟩))∈x:=getD_mem _ h
  rw[hxi] at hg
  rw[←hK,←hM] at hst
  generalize (x[i]?.getD (⟨#[]⟩))=y at*
  have hg': ∀h',M[i]'h'=y:=fun h'=>by simpa [List.getElem?_eq_getElem h'] using hg
  have hse: ∀n∈wStr y,n≤4611686018427387904:=fun n hn=>hs n (List.mem_cons_of_mem _ (List.mem_flatMap.2 ⟨y,hy,hn⟩))
  simp only[ctStr] at hc1 hs1
  simp[md,lf,hg',hg,h,hfl,eStr]
  refine .of (markText_ok _ (K) (by omega) (by omega)) ?_
  have w0:IntKind.i64.wrap ((K:Int)+1)=(K:Int)+1:=(wrapI (by omega) (by omega)).trans (by omega)
  simp[md,lf,hg',hg,h,hfl,eStr,w0]
  have e1:(k:Int)+(ctRw ctStr (x.take (i+1)):Int)=(K:Int)+1:=by omega
  refine .of _ (Gh.kb _ [0,1,5,5000] [] [900]) ⟨i+1,by omega, ?_⟩ ?_
  ·simp[wrapS (show i<9223372036854775807 by omega),e1,←hst,List.map_set,mkStr,eStr,wrapU8]
  ·simp[wrapS (show i<9223372036854775807 by omega)];omega
 ·have:i=x.length:=by omega
  subst this
  subst hM
  subst hK
  simp[mixR_all,ctStrS,mkStrS]
structure GDdl where
 fKind:Int
 fTable:ByteArray
 fCols:List GCol
 fKeys:List ByteArray
 fName:ByteArray
 fTo:ByteArray
def cDdl (x:GDdl):List LV:= [.s (.sc (.int .i64 x.fKind)),.s (.sc (.string x.fTable)),.s (.ls [.sc (.string ⟨#[]⟩),.sc (.int .i64 0),.sc (.bool false),.sc (.bool false),.sc (.int .i64 0),.sc (.int .i64 0),.sc (.string ⟨#[]⟩)] (x.fCols.map eCol)),.s (.ls [.sc (.string ⟨#[]⟩)] (x.fKeys.map eStr)),.s (.sc (.string x.fName)),.s (.sc (.string x.fTo))]
def vDdl (x:GDdl):SV:= .v true [.s (.sc (.int .i64 x.fKind)),.s (.sc (.string x.fTable)),.s (.ls [.sc (.string ⟨#[]⟩),.sc (.int .i64 0),.sc (.bool false),.sc (.bool false),.sc (.int .i64 0),.sc (.int .i64 0),.sc (.string ⟨#[]⟩)] (x.fCols.map eCol)),.s (.ls [.sc (.string ⟨#[]⟩)] (x.fKeys.map eStr)),.s (.sc (.string x.fName)),.s (.sc (.string x.fTo))]
def dDdl:GDdl:=⟨0,⟨#[]⟩,[],[],⟨#[]⟩,⟨#[]⟩⟩
def wDdl (x:GDdl):List Nat:=x.fTable.size::(wColS x.fCols++(wStrS x.fKeys++(x.fName.size::(x.fTo.size::([])))))
def okDdl (x:GDdl):Prop:=okI x.fKind∧okM x.fTable.size∧okColS x.fCols∧okStrS x.fKeys∧okM x.fName.size∧okM x.fTo.size∧True
theorem okw_Ddl (x:GDdl) (h:okDdl x): ∀n∈wDdl x,okM n:=by
 obtain ⟨h0,h1,h2,h3,h4,h5,_⟩:=h
 intro n hn
 simp only[wDdl,List.mem_cons,List.mem_append,List.not_mem_nil,or_false,false_or] at hn
 rcases hn with rfl|hn|hn|rfl|rfl
 ·exact h1
 ·exact okw_ColS _ h2 n hn
 ·exact okw_StrS _ h3 n hn
 ·exact h4
 ·exact h5
def mDdl (x:GDdl):ML:= [(.s,.sc (.int .i64 x.fKind)),(.s,.sc (.string x.fTable)),(.o 236 (fun _=> [.s,.s,.s,.s,.s,.s,.s]),.ls [.sc (.string ⟨#[]⟩),.sc (.int .i64 0),.sc (.bool false),.sc (.bool false),.sc (.int .i64 0),.sc (.int .i64 0),.sc (.string ⟨#[]⟩)] (x.fCols.map eCol)),(.o 9 (fun _=> [.s]),.ls [.sc (.string ⟨#[]⟩)] (x.fKeys.map eStr)),(.s,.sc (.string x.fName)),(.s,.sc (.string x.fTo))]
theorem szDdl_ok (x:GDdl) (left:Int) (h0:0≤left) (h1:left≤1048576) (hs: ∀n∈wDdl x,okM n):VC Tryz.prog 178 [vDdl x,int .i64 left] [(false,[(.s,.sc (.int .i64 (szL (wDdl x) left)))])]:=by
 refine vc_of_ew good hm [0,1,2,4,11,17,23,30,37] Tryz.func178 rfl (by kernel_rfl) (by kernel_rfl) rfl ?_
 simp[Tryz.f178,vDdl]
 have hb0:x.fTable.size≤9223372036854775807:=hs _ (by simp[wDdl])
 rw[wrapI (i:=left- (x.fTable.size:Nat)) (by omega) (by omega)]
 refine ⟨fun hn=> ?_,fun hk0=> ?_⟩
 ·have e:szL (wDdl x) left= -1:=by rw[wDdl,szL,if_pos (by omega)]
  rw[e]
  try omega
 have hq0: ¬(left- (x.fTable.size:Nat))<0:=by omega
 have hz0:0≤(left- (x.fTable.size:Nat)):=by omega
 refine .of (szColS_ok x.fCols (left- (x.fTable.size:Nat)) (by omega) (by omega) (fun n hn=>hs n (by simp[wDdl,hn]))) ?_
 simp
 have hb1:=szL_le' (l:=wColS x.fCols) (left:=(left- (x.fTable.size:Nat))) (by omega)
 have hc1:=szL_neg (wColS x.fCols) (left- (x.fTable.size:Nat)) (by omega)
 refine ⟨fun hn=> ?_,fun hk1=> ?_⟩
 ·have e:szL (wDdl x) left= -1:=by rw[wDdl,szL,if_neg hq0,szL_app _ _ _ hz0,if_pos (by omega)]
  rw[e]
  try omega
 have hq1: ¬(szL (wColS x.fCols) (left- (x.fTable.size:Nat)))<0:=by omega
 have hz1:0≤(szL (wColS x.fCols) (left- (x.fTable.size:Nat))):=by omega
 refine .of (szStrS_ok x.fKeys (szL (wColS x.fCols) (left- (x.fTable.size:Nat))) (by omega) (by omega) (fun n hn=>hs n (by simp[wDdl,hn]))) ?_
 simp
 have hb2:=szL_le' (l:=wStrS x.fKeys) (left:=(szL (wColS x.fCols) (left- (x.fTable.size:Nat)))) (by omega)
 have hc2:=szL_neg (wStrS x.fKeys) (szL (wColS x.fCols) (left- (x.fTable.size:Nat))) (by omega)
 refine ⟨fun hn=> ?_,fun hk2=> ?_⟩
 ·have e:szL (wDdl x) left= -1:=by rw[wDdl,szL,if_neg hq0,szL_app _ _ _ hz0,if_neg hq1,szL_app _ _ _ hz1,if_pos (by omega)]
  rw[e]
  try omega
 have hq2: ¬(szL (wStrS x.fKeys) (szL (wColS x.fCols) (left- (x.fTable.size:Nat))))<0:=by omega
 have hz2:0≤(szL (wStrS x.fKeys) (szL (wColS x.fCols) (left- (x.fTable.size:Nat)))):=by omega
 have hb3:x.fName.size≤9223372036854775807:=hs _ (by simp[wDdl])
 rw[wrapI (i:=(szL (wStrS x.fKeys) (szL (wColS x.fCols) (left- (x.fTable.size:Nat))))- (x.fName.size:Nat)) (by omega) (by omega)]
 refine ⟨fun hn=> ?_,fun hk3=> ?_⟩
 ·have e:szL (wDdl x) left= -1:=by rw[wDdl,szL,if_neg hq0,szL_app _ _ _ hz0,if_neg hq1,szL_app _ _ _ hz1,if_neg hq2,szL,if_pos (by omega)]
  rw[e]
  try omega
 have hq3: ¬((szL (wStrS x.fKeys) (szL (wColS x.fCols) (left- (x.fTable.size:Nat))))- (x.fName.size:Nat))<0:=by omega
 have hz3:0≤((szL (wStrS x.fKeys) (szL (wColS x.fCols) (left- (x.fTable.size:Nat))))- (x.fName.size:Nat)):=by omega
 have hb4:x.fTo.size≤9223372036854775807:=hs _ (by simp[wDdl])
 rw[wrapI (i:=((szL (wStrS x.fKeys) (szL (wColS x.fCols) (left- (x.fTable.size:Nat))))- (x.fName.size:Nat))- (x.fTo.size:Nat)) (by omega) (by omega)]
 by_cases hn:(((szL (wStrS x.fKeys) (szL (wColS x.fCols) (left- (x.fTable.size:Nat))))- (x.fName.size:Nat))- (x.fTo.size:Nat))<0
 ·have e:szL (wDdl x) left= -1:=by rw[wDdl,szL,if_neg hq0,szL_app _ _ _ hz0,if_neg hq1,szL_app _ _ _ hz1,if_neg hq2,szL,if_neg hq3,szL,if_pos hn]
  rw[e]
  try omega
 ·have e:szL (wDdl x) left=(((szL (wStrS x.fKeys) (szL (wColS x.fCols) (left- (x.fTable.size:Nat))))- (x.fName.size:Nat))- (x.fTo.size:Nat)):=by rw[wDdl,szL,if_neg hq0,szL_app _ _ _ hz0,if_neg hq1,szL_app _ _ _ hz1,if_neg hq2,szL,if_neg hq3,szL,if_neg hn];rfl
  rw[e]
  try omega
theorem toDdl_ok (x:GDdl) (hs: ∀n∈wDdl x,n≤1048576):VC Tryz.prog 191 [vDdl x] [(true,mDdl x)]:=by
 refine vc_of_ew good hm [0,1,2,3] Tryz.func191 rfl (by kernel_rfl) (by kernel_rfl) rfl ?_
 simp[Tryz.f191,vDdl,mDdl]
 refine .of (toColS_ok x.fCols (fun n hn=>hs n (by simp[wDdl,hn]))) ?_
 simp[mColS]
 refine .of (toStrS_ok x.fKeys (fun n hn=>hs n (by simp[wDdl,hn]))) ?_
 simp[mStrS]
theorem eqDdl_ok (x:GDdl) (hs: ∀n∈wDdl x,n≤1048576):VC Tryz.prog 211 [vDdl x,vDdl x] [(false,[(.s,.sc (.bool true))])]:=by
 refine vc_of_ew good hm [0,1,2,3,4,9,14,20,26,31,36] Tryz.func211 rfl (by kernel_rfl) (by kernel_rfl) rfl ?_
 simp[Tryz.f211,vDdl]
 refine .of (eqColS_ok x.fCols (fun n hn=>hs n (by simp[wDdl,hn]))) ?_
 simp
 refine .of (eqStrS_ok x.fKeys (fun n hn=>hs n (by simp[wDdl,hn]))) ?_
 simp
def mvDdl (k:Nat) (x:GDdl):GDdl:= {x with fCols:=mkColS (k) x.fCols,fKeys:=mkStrS (k+ctColS x.fCols) x.fKeys}
structure GStmt where
 fKind:Int
 fTable:ByteArray
 fKey:List GVal
 fRow:GRow
 fDdl:GDdl
def vStmt (x:GStmt):SV:= .v true [.s (.sc (.int .i64 x.fKind)),.s (.sc (.string x.fTable)),.s (.ls [.sc (.int .i64 0),.sc (.int .i64 0),.sc (.string ⟨#[]⟩)] (x.fKey.map eVal)),.s (.ls [.sc (.int .i64 0),.sc (.int .i64 0),.sc (.string ⟨#[]⟩)] (x.fRow.fVals.map eVal)),.s (.sc (.int .i64 x.fDdl.fKind)),.s (.sc (.string x.fDdl.fTable)),.s (.ls [.sc (.string ⟨#[]⟩),.sc (.int .i64 0),.sc (.bool false),.sc (.bool false),.sc (.int .i64 0),.sc (.int .i64 0),.sc (.string ⟨#[]⟩)] (x.fDdl.fCols.map eCol)),.s (.ls [.sc (.string ⟨#[]⟩)] (x.fDdl.fKeys.map eStr)),.s (.sc (.string x.fDdl.fName)),.s (.sc (.string x.fDdl.fTo))]
def wStmt (x:GStmt):List Nat:=x.fTable.size::(wValS x.fKey++(wRow x.fRow++(wDdl x.fDdl++([]))))
def okStmt (x:GStmt):Prop:=okI x.fKind∧okM x.fTable.size∧okValS x.fKey∧okRow x.fRow∧okDdl x.fDdl∧True
theorem okw_Stmt (x:GStmt) (h:okStmt x): ∀n∈wStmt x,okM n:=by
 obtain ⟨h0,h1,h2,h3,h4,_⟩:=h
 intro n hn
 simp only[wStmt,List.mem_cons,List.mem_append,List.not_mem_nil,or_false,false_or] at hn
 rcases hn with rfl|hn|hn|hn
 ·exact h1
 ·exact okw_ValS _ h2 n hn
 ·exact okw_Row _ h3 n hn
 ·exact okw_Ddl _ h4 n hn
def mStmt (x:GStmt):ML:= [(.s,.sc (.int .i64 x.fKind)),(.s,.sc (.string x.fTable)),(.o 234 (fun _=> [.s,.s,.s]),.ls [.sc (.int .i64 0),.sc (.int .i64 0),.sc (.string ⟨#[]⟩)] (x.fKey.map eVal)),(.o 234 (fun _=> [.s,.s,.s]),.ls [.sc (.int .i64 0),.sc (.int .i64 0),.sc (.string ⟨#[]⟩)] (x.fRow.fVals.map eVal)),(.s,.sc (.int .i64 x.fDdl.fKind)),(.s,.sc (.string x.fDdl.fTable)),(.o 236 (fun _=> [.s,.s,.s,.s,.s,.s,.s]),.ls [.sc (.string ⟨#[]⟩),.sc (.int .i64 0),.sc (.bool false),.sc (.bool false),.sc (.int .i64 0),.sc (.int .i64 0),.sc (.string ⟨#[]⟩)] (x.fDdl.fCols.map eCol)),(.o 9 (fun _=> [.s]),.ls [.sc (.string ⟨#[]⟩)] (x.fDdl.fKeys.map eStr)),(.s,.sc (.string x.fDdl.fName)),(.s,.sc (.string x.fDdl.fTo))]
theorem szStmt_ok (x:GStmt) (left:Int) (h0:0≤left) (h1:left≤1048576) (hs: ∀n∈wStmt x,okM n):VC Tryz.prog 84 [vStmt x,int .i64 left] [(false,[(.s,.sc (.int .i64 (szL (wStmt x) left)))])]:=by
 refine vc_of_ew good hm [0,1,2,4,11,17,23,29] Tryz.func84 rfl (by kernel_rfl) (by kernel_rfl) rfl ?_
 simp[Tryz.f84,vStmt]
 have hb0:x.fTable.size≤9223372036854775807:=hs _ (by simp[wStmt])
 rw[wrapI (i:=left- (x.fTable.size:Nat)) (by omega) (by omega)]
 refine ⟨fun hn=> ?_,fun hk0=> ?_⟩
 ·have e:szL (wStmt x) left= -1:=by rw[wStmt,szL,if_pos (by omega)]
  rw[e]
  try omega
 have hq0: ¬(left- (x.fTable.size:Nat))<0:=by omega
 have hz0:0≤(left- (x.fTable.size:Nat)):=by omega
 refine .of (szValS_ok x.fKey (left- (x.fTable.size:Nat)) (by omega) (by omega) (fun n hn=>hs n (by simp[wStmt,hn]))) ?_
 simp
 have hb1:=szL_le' (l:=wValS x.fKey) (left:=(left- (x.fTable.size:Nat))) (by omega)
 have hc1:=szL_neg (wValS x.fKey) (left- (x.fTable.size:Nat)) (by omega)
 refine ⟨fun hn=> ?_,fun hk1=> ?_⟩
 ·have e:szL (wStmt x) left= -1:=by rw[wStmt,szL,if_neg hq0,szL_app _ _ _ hz0,if_pos (by omega)]
  rw[e]
  try omega
 have hq1: ¬(szL (wValS x.fKey) (left- (x.fTable.size:Nat)))<0:=by omega
 have hz1:0≤(szL (wValS x.fKey) (left- (x.fTable.size:Nat))):=by omega
 refine .of (szRow_ok x.fRow (szL (wValS x.fKey) (left- (x.fTable.size:Nat))) (by omega) (by omega) (fun n hn=>hs n (by simp[wStmt,hn]))) ?_
 simp
 have hb2:=szL_le' (l:=wRow x.fRow) (left:=(szL (wValS x.fKey) (left- (x.fTable.size:Nat)))) (by omega)
 have hc2:=szL_neg (wRow x.fRow) (szL (wValS x.fKey) (left- (x.fTable.size:Nat))) (by omega)
 refine ⟨fun hn=> ?_,fun hk2=> ?_⟩
 ·have e:szL (wStmt x) left= -1:=by rw[wStmt,szL,if_neg hq0,szL_app _ _ _ hz0,if_neg hq1,szL_app _ _ _ hz1,if_pos (by omega)]
  rw[e]
  try omega
 have hq2: ¬(szL (wRow x.fRow) (szL (wValS x.fKey) (left- (x.fTable.size:Nat))))<0:=by omega
 have hz2:0≤(szL (wRow x.fRow) (szL (wValS x.fKey) (left- (x.fTable.size:Nat)))):=by omega
 refine .of (szDdl_ok x.fDdl (szL (wRow x.fRow) (szL (wValS x.fKey) (left- (x.fTable.size:Nat)))) (by omega) (by omega) (fun n hn=>hs n (by simp[wStmt,hn]))) ?_
 simp
 have hb3:=szL_le' (l:=wDdl x.fDdl) (left:=(szL (wRow x.fRow) (szL (wValS x.fKey) (left- (x.fTable.size:Nat))))) (by omega)
 have hc3:=szL_neg (wDdl x.fDdl) (szL (wRow x.fRow) (szL (wValS x.fKey) (left- (x.fTable.size:Nat)))) (by omega)
 by_cases hn:(szL (wDdl x.fDdl) (szL (wRow x.fRow) (szL (wValS x.fKey) (left- (x.fTable.size:Nat)))))<0
 ·have e:szL (wStmt x) left= -1:=by rw[wStmt,szL,if_neg hq0,szL_app _ _ _ hz0,if_neg hq1,szL_app _ _ _ hz1,if_neg hq2,szL_app _ _ _ hz2,if_pos hn]
  rw[e]
  try omega
 ·have e:szL (wStmt x) left=(szL (wDdl x.fDdl) (szL (wRow x.fRow) (szL (wValS x.fKey) (left- (x.fTable.size:Nat))))):=by rw[wStmt,szL,if_neg hq0,szL_app _ _ _ hz0,if_neg hq1,szL_app _ _ _ hz1,if_neg hq2,szL_app _ _ _ hz2,if_neg hn];rfl
  rw[e]
  try omega
theorem toStmt_ok (x:GStmt) (hs: ∀n∈wStmt x,n≤1048576):VC Tryz.prog 91 [vStmt x] [(true,mStmt x)]:=by
 refine vc_of_ew good hm [0,1,2,3] Tryz.func91 rfl (by kernel_rfl) (by kernel_rfl) rfl ?_
 simp[Tryz.f91,vStmt,mStmt]
 refine .of (toValS_ok x.fKey (fun n hn=>hs n (by simp[wStmt,hn]))) ?_
 simp[mValS]
 refine .of (toRow_ok x.fRow (fun n hn=>hs n (by simp[wStmt,hn]))) ?_
 simp[mRow]
 refine .of (toDdl_ok x.fDdl (fun n hn=>hs n (by simp[wStmt,hn]))) ?_
 simp[mDdl]
theorem eqStmt_ok (x:GStmt) (hs: ∀n∈wStmt x,n≤1048576):VC Tryz.prog 100 [vStmt x,vStmt x] [(false,[(.s,.sc (.bool true))])]:=by
 refine vc_of_ew good hm [0,1,2,3,4,9,14,20,26,32] Tryz.func100 rfl (by kernel_rfl) (by kernel_rfl) rfl ?_
 simp[Tryz.f100,vStmt]
 refine .of (eqValS_ok x.fKey (fun n hn=>hs n (by simp[wStmt,hn]))) ?_
 simp
 refine .of (eqRow_ok x.fRow (fun n hn=>hs n (by simp[wStmt,hn]))) ?_
 simp
 refine .of (eqDdl_ok x.fDdl (fun n hn=>hs n (by simp[wStmt,hn]))) ?_
 simp
def mvStmt (k:Nat) (x:GStmt):GStmt:= {x with fKey:=mkValS (k) x.fKey,fRow:=mvRow (k+ctValS x.fKey) x.fRow,fDdl:=mvDdl (k+ctValS x.fKey+cvRow x.fRow) x.fDdl}
structure GPart where
 fStmt:GStmt
 fCols:List ByteArray
 fKeys:List ByteArray
def ePart (x:GPart):List Lf:= [.sc (.int .i64 x.fStmt.fKind),.sc (.string x.fStmt.fTable),.ls [.sc (.int .i64 0),.sc (.int .i64 0),.sc (.string ⟨#[]⟩)] (x.fStmt.fKey.map eVal),.ls [.sc (.int .i64 0),.sc (.int .i64 0),.sc (.string ⟨#[]⟩)] (x.fStmt.fRow.fVals.map eVal),.sc (.int .i64 x.fStmt.fDdl.fKind),.sc (.string x.fStmt.fDdl.fTable),.ls [.sc (.string ⟨#[]⟩),.sc (.int .i64 0),.sc (.bool false),.sc (.bool false),.sc (.int .i64 0),.sc (.int .i64 0),.sc (.string ⟨#[]⟩)] (x.fStmt.fDdl.fCols.map eCol),.ls [.sc (.string ⟨#[]⟩)] (x.fStmt.fDdl.fKeys.map eStr),.sc (.string x.fStmt.fDdl.fName),.sc (.string x.fStmt.fDdl.fTo),.ls [.sc (.string ⟨#[]⟩)] (x.fCols.map eStr),.ls [.sc (.string ⟨#[]⟩)] (x.fKeys.map eStr)]
def vPart (x:GPart):SV:= .v true [.s (.sc (.int .i64 x.fStmt.fKind)),.s (.sc (.string x.fStmt.fTable)),.s (.ls [.sc (.int .i64 0),.sc (.int .i64 0),.sc (.string ⟨#[]⟩)] (x.fStmt.fKey.map eVal)),.s (.ls [.sc (.int .i64 0),.sc (.int .i64 0),.sc (.string ⟨#[]⟩)] (x.fStmt.fRow.fVals.map eVal)),.s (.sc (.int .i64 x.fStmt.fDdl.fKind)),.s (.sc (.string x.fStmt.fDdl.fTable)),.s (.ls [.sc (.string ⟨#[]⟩),.sc (.int .i64 0),.sc (.bool false),.sc (.bool false),.sc (.int .i64 0),.sc (.int .i64 0),.sc (.string ⟨#[]⟩)] (x.fStmt.fDdl.fCols.map eCol)),.s (.ls [.sc (.string ⟨#[]⟩)] (x.fStmt.fDdl.fKeys.map eStr)),.s (.sc (.string x.fStmt.fDdl.fName)),.s (.sc (.string x.fStmt.fDdl.fTo)),.s (.ls [.sc (.string ⟨#[]⟩)] (x.fCols.map eStr)),.s (.ls [.sc (.string ⟨#[]⟩)] (x.fKeys.map eStr))]
def dPart:GPart:=⟨⟨0,⟨#[]⟩,[],⟨[]⟩,⟨0,⟨#[]⟩,[],[],⟨#[]⟩,⟨#[]⟩⟩⟩,[],[]⟩
@[simp] theorem row_Part (l:List GPart) (i:Nat):(Option.map ePart l[i]?).getD [.sc (.int .i64 0),.sc (.string ⟨#[]⟩),.ls [.sc (.int .i64 0),.sc (.int .i64 0),.sc (.string ⟨#[]⟩)] [],.ls [.sc (.int .i64 0),.sc (.int .i64 0),.sc (.string ⟨#[]⟩)] [],.sc (.int .i64 0),.sc (.string ⟨#[]⟩),.ls [.sc (.string ⟨#[]⟩),.sc (.int .i64 0),.sc (.bool false),.sc (.bool false),.sc (.int .i64 0),.sc (.int .i64 0),.sc (.string ⟨#[]⟩)] [],.ls [.sc (.string ⟨#[]⟩)] [],.sc (.string ⟨#[]⟩),.sc (.string ⟨#[]⟩),.ls [.sc (.string ⟨#[]⟩)] [],.ls [.sc (.string ⟨#[]⟩)] []]=ePart (l[i]?.getD dPart):=by cases l[i]? <;>rfl
def wPart (x:GPart):List Nat:=wStmt x.fStmt++(wStrS x.fCols++(wStrS x.fKeys++([])))
def okPart (x:GPart):Prop:=okStmt x.fStmt∧okStrS x.fCols∧okStrS x.fKeys∧True
theorem okw_Part (x:GPart) (h:okPart x): ∀n∈wPart x,okM n:=by
 obtain ⟨h0,h1,h2,_⟩:=h
 intro n hn
 simp only[wPart,List.mem_cons,List.mem_append,List.not_mem_nil,or_false,false_or] at hn
 rcases hn with hn|hn|hn
 ·exact okw_Stmt _ h0 n hn
 ·exact okw_StrS _ h1 n hn
 ·exact okw_StrS _ h2 n hn
theorem fit_Part (ls:List Lf) (h:Fit ti ck 277 ls): ∃x:GPart,ls=ePart x∧okPart x:=by
 obtain ⟨c0,r0,rfl,h0,g0⟩:=All2.cons_inv h
 obtain ⟨a0,rfl,b0⟩:=h0.int_inv
 obtain ⟨c1,r1,rfl,h1,g1⟩:=All2.cons_inv g0
 obtain ⟨a1,rfl,b1⟩:=h1.str_inv
 obtain ⟨c2,r2,rfl,h2,g2⟩:=All2.cons_inv g1
 obtain ⟨a2,rfl,b2,b2'⟩:=h2.list eVal okVal fit_Val
 obtain ⟨c3,r3,rfl,h3,g3⟩:=All2.cons_inv g2
 obtain ⟨a3,rfl,b3,b3'⟩:=h3.list eVal okVal fit_Val
 obtain ⟨c4,r4,rfl,h4,g4⟩:=All2.cons_inv g3
 obtain ⟨a4,rfl,b4⟩:=h4.int_inv
 obtain ⟨c5,r5,rfl,h5,g5⟩:=All2.cons_inv g4
 obtain ⟨a5,rfl,b5⟩:=h5.str_inv
 obtain ⟨c6,r6,rfl,h6,g6⟩:=All2.cons_inv g5
 obtain ⟨a6,rfl,b6,b6'⟩:=h6.list eCol okCol fit_Col
 obtain ⟨c7,r7,rfl,h7,g7⟩:=All2.cons_inv g6
 obtain ⟨a7,rfl,b7,b7'⟩:=h7.list eStr okStr fit_Str
 obtain ⟨c8,r8,rfl,h8,g8⟩:=All2.cons_inv g7
 obtain ⟨a8,rfl,b8⟩:=h8.str_inv
 obtain ⟨c9,r9,rfl,h9,g9⟩:=All2.cons_inv g8
 obtain ⟨a9,rfl,b9⟩:=h9.str_inv
 obtain ⟨c10,r10,rfl,h10,g10⟩:=All2.cons_inv g9
 obtain ⟨a10,rfl,b10,b10'⟩:=h10.list eStr okStr fit_Str
 obtain ⟨c11,r11,rfl,h11,g11⟩:=All2.cons_inv g10
 obtain ⟨a11,rfl,b11,b11'⟩:=h11.list eStr okStr fit_Str
 obtain rfl:=All2.nil_inv g11
 exact ⟨⟨⟨a0,a1,a2,⟨a3⟩,⟨a4,a5,a6,a7,a8,a9⟩⟩,a10,a11⟩,rfl,⟨⟨okI_wf b0,b1,⟨b2,b2'⟩,⟨⟨b3,b3'⟩,trivial⟩,⟨okI_wf b4,b5,⟨b6,b6'⟩,⟨b7,b7'⟩,b8,b9,trivial⟩,trivial⟩,⟨b10,b10'⟩,⟨b11,b11'⟩,trivial⟩⟩
def mPart (x:GPart):ML:= [(.s,.sc (.int .i64 x.fStmt.fKind)),(.s,.sc (.string x.fStmt.fTable)),(.o 234 (fun _=> [.s,.s,.s]),.ls [.sc (.int .i64 0),.sc (.int .i64 0),.sc (.string ⟨#[]⟩)] (x.fStmt.fKey.map eVal)),(.o 234 (fun _=> [.s,.s,.s]),.ls [.sc (.int .i64 0),.sc (.int .i64 0),.sc (.string ⟨#[]⟩)] (x.fStmt.fRow.fVals.map eVal)),(.s,.sc (.int .i64 x.fStmt.fDdl.fKind)),(.s,.sc (.string x.fStmt.fDdl.fTable)),(.o 236 (fun _=> [.s,.s,.s,.s,.s,.s,.s]),.ls [.sc (.string ⟨#[]⟩),.sc (.int .i64 0),.sc (.bool false),.sc (.bool false),.sc (.int .i64 0),.sc (.int .i64 0),.sc (.string ⟨#[]⟩)] (x.fStmt.fDdl.fCols.map eCol)),(.o 9 (fun _=> [.s]),.ls [.sc (.string ⟨#[]⟩)] (x.fStmt.fDdl.fKeys.map eStr)),(.s,.sc (.string x.fStmt.fDdl.fName)),(.s,.sc (.string x.fStmt.fDdl.fTo)),(.o 9 (fun _=> [.s]),.ls [.sc (.string ⟨#[]⟩)] (x.fCols.map eStr)),(.o 9 (fun _=> [.s]),.ls [.sc (.string ⟨#[]⟩)] (x.fKeys.map eStr))]
theorem szPart_ok (x:GPart) (left:Int) (h0:0≤left) (h1:left≤1048576) (hs: ∀n∈wPart x,okM n):VC Tryz.prog 227 [vPart x,int .i64 left] [(false,[(.s,.sc (.int .i64 (szL (wPart x) left)))])]:=by
 refine vc_of_ew good hm [0,1,2,4,10,16,22] Tryz.func227 rfl (by kernel_rfl) (by kernel_rfl) rfl ?_
 simp[Tryz.f227,vPart]
 refine .of (szStmt_ok x.fStmt left (by omega) (by omega) (fun n hn=>hs n (by simp[wPart,hn]))) ?_
 simp
 have hb0:=szL_le' (l:=wStmt x.fStmt) (left:=left) (by omega)
 have hc0:=szL_neg (wStmt x.fStmt) left (by omega)
 refine ⟨fun hn=> ?_,fun hk0=> ?_⟩
 ·have e:szL (wPart x) left= -1:=by rw[wPart,szL_app _ _ _ h0,if_pos (by omega)]
  rw[e]
  try omega
 have hq0: ¬(szL (wStmt x.fStmt) left)<0:=by omega
 have hz0:0≤(szL (wStmt x.fStmt) left):=by omega
 refine .of (szStrS_ok x.fCols (szL (wStmt x.fStmt) left) (by omega) (by omega) (fun n hn=>hs n (by simp[wPart,hn]))) ?_
 simp
 have hb1:=szL_le' (l:=wStrS x.fCols) (left:=(szL (wStmt x.fStmt) left)) (by omega)
 have hc1:=szL_neg (wStrS x.fCols) (szL (wStmt x.fStmt) left) (by omega)
 refine ⟨fun hn=> ?_,fun hk1=> ?_⟩
 ·have e:szL (wPart x) left= -1:=by rw[wPart,szL_app _ _ _ h0,if_neg hq0,szL_app _ _ _ hz0,if_pos (by omega)]
  rw[e]
  try omega
 have hq1: ¬(szL (wStrS x.fCols) (szL (wStmt x.fStmt) left))<0:=by omega
 have hz1:0≤(szL (wStrS x.fCols) (szL (wStmt x.fStmt) left)):=by omega
 refine .of (szStrS_ok x.fKeys (szL (wStrS x.fCols) (szL (wStmt x.fStmt) left)) (by omega) (by omega) (fun n hn=>hs n (by simp[wPart,hn]))) ?_
 simp
 have hb2:=szL_le' (l:=wStrS x.fKeys) (left:=(szL (wStrS x.fCols) (szL (wStmt x.fStmt) left))) (by omega)
 have hc2:=szL_neg (wStrS x.fKeys) (szL (wStrS x.fCols) (szL (wStmt x.fStmt) left)) (by omega)
 by_cases hn:(szL (wStrS x.fKeys) (szL (wStrS x.fCols) (szL (wStmt x.fStmt) left)))<0
 ·have e:szL (wPart x) left= -1:=by rw[wPart,szL_app _ _ _ h0,if_neg hq0,szL_app _ _ _ hz0,if_neg hq1,szL_app _ _ _ hz1,if_pos hn]
  rw[e]
  try omega
 ·have e:szL (wPart x) left=(szL (wStrS x.fKeys) (szL (wStrS x.fCols) (szL (wStmt x.fStmt) left))):=by rw[wPart,szL_app _ _ _ h0,if_neg hq0,szL_app _ _ _ hz0,if_neg hq1,szL_app _ _ _ hz1,if_neg hn];rfl
  rw[e]
  try omega
theorem toPart_ok (x:GPart) (hs: ∀n∈wPart x,n≤1048576):VC Tryz.prog 233 [vPart x] [(true,mPart x)]:=by
 refine vc_of_ew good hm [0,1,2,3] Tryz.func233 rfl (by kernel_rfl) (by kernel_rfl) rfl ?_
 simp[Tryz.f233,vPart,mPart]
 refine .of (toStmt_ok x.fStmt (fun n hn=>hs n (by simp[wPart,hn]))) ?_
 simp[mStmt]
 refine .of (toStrS_ok x.fCols (fun n hn=>hs n (by simp[wPart,hn]))) ?_
 simp[mStrS]
 refine .of (toStrS_ok x.fKeys (fun n hn=>hs n (by simp[wPart,hn]))) ?_
 simp[mStrS]
theorem eqPart_ok (x:GPart) (hs: ∀n∈wPart x,n≤1048576):VC Tryz.prog 97 [vPart x,vPart x] [(false,[(.s,.sc (.bool true))])]:=by
 refine vc_of_ew good hm [0,1,2,3,4,10,16,22] Tryz.func97 rfl (by kernel_rfl) (by kernel_rfl) rfl ?_
 simp[Tryz.f97,vPart]
 refine .of (eqStmt_ok x.fStmt (fun n hn=>hs n (by simp[wPart,hn]))) ?_
 simp
 refine .of (eqStrS_ok x.fCols (fun n hn=>hs n (by simp[wPart,hn]))) ?_
 simp
 refine .of (eqStrS_ok x.fKeys (fun n hn=>hs n (by simp[wPart,hn]))) ?_
 simp
def vPartS (l:List GPart):SV:=list [.sc (.int .i64 0),.sc (.string ⟨#[]⟩),.ls [.sc (.int .i64 0),.sc (.int .i64 0),.sc (.string ⟨#[]⟩)] [],.ls [.sc (.int .i64 0),.sc (.int .i64 0),.sc (.string ⟨#[]⟩)] [],.sc (.int .i64 0),.sc (.string ⟨#[]⟩),.ls [.sc (.string ⟨#[]⟩),.sc (.int .i64 0),.sc (.bool false),.sc (.bool false),.sc (.int .i64 0),.sc (.int .i64 0),.sc (.string ⟨#[]⟩)] [],.ls [.sc (.string ⟨#[]⟩)] [],.sc (.string ⟨#[]⟩),.sc (.string ⟨#[]⟩),.ls [.sc (.string ⟨#[]⟩)] [],.ls [.sc (.string ⟨#[]⟩)] []] (l.map ePart)
def wPartS (l:List GPart):List Nat:=l.length::l.flatMap wPart
def okPartS (l:List GPart):Prop:=okM l.length∧ ∀a∈l,okPart a
theorem okw_PartS (l:List GPart) (h:okPartS l): ∀n∈wPartS l,okM n:=by
 intro n hn
 rcases List.mem_cons.1 hn with rfl|hn
 ·exact h.1
 ·obtain ⟨a,ha,hn⟩:=List.mem_flatMap.1 hn
  exact okw_Part a (h.2 a ha) n hn
def mPartS (x:List GPart):ML:= [(.o 150 (fun _=> [.s,.s,.o 234 (fun _=> [.s,.s,.s]),.o 234 (fun _=> [.s,.s,.s]),.s,.s,.o 236 (fun _=> [.s,.s,.s,.s,.s,.s,.s]),.o 9 (fun _=> [.s]),.s,.s,.o 9 (fun _=> [.s]),.o 9 (fun _=> [.s])]),.ls [.sc (.int .i64 0),.sc (.string ⟨#[]⟩),.ls [.sc (.int .i64 0),.sc (.int .i64 0),.sc (.string ⟨#[]⟩)] [],.ls [.sc (.int .i64 0),.sc (.int .i64 0),.sc (.string ⟨#[]⟩)] [],.sc (.int .i64 0),.sc (.string ⟨#[]⟩),.ls [.sc (.string ⟨#[]⟩),.sc (.int .i64 0),.sc (.bool false),.sc (.bool false),.sc (.int .i64 0),.sc (.int .i64 0),.sc (.string ⟨#[]⟩)] [],.ls [.sc (.string ⟨#[]⟩)] [],.sc (.string ⟨#[]⟩),.sc (.string ⟨#[]⟩),.ls [.sc (.string ⟨#[]⟩)] [],.ls [.sc (.string ⟨#[]⟩)] []] (x.map ePart))]
@[simp] theorem ow_PartS (l:List GPart):Ow (.o 150 (fun _=> [.s,.s,.o 234 (fun _=> [.s,.s,.s]),.o 234 (fun _=> [.s,.s,.s]),.s,.s,.o 236 (fun _=> [.s,.s,.s,.s,.s,.s,.s]),.o 9 (fun _=> [.s]),.s,.s,.o 9 (fun _=> [.s]),.o 9 (fun _=> [.s])])) (.ls [.sc (.int .i64 0),.sc (.string ⟨#[]⟩),.ls [.sc (.int .i64 0),.sc (.int .i64 0),.sc (.string ⟨#[]⟩)] [],.ls [.sc (.int .i64 0),.sc (.int .i64 0),.sc (.string ⟨#[]⟩)] [],.sc (.int .i64 0),.sc (.string ⟨#[]⟩),.ls [.sc (.string ⟨#[]⟩),.sc (.int .i64 0),.sc (.bool false),.sc (.bool false),.sc (.int .i64 0),.sc (.int .i64 0),.sc (.string ⟨#[]⟩)] [],.ls [.sc (.string ⟨#[]⟩)] [],.sc (.string ⟨#[]⟩),.sc (.string ⟨#[]⟩),.ls [.sc (.string ⟨#[]⟩)] [],.ls [.sc (.string ⟨#[]⟩)] []] (l.map ePart))=True:=eq_true (Ow_rows (fun x j hj=>match j,hj with|0,_=> .sc|1,_=> .sc|2,_=>of_eq_true (ow_ValS x.fStmt.fKey)|3,_=>of_eq_true (ow_ValS x.fStmt.fRow.fVals)|4,_=> .sc|5,_=> .sc|6,_=>of_eq_true (ow_ColS x.fStmt.fDdl.fCols)|7,_=>of_eq_true (ow_StrS x.fStmt.fDdl.fKeys)|8,_=> .sc|9,_=> .sc|10,_=>of_eq_true (ow_StrS x.fCols)|11,_=>of_eq_true (ow_StrS x.fKeys)|n+12,hj=>absurd hj (by simp)) l)
@[simp] theorem full_PartS (l:List GPart):Full (.o 150 (fun _=> [.s,.s,.o 234 (fun _=> [.s,.s,.s]),.o 234 (fun _=> [.s,.s,.s]),.s,.s,.o 236 (fun _=> [.s,.s,.s,.s,.s,.s,.s]),.o 9 (fun _=> [.s]),.s,.s,.o 9 (fun _=> [.s]),.o 9 (fun _=> [.s])])) (.ls [.sc (.int .i64 0),.sc (.string ⟨#[]⟩),.ls [.sc (.int .i64 0),.sc (.int .i64 0),.sc (.string ⟨#[]⟩)] [],.ls [.sc (.int .i64 0),.sc (.int .i64 0),.sc (.string ⟨#[]⟩)] [],.sc (.int .i64 0),.sc (.string ⟨#[]⟩),.ls [.sc (.string ⟨#[]⟩),.sc (.int .i64 0),.sc (.bool false),.sc (.bool false),.sc (.int .i64 0),.sc (.int .i64 0),.sc (.string ⟨#[]⟩)] [],.ls [.sc (.string ⟨#[]⟩)] [],.sc (.string ⟨#[]⟩),.sc (.string ⟨#[]⟩),.ls [.sc (.string ⟨#[]⟩)] [],.ls [.sc (.string ⟨#[]⟩)] []] (l.map ePart))=True:=eq_true (Full_rows (fun x j hj=>match j,hj with|0,_=> .s|1,_=> .s|2,_=>of_eq_true (full_ValS x.fStmt.fKey)|3,_=>of_eq_true (full_ValS x.fStmt.fRow.fVals)|4,_=> .s|5,_=> .s|6,_=>of_eq_true (full_ColS x.fStmt.fDdl.fCols)|7,_=>of_eq_true (full_StrS x.fStmt.fDdl.fKeys)|8,_=> .s|9,_=> .s|10,_=>of_eq_true (full_StrS x.fCols)|11,_=>of_eq_true (full_StrS x.fKeys)|n+12,hj=>absurd hj (by simp)) l)
theorem szPartS_ok (x:List GPart) (left:Int) (h0:0≤left) (h1:left≤1048576) (hs: ∀n∈wPartS x,okM n):VC Tryz.prog 120 [vPartS x,int .i64 left] [(false,[(.s,.sc (.int .i64 (szL (wPartS x) left)))])]:=by
 refine vc_of_ew good hm [0,1,4,11,5,15,25] Tryz.func120 rfl (by kernel_rfl) (by kernel_rfl) rfl ?_
 have hl:x.length≤9223372036854775807:=hs _ (by simp[wPartS])
 simp[Tryz.f120,vPartS]
 rw[wrapI (i:=left-x.length) (by omega) (by omega)]
 refine ⟨fun h=>by simp[wPartS,szL,h],fun hk=> ?_⟩
 refine ew_loop (fun E=> ∃i:Nat,i≤x.length∧0≤szL ((x.take i).flatMap wPart) (left-x.length)∧E= {nt:=27,sl:= [(0,vPartS x),(1,int .i64 (szL ((x.take i).flatMap wPart) (left-x.length))),(5,int .i64 i)],bx:= [],rt:= []}) (fun E=>x.length- (E.num 5).toNat) _ (Gh.keep _ [0,1,5]) ⟨0,by omega,by simp[szL];omega,by simp[szL,vPartS]⟩ ?_
 rintro E1 ⟨i,hi,hr0,rfl⟩
 have hr1:=szL_le' (l:=(x.take i).flatMap wPart) (left:=left-x.length) (by omega)
 simp[vPartS,ePart]
 refine ⟨fun h=> ?_,fun h=> ?_⟩
 ·obtain ⟨q1,q2⟩:=szF_step wPart (dPart) h (by omega:0≤left-x.length) hr0
  have hm: ∀n∈wPart (x[i]?.getD (dPart)),okM n:=fun n hn=>hs n (List.mem_cons_of_mem _ (mem_flat h hn))
  have hn1:=szL_neg (wPart (x[i]?.getD (dPart))) _ hr0
  refine ⟨h,.of (szPart_ok _ _ hr0 (by omega) hm) ?_⟩
  simp
  refine ⟨fun h2=> ?_,fun h2=> .of _ (Gh.keep _ [0,1,5]) ⟨i+1,by omega, ?_, ?_⟩ ?_⟩
  ·rw[wPartS,szL,if_neg (by omega),q1 h2]
  ·rw[q2];exact h2
  ·rw[q2];simp[wrapS (show i<9223372036854775807 by omega)]
  ·simp[wrapS (show i<9223372036854775807 by omega)];omega
 ·rw[wPartS,szL,if_neg (by omega),List.take_of_length_le (by simpa using h)]
theorem toPartS_ok (x:List GPart) (hs: ∀n∈wPartS x,n≤1048576):VC Tryz.prog 126 [vPartS x] [(false,mPartS x)]:=by
 refine vc_of_ew good hm [0,2,3,4,11] Tryz.func126 rfl (by kernel_rfl) (by kernel_rfl) rfl ?_
 have hl:x.length≤1048576:=hs _ (by simp[wPartS])
 simp[Tryz.f126,vPartS,mPartS]
 refine ⟨by omega, ?_⟩
 refine ew_loop (fun E=> ∃i:Nat,i≤x.length∧E= {nt:=23,sl:= [(0,vPartS x),(3,.v false [.r [7]]),(4,int .i64 i)],bx:= [],rt:= [(7,.o 150 (fun _=> [.s,.s,.o 234 (fun _=> [.s,.s,.s]),.o 234 (fun _=> [.s,.s,.s]),.s,.s,.o 236 (fun _=> [.s,.s,.s,.s,.s,.s,.s]),.o 9 (fun _=> [.s]),.s,.s,.o 9 (fun _=> [.s]),.o 9 (fun _=> [.s])]),.ls [.sc (.int .i64 0),.sc (.string ⟨#[]⟩),.ls [.sc (.int .i64 0),.sc (.int .i64 0),.sc (.string ⟨#[]⟩)] [],.ls [.sc (.int .i64 0),.sc (.int .i64 0),.sc (.string ⟨#[]⟩)] [],.sc (.int .i64 0),.sc (.string ⟨#[]⟩),.ls [.sc (.string ⟨#[]⟩),.sc (.int .i64 0),.sc (.bool false),.sc (.bool false),.sc (.int .i64 0),.sc (.int .i64 0),.sc (.string ⟨#[]⟩)] [],.ls [.sc (.string ⟨#[]⟩)] [],.sc (.string ⟨#[]⟩),.sc (.string ⟨#[]⟩),.ls [.sc (.string ⟨#[]⟩)] [],.ls [.sc (.string ⟨#[]⟩)] []] (fillR [.sc (.int .i64 0),.sc (.string ⟨#[]⟩),.ls [.sc (.int .i64 0),.sc (.int .i64 0),.sc (.string ⟨#[]⟩)] [],.ls [.sc (.int .i64 0),.sc (.int .i64 0),.sc (.string ⟨#[]⟩)] [],.sc (.int .i64 0),.sc (.string ⟨#[]⟩),.ls [.sc (.string ⟨#[]⟩),.sc (.int .i64 0),.sc (.bool false),.sc (.bool false),.sc (.int .i64 0),.sc (.int .i64 0),.sc (.string ⟨#[]⟩)] [],.ls [.sc (.string ⟨#[]⟩)] [],.sc (.string ⟨#[]⟩),.sc (.string ⟨#[]⟩),.ls [.sc (.string ⟨#[]⟩)] [],.ls [.sc (.string ⟨#[]⟩)] []] (x.map ePart) i))]}) (fun E=>x.length- (E.num 4).toNat) _ (Gh.keep _ [0,3,4]) ⟨0,by omega,by simp[vPartS,fillR]⟩ ?_
 rintro E1 ⟨i,hi,rfl⟩
 have hfl:(fillR [.sc (.int .i64 0),.sc (.string ⟨#[]⟩),.ls [.sc (.int .i64 0),.sc (.int .i64 0),.sc (.string ⟨#[]⟩)] [],.ls [.sc (.int .i64 0),.sc (.int .i64 0),.sc (.string ⟨#[]⟩)] [],.sc (.int .i64 0),.sc (.string ⟨#[]⟩),.ls [.sc (.string ⟨#[]⟩),.sc (.int .i64 0),.sc (.bool false),.sc (.bool false),.sc (.int .i64 0),.sc (.int .i64 0),.sc (.string ⟨#[]⟩)] [],.ls [.sc (.string ⟨#[]⟩)] [],.sc (.string ⟨#[]⟩),.sc (.string ⟨#[]⟩),.ls [.sc (.string ⟨#[]⟩)] [],.ls [.sc (.string ⟨#[]⟩)] []] (x.map ePart) i).length=x.length:=by rw[fillR_len _ _ (by simpa using hi)];simp
 simp[vPartS,ePart] at hfl⊢
 try simp[hfl]
 refine ⟨fun h=>⟨h,.of (toPart_ok (x[i]?.getD dPart) (fun n hn=>hs n (List.mem_cons_of_mem _ (mem_flat (wt:=wPart) h hn)))) ?_⟩,fun h=>fillR_all _ _ (by simpa using h)⟩
 simp[mPart]
 try simp[hfl,h]
 refine .of _ (Gh.keep _ [0,3,4]) ⟨i+1,by omega, ?_⟩ ?_
 ·have:=fillR_set [.sc (.int .i64 0),.sc (.string ⟨#[]⟩),.ls [.sc (.int .i64 0),.sc (.int .i64 0),.sc (.string ⟨#[]⟩)] [],.ls [.sc (.int .i64 0),.sc (.int .i64 0),.sc (.string ⟨#[]⟩)] [],.sc (.int .i64 0),.sc (.string ⟨#[]⟩),.ls [.sc (.string ⟨#[]⟩),.sc (.int .i64 0),.sc (.bool false),.sc (.bool false),.sc (.int .i64 0),.sc (.int .i64 0),.sc (.string ⟨#[]⟩)] [],.ls [.sc (.string ⟨#[]⟩)] [],.sc (.string ⟨#[]⟩),.sc (.string ⟨#[]⟩),.ls [.sc (.string ⟨#[]⟩)] [],.ls [.sc (.string ⟨#[]⟩)] []] (x.map ePart) (i:=i) (by simpa using h)
  simp[wrapS (show i<9223372036854775807 by omega),vPartS,ePart,h] at this⊢
  rw[←this]
 ·simp[wrapS (show i<9223372036854775807 by omega)];omega
theorem eqPartS_ok (x:List GPart) (hs: ∀n∈wPartS x,n≤1048576):VC Tryz.prog 20 [vPartS x,vPartS x] [(false,[(.s,.sc (.bool true))])]:=by
 refine vc_of_ew good hm [0,1,4,10,5,14,26] Tryz.func20 rfl (by kernel_rfl) (by kernel_rfl) rfl ?_
 have hl:x.length≤1048576:=hs _ (by simp[wPartS])
 simp[Tryz.f20,vPartS]
 refine ew_loop (fun E=> ∃i:Nat,i≤x.length∧E= {nt:=27,sl:= [(0,vPartS x),(1,vPartS x),(5,int .i64 i)],bx:= [],rt:= []}) (fun E=>x.length- (E.num 5).toNat) _ (Gh.keep _ [0,1,5]) ⟨0,by omega,by simp[vPartS]⟩ ?_
 rintro E1 ⟨i,hi,rfl⟩
 simp[vPartS,ePart]
 intro h
 refine ⟨h,.of (eqPart_ok (x[i]?.getD dPart) (fun n hn=>hs n (List.mem_cons_of_mem _ (mem_flat (wt:=wPart) h hn)))) ?_⟩
 simp
 refine .of _ (Gh.keep _ [0,1,5]) ⟨i+1,by omega, ?_⟩ ?_
 ·simp[wrapS (show i<9223372036854775807 by omega),vPartS]
 ·simp[wrapS (show i<9223372036854775807 by omega)];omega
def ctPart (x:GPart):Nat:=6+ctValS x.fStmt.fKey+ctValS x.fStmt.fRow.fVals+ctColS x.fStmt.fDdl.fCols+ctStrS x.fStmt.fDdl.fKeys+ctStrS x.fCols+ctStrS x.fKeys
def mkPart (k:Nat) (x:GPart):GPart:=⟨⟨mkInt (k) x.fStmt.fKind,mkStr (k+1) x.fStmt.fTable,mkValS (k+2) x.fStmt.fKey,⟨mkValS (k+2+ctValS x.fStmt.fKey) x.fStmt.fRow.fVals⟩,⟨mkInt (k+2+ctValS x.fStmt.fKey+ctValS x.fStmt.fRow.fVals) x.fStmt.fDdl.fKind,mkStr (k+3+ctValS x.fStmt.fKey+ctValS x.fStmt.fRow.fVals) x.fStmt.fDdl.fTable,mkColS (k+4+ctValS x.fStmt.fKey+ctValS x.fStmt.fRow.fVals) x.fStmt.fDdl.fCols,mkStrS (k+4+ctValS x.fStmt.fKey+ctValS x.fStmt.fRow.fVals+ctColS x.fStmt.fDdl.fCols) x.fStmt.fDdl.fKeys,mkStr (k+4+ctValS x.fStmt.fKey+ctValS x.fStmt.fRow.fVals+ctColS x.fStmt.fDdl.fCols+ctStrS x.fStmt.fDdl.fKeys) x.fStmt.fDdl.fName,mkStr (k+5+ctValS x.fStmt.fKey+ctValS x.fStmt.fRow.fVals+ctColS x.fStmt.fDdl.fCols+ctStrS x.fStmt.fDdl.fKeys) x.fStmt.fDdl.fTo⟩⟩,mkStrS (k+6+ctValS x.fStmt.fKey+ctValS x.fStmt.fRow.fVals+ctColS x.fStmt.fDdl.fCols+ctStrS x.fStmt.fDdl.fKeys) x.fCols,mkStrS (k+6+ctValS x.fStmt.fKey+ctValS x.fStmt.fRow.fVals+ctColS x.fStmt.fDdl.fCols+ctStrS x.fStmt.fDdl.fKeys+ctStrS x.fCols) x.fKeys⟩
theorem ctle_Part (x:GPart):ctPart x≤64+64* (wPart x).sum:=by
 have:=ctle_ValS x.fStmt.fKey
 have:=ctle_ValS x.fStmt.fRow.fVals
 have:=ctle_ColS x.fStmt.fDdl.fCols
 have:=ctle_StrS x.fStmt.fDdl.fKeys
 have:=ctle_StrS x.fCols
 have:=ctle_StrS x.fKeys
 simp only[ctPart,wPart,wStmt,wRow,wDdl,List.sum_cons,List.sum_append,List.sum_nil]
 omega
def ctPartS (l:List GPart):Nat:=ctRw ctPart l
def mkPartS (k:Nat) (l:List GPart):List GPart:=mkRw mkPart ctPart k l
theorem ctle_PartS (l:List GPart):ctPartS l≤64* (wPartS l).sum:=by
 have:=ctRw_le64 ctPart wPart l (fun x _=>ctle_Part x)
 simp only[wPartS,List.sum_cons]
 exact this
theorem markPartS_ok (x:List GPart) (k:Nat) (k':Int) (hkk':k'=(k:Int)) (hk:k+ctPartS x≤4611686018427387904) (hs: ∀n∈wPartS x,n≤4611686018427387904):VM Tryz.prog 25 [.v false [.r [900]],int .i64 k'] [(.o 150 (fun _=> [.s,.s,.o 234 (fun _=> [.s,.s,.s]),.o 234 (fun _=> [.s,.s,.s]),.s,.s,.o 236 (fun _=> [.s,.s,.s,.s,.s,.s,.s]),.o 9 (fun _=> [.s]),.s,.s,.o 9 (fun _=> [.s]),.o 9 (fun _=> [.s])]),.ls [.sc (.int .i64 0),.sc (.string ⟨#[]⟩),.ls [.sc (.int .i64 0),.sc (.int .i64 0),.sc (.string ⟨#[]⟩)] [],.ls [.sc (.int .i64 0),.sc (.int .i64 0),.sc (.string ⟨#[]⟩)] [],.sc (.int .i64 0),.sc (.string ⟨#[]⟩),.ls [.sc (.string ⟨#[]⟩),.sc (.int .i64 0),.sc (.bool false),.sc (.bool false),.sc (.int .i64 0),.sc (.int .i64 0),.sc (.string ⟨#[]⟩)] [],.ls [.sc (.string ⟨#[]⟩)] [],.sc (.string ⟨#[]⟩),.sc (.string ⟨#[]⟩),.ls [.sc (.string ⟨#[]⟩)] [],.ls [.sc (.string ⟨#[]⟩)] []] (x.map ePart),.ls [.sc (.int .i64 0),.sc (.string ⟨#[]⟩),.ls [.sc (.int .i64 0),.sc (.int .i64 0),.sc (.string ⟨#[]⟩)] [],.ls [.sc (.int .i64 0),.sc (.int .i64 0),.sc (.string ⟨#[]⟩)] [],.sc (.int .i64 0),.sc (.string ⟨#[]⟩),.ls [.sc (.string ⟨#[]⟩),.sc (.int .i64 0),.sc (.bool false),.sc (.bool false),.sc (.int .i64 0),.sc (.int .i64 0),.sc (.string ⟨#[]⟩)] [],.ls [.sc (.string ⟨#[]⟩)] [],.sc (.string ⟨#[]⟩),.sc (.string ⟨#[]⟩),.ls [.sc (.string ⟨#[]⟩)] [],.ls [.sc (.string ⟨#[]⟩)] []] ((mkPartS k x).map ePart))] (some ((k:Int)+(ctPartS x:Int))):=by
 subst hkk'
 have hl:x.length≤4611686018427387904:=hs _ (by simp[wPartS])
 refine vm_of_ew good hm [0,1,4,5,9,5000] Tryz.func25 rfl (by kernel_rfl) (by kernel_rfl) rfl fun pv=> ?_
 simp[Tryz.f25]
 refine ew_loop (fun E=> ∃ (i K:Nat) (M:List (GPart)),i≤x.length∧K=k+ctRw ctPart (x.take i)∧M=mixR mkPart ctPart k x i∧E= {nt:=118,sl:= [(0,.v false [.r [900]]),(1,int .i64 (K:Int)),(5,int .i64 i),(5000,.pin 900 [] (pv 900))],bx:= [],rt:= [(900,.o 150 (fun _=> [.s,.s,.o 234 (fun _=> [.s,.s,.s]),.o 234 (fun _=> [.s,.s,.s]),.s,.s,.o 236 (fun _=> [.s,.s,.s,.s,.s,.s,.s]),.o 9 (fun _=> [.s]),.s,.s,.o 9 (fun _=> [.s]),.o 9 (fun _=> [.s])]),.ls [.sc (.int .i64 0),.sc (.string ⟨#[]⟩),.ls [.sc (.int .i64 0),.sc (.int .i64 0),.sc (.string ⟨#[]⟩)] [],.ls [.sc (.int .i64 0),.sc (.int .i64 0),.sc (.string ⟨#[]⟩)] [],.sc (.int .i64 0),.sc (.string ⟨#[]⟩),.ls [.sc (.string ⟨#[]⟩),.sc (.int .i64 0),.sc (.bool false),.sc (.bool false),.sc (.int .i64 0),.sc (.int .i64 0),.sc (.string ⟨#[]⟩)] [],.ls [.sc (.string ⟨#[]⟩)] [],.sc (.string ⟨#[]⟩),.sc (.string ⟨#[]⟩),.ls [.sc (.string ⟨#[]⟩)] [],.ls [.sc (.string ⟨#[]⟩)] []] (M.map ePart))]}) (fun E=>x.length- (E.num 5).toNat) _ (Gh.kb _ [0,1,5,5000] [] [900]) ⟨0,k,x,by omega,by simp[ctRw],by simp[mixR_zero],by simp⟩ ?_
 rintro E1 ⟨i,K,M,hi,hK,hM,rfl⟩
 have hfl:M.length=x.length:=by rw[hM];exact mixR_len mkPart ctPart k x i
 have hct:=ctRw_le ctPart x i
 simp only[ctPartS] at hk
 simp[hfl]
 refine ⟨fun h=> ?_,fun h=> ?_⟩
 ·have hg:M[i]? =x[i]? :=by rw[hM];exact mixR_get mkPart ctPart k x i h
  have hst:=mixR_set mkPart ctPart k x i (dPart) h
  have hc1:=ctRw_lt ctPart (dPart) h
  have hs1:ctRw ctPart (x.take (i+1))=ctRw ctPart (x.take i)+ctPart (x[i]?.getD (dPart)):=ctRw_succ ctPart (dPart) h
  have hxi:x[i]? =some (x[i]?.getD (dPart)):=by rw[List.getElem?_eq_getElem h];rfl
  have hy:(x[i]?.getD (dPart))∈x:=getD_mem _ h
  rw[hxi] at hg
  rw[←hK,←hM] at hst
  generalize (x[i]?.getD (dPart))=y at*
  have hg': ∀h',M[i]'h'=y:=fun h'=>by simpa [List.getElem?_eq_getElem h'] using hg
  have hse: ∀n∈wPart y,n≤4611686018427387904:=fun n hn=>hs n (List.mem_cons_of_mem _ (List.mem_flatMap.2 ⟨y,hy,hn⟩))
  simp only[ctPart] at hc1 hs1
  have w0:IntKind.i64.wrap ((K:Int)+1)=(K:Int)+1:=(wrapI (by omega) (by omega)).trans (by omega)
  simp[md,lf,hg',hg,h,hfl,ePart,w0]
  refine .of (markText_ok _ (K+1) (by omega) (by omega)) ?_
  have w1:IntKind.i64.wrap ((K:Int)+1+1)=(K:Int)+2:=(wrapI (by omega) (by omega)).trans (by omega)
  simp[md,lf,hg',hg,h,hfl,ePart,w0,w1]
  refine .mut (markValS_ok y.fStmt.fKey (K+2) ((K:Int)+2) (by omega) (by omega) (fun n hn=>hse n (by simp[wPart,wStmt,wRow,wDdl,hn]))) ?_
  simp[md,lf,hg',hg,h,hfl,ePart,w0,w1]
  refine .mut (markValS_ok y.fStmt.fRow.fVals (K+2+ctValS y.fStmt.fKey) ((K:Int)+2+(ctValS y.fStmt.fKey:Int)) (by omega) (by omega) (fun n hn=>hse n (by simp[wPart,wStmt,wRow,wDdl,hn]))) ?_
  have w2:IntKind.i64.wrap ((K:Int)+2+(ctValS y.fStmt.fKey:Int)+(ctValS y.fStmt.fRow.fVals:Int)+1)=(K:Int)+3+(ctValS y.fStmt.fKey:Int)+(ctValS y.fStmt.fRow.fVals:Int):=(wrapI (by omega) (by omega)).trans (by omega)
  simp[md,lf,hg',hg,h,hfl,ePart,w0,w1,w2]
  refine .of (markText_ok _ (K+3+ctValS y.fStmt.fKey+ctValS y.fStmt.fRow.fVals) (by omega) (by omega)) ?_
  have w3:IntKind.i64.wrap ((K:Int)+3+(ctValS y.fStmt.fKey:Int)+(ctValS y.fStmt.fRow.fVals:Int)+1)=(K:Int)+4+(ctValS y.fStmt.fKey:Int)+(ctValS y.fStmt.fRow.fVals:Int):=(wrapI (by omega) (by omega)).trans (by omega)
  simp[md,lf,hg',hg,h,hfl,ePart,w0,w1,w2,w3]
  refine .mut (markColS_ok y.fStmt.fDdl.fCols (K+4+ctValS y.fStmt.fKey+ctValS y.fStmt.fRow.fVals) ((K:Int)+4+(ctValS y.fStmt.fKey:Int)+(ctValS y.fStmt.fRow.fVals:Int)) (by omega) (by omega) (fun n hn=>hse n (by simp[wPart,wStmt,wRow,wDdl,hn]))) ?_
  simp[md,lf,hg',hg,h,hfl,ePart,w0,w1,w2,w3]
  refine .mut (markStrS_ok y.fStmt.fDdl.fKeys (K+4+ctValS y.fStmt.fKey+ctValS y.fStmt.fRow.fVals+ctColS y.fStmt.fDdl.fCols) ((K:Int)+4+(ctValS y.fStmt.fKey:Int)+(ctValS y.fStmt.fRow.fVals:Int)+(ctColS y.fStmt.fDdl.fCols:Int)) (by omega) (by omega) (fun n hn=>hse n (by simp[wPart,wStmt,wRow,wDdl,hn]))) ?_
  simp[md,lf,hg',hg,h,hfl,ePart,w0,w1,w2,w3]
  refine .of (markText_ok _ (K+4+ctValS y.fStmt.fKey+ctValS y.fStmt.fRow.fVals+ctColS y.fStmt.fDdl.fCols+ctStrS y.fStmt.fDdl.fKeys) (by omega) (by omega)) ?_
  have w4:IntKind.i64.wrap ((K:Int)+4+(ctValS y.fStmt.fKey:Int)+(ctValS y.fStmt.fRow.fVals:Int)+(ctColS y.fStmt.fDdl.fCols:Int)+(ctStrS y.fStmt.fDdl.fKeys:Int)+1)=(K:Int)+5+(ctValS y.fStmt.fKey:Int)+(ctValS y.fStmt.fRow.fVals:Int)+(ctColS y.fStmt.fDdl.fCols:Int)+(ctStrS y.fStmt.fDdl.fKeys:Int):=(wrapI (by omega) (by omega)).trans (by omega)
  simp[md,lf,hg',hg,h,hfl,ePart,w0,w1,w2,w3,w4]
  refine .of (markText_ok _ (K+5+ctValS y.fStmt.fKey+ctValS y.fStmt.fRow.fVals+ctColS y.fStmt.fDdl.fCols+ctStrS y.fStmt.fDdl.fKeys) (by omega) (by omega)) ?_
  have w5:IntKind.i64.wrap ((K:Int)+5+(ctValS y.fStmt.fKey:Int)+(ctValS y.fStmt.fRow.fVals:Int)+(ctColS y.fStmt.fDdl.fCols:Int)+(ctStrS y.fStmt.fDdl.fKeys:Int)+1)=(K:Int)+6+(ctValS y.fStmt.fKey:Int)+(ctValS y.fStmt.fRow.fVals:Int)+(ctColS y.fStmt.fDdl.fCols:Int)+(ctStrS y.fStmt.fDdl.fKeys:Int):=(wrapI (by omega) (by omega)).trans (by omega)
  simp[md,lf,hg',hg,h,hfl,ePart,w0,w1,w2,w3,w4,w5]
  refine .mut (markStrS_ok y.fCols (K+6+ctValS y.fStmt.fKey+ctValS y.fStmt.fRow.fVals+ctColS y.fStmt.fDdl.fCols+ctStrS y.fStmt.fDdl.fKeys) ((K:Int)+6+(ctValS y.fStmt.fKey:Int)+(ctValS y.fStmt.fRow.fVals:Int)+(ctColS y.fStmt.fDdl.fCols:Int)+(ctStrS y.fStmt.fDdl.fKeys:Int)) (by omega) (by omega) (fun n hn=>hse n (by simp[wPart,wStmt,wRow,wDdl,hn]))) ?_
  simp[md,lf,hg',hg,h,hfl,ePart,w0,w1,w2,w3,w4,w5]
  refine .mut (markStrS_ok y.fKeys (K+6+ctValS y.fStmt.fKey+ctValS y.fStmt.fRow.fVals+ctColS y.fStmt.fDdl.fCols+ctStrS y.fStmt.fDdl.fKeys+ctStrS y.fCols) ((K:Int)+6+(ctValS y.fStmt.fKey:Int)+(ctValS y.fStmt.fRow.fVals:Int)+(ctColS y.fStmt.fDdl.fCols:Int)+(ctStrS y.fStmt.fDdl.fKeys:Int)+(ctStrS y.fCols:Int)) (by omega) (by omega) (fun n hn=>hse n (by simp[wPart,wStmt,wRow,wDdl,hn]))) ?_
  simp[md,lf,hg',hg,h,hfl,ePart,w0,w1,w2,w3,w4,w5]
  have e1:(k:Int)+(ctRw ctPart (x.take (i+1)):Int)=(K:Int)+6+(ctValS y.fStmt.fKey:Int)+(ctValS y.fStmt.fRow.fVals:Int)+(ctColS y.fStmt.fDdl.fCols:Int)+(ctStrS y.fStmt.fDdl.fKeys:Int)+(ctStrS y.fCols:Int)+(ctStrS y.fKeys:Int):=by omega
  refine .of _ (Gh.kb _ [0,1,5,5000] [] [900]) ⟨i+1,by omega, ?_⟩ ?_
  ·simp[wrapS (show i<9223372036854775807 by omega),e1,←hst,List.map_set,mkPart,mkInt,mkStr,ePart,wrapU8]
  ·simp[wrapS (show i<9223372036854775807 by omega)];omega
 ·have:i=x.length:=by omega
  subst this
  subst hM
  subst hK
  simp[mixR_all,ctPartS,mkPartS]
structure GBatch where
 fLsn:Int
 fPrev:Int
 fParts:List GPart
def eBatch (x:GBatch):List Lf:= [.sc (.int .i64 x.fLsn),.sc (.int .i64 x.fPrev),.ls [.sc (.int .i64 0),.sc (.string ⟨#[]⟩),.ls [.sc (.int .i64 0),.sc (.int .i64 0),.sc (.string ⟨#[]⟩)] [],.ls [.sc (.int .i64 0),.sc (.int .i64 0),.sc (.string ⟨#[]⟩)] [],.sc (.int .i64 0),.sc (.string ⟨#[]⟩),.ls [.sc (.string ⟨#[]⟩),.sc (.int .i64 0),.sc (.bool false),.sc (.bool false),.sc (.int .i64 0),.sc (.int .i64 0),.sc (.string ⟨#[]⟩)] [],.ls [.sc (.string ⟨#[]⟩)] [],.sc (.string ⟨#[]⟩),.sc (.string ⟨#[]⟩),.ls [.sc (.string ⟨#[]⟩)] [],.ls [.sc (.string ⟨#[]⟩)] []] (x.fParts.map ePart)]
def cBatch (x:GBatch):List LV:= [.s (.sc (.int .i64 x.fLsn)),.s (.sc (.int .i64 x.fPrev)),.s (.ls [.sc (.int .i64 0),.sc (.string ⟨#[]⟩),.ls [.sc (.int .i64 0),.sc (.int .i64 0),.sc (.string ⟨#[]⟩)] [],.ls [.sc (.int .i64 0),.sc (.int .i64 0),.sc (.string ⟨#[]⟩)] [],.sc (.int .i64 0),.sc (.string ⟨#[]⟩),.ls [.sc (.string ⟨#[]⟩),.sc (.int .i64 0),.sc (.bool false),.sc (.bool false),.sc (.int .i64 0),.sc (.int .i64 0),.sc (.string ⟨#[]⟩)] [],.ls [.sc (.string ⟨#[]⟩)] [],.sc (.string ⟨#[]⟩),.sc (.string ⟨#[]⟩),.ls [.sc (.string ⟨#[]⟩)] [],.ls [.sc (.string ⟨#[]⟩)] []] (x.fParts.map ePart))]
def vBatch (x:GBatch):SV:= .v true [.s (.sc (.int .i64 x.fLsn)),.s (.sc (.int .i64 x.fPrev)),.s (.ls [.sc (.int .i64 0),.sc (.string ⟨#[]⟩),.ls [.sc (.int .i64 0),.sc (.int .i64 0),.sc (.string ⟨#[]⟩)] [],.ls [.sc (.int .i64 0),.sc (.int .i64 0),.sc (.string ⟨#[]⟩)] [],.sc (.int .i64 0),.sc (.string ⟨#[]⟩),.ls [.sc (.string ⟨#[]⟩),.sc (.int .i64 0),.sc (.bool false),.sc (.bool false),.sc (.int .i64 0),.sc (.int .i64 0),.sc (.string ⟨#[]⟩)] [],.ls [.sc (.string ⟨#[]⟩)] [],.sc (.string ⟨#[]⟩),.sc (.string ⟨#[]⟩),.ls [.sc (.string ⟨#[]⟩)] [],.ls [.sc (.string ⟨#[]⟩)] []] (x.fParts.map ePart))]
def dBatch:GBatch:=⟨0,0,[]⟩
@[simp] theorem row_Batch (l:List GBatch) (i:Nat):(Option.map eBatch l[i]?).getD [.sc (.int .i64 0),.sc (.int .i64 0),.ls [.sc (.int .i64 0),.sc (.string ⟨#[]⟩),.ls [.sc (.int .i64 0),.sc (.int .i64 0),.sc (.string ⟨#[]⟩)] [],.ls [.sc (.int .i64 0),.sc (.int .i64 0),.sc (.string ⟨#[]⟩)] [],.sc (.int .i64 0),.sc (.string ⟨#[]⟩),.ls [.sc (.string ⟨#[]⟩),.sc (.int .i64 0),.sc (.bool false),.sc (.bool false),.sc (.int .i64 0),.sc (.int .i64 0),.sc (.string ⟨#[]⟩)] [],.ls [.sc (.string ⟨#[]⟩)] [],.sc (.string ⟨#[]⟩),.sc (.string ⟨#[]⟩),.ls [.sc (.string ⟨#[]⟩)] [],.ls [.sc (.string ⟨#[]⟩)] []] []]=eBatch (l[i]?.getD dBatch):=by cases l[i]? <;>rfl
def wBatch (x:GBatch):List Nat:=wPartS x.fParts++([])
def okBatch (x:GBatch):Prop:=okI x.fLsn∧okI x.fPrev∧okPartS x.fParts∧True
theorem okw_Batch (x:GBatch) (h:okBatch x): ∀n∈wBatch x,okM n:=by
 obtain ⟨h0,h1,h2,_⟩:=h
 intro n hn
 simp only[wBatch,List.mem_cons,List.mem_append,List.not_mem_nil,or_false,false_or] at hn
 rcases hn with hn
 ·exact okw_PartS _ h2 n hn
theorem fit_Batch (ls:List Lf) (h:Fit ti ck 70 ls): ∃x:GBatch,ls=eBatch x∧okBatch x:=by
 obtain ⟨c0,r0,rfl,h0,g0⟩:=All2.cons_inv h
 obtain ⟨a0,rfl,b0⟩:=h0.int_inv
 obtain ⟨c1,r1,rfl,h1,g1⟩:=All2.cons_inv g0
 obtain ⟨a1,rfl,b1⟩:=h1.int_inv
 obtain ⟨c2,r2,rfl,h2,g2⟩:=All2.cons_inv g1
 obtain ⟨a2,rfl,b2,b2'⟩:=h2.list ePart okPart fit_Part
 obtain rfl:=All2.nil_inv g2
 exact ⟨⟨a0,a1,a2⟩,rfl,⟨okI_wf b0,okI_wf b1,⟨b2,b2'⟩,trivial⟩⟩
def mBatch (x:GBatch):ML:= [(.s,.sc (.int .i64 x.fLsn)),(.s,.sc (.int .i64 x.fPrev)),(.o 150 (fun _=> [.s,.s,.o 234 (fun _=> [.s,.s,.s]),.o 234 (fun _=> [.s,.s,.s]),.s,.s,.o 236 (fun _=> [.s,.s,.s,.s,.s,.s,.s]),.o 9 (fun _=> [.s]),.s,.s,.o 9 (fun _=> [.s]),.o 9 (fun _=> [.s])]),.ls [.sc (.int .i64 0),.sc (.string ⟨#[]⟩),.ls [.sc (.int .i64 0),.sc (.int .i64 0),.sc (.string ⟨#[]⟩)] [],.ls [.sc (.int .i64 0),.sc (.int .i64 0),.sc (.string ⟨#[]⟩)] [],.sc (.int .i64 0),.sc (.string ⟨#[]⟩),.ls [.sc (.string ⟨#[]⟩),.sc (.int .i64 0),.sc (.bool false),.sc (.bool false),.sc (.int .i64 0),.sc (.int .i64 0),.sc (.string ⟨#[]⟩)] [],.ls [.sc (.string ⟨#[]⟩)] [],.sc (.string ⟨#[]⟩),.sc (.string ⟨#[]⟩),.ls [.sc (.string ⟨#[]⟩)] [],.ls [.sc (.string ⟨#[]⟩)] []] (x.fParts.map ePart))]
theorem szBatch_ok (x:GBatch) (left:Int) (h0:0≤left) (h1:left≤1048576) (hs: ∀n∈wBatch x,okM n):VC Tryz.prog 43 [vBatch x,int .i64 left] [(false,[(.s,.sc (.int .i64 (szL (wBatch x) left)))])]:=by
 refine vc_of_ew good hm [0,1,2,4,10] Tryz.func43 rfl (by kernel_rfl) (by kernel_rfl) rfl ?_
 simp[Tryz.f43,vBatch]
 refine .of (szPartS_ok x.fParts left (by omega) (by omega) (fun n hn=>hs n (by simp[wBatch,hn]))) ?_
 simp
 have hb0:=szL_le' (l:=wPartS x.fParts) (left:=left) (by omega)
 have hc0:=szL_neg (wPartS x.fParts) left (by omega)
 by_cases hn:(szL (wPartS x.fParts) left)<0
 ·have e:szL (wBatch x) left= -1:=by rw[wBatch,szL_app _ _ _ h0,if_pos hn]
  rw[e]
  try omega
 ·have e:szL (wBatch x) left=(szL (wPartS x.fParts) left):=by rw[wBatch,szL_app _ _ _ h0,if_neg hn];rfl
  rw[e]
  try omega
theorem toBatch_ok (x:GBatch) (hs: ∀n∈wBatch x,n≤1048576):VC Tryz.prog 45 [vBatch x] [(true,mBatch x)]:=by
 refine vc_of_ew good hm [0,1,2,3] Tryz.func45 rfl (by kernel_rfl) (by kernel_rfl) rfl ?_
 simp[Tryz.f45,vBatch,mBatch]
 refine .of (toPartS_ok x.fParts (fun n hn=>hs n (by simp[wBatch,hn]))) ?_
 simp[mPartS]
theorem eqBatch_ok (x:GBatch) (hs: ∀n∈wBatch x,n≤1048576):VC Tryz.prog 38 [vBatch x,vBatch x] [(false,[(.s,.sc (.bool true))])]:=by
 refine vc_of_ew good hm [0,1,2,3,4,9,14,20] Tryz.func38 rfl (by kernel_rfl) (by kernel_rfl) rfl ?_
 simp[Tryz.f38,vBatch]
 refine .of (eqPartS_ok x.fParts (fun n hn=>hs n (by simp[wBatch,hn]))) ?_
 simp
def cvBatch (x:GBatch):Nat:=ctPartS x.fParts
def mvBatch (k:Nat) (x:GBatch):GBatch:= {x with fParts:=mkPartS (k) x.fParts}
theorem cvle_Batch (x:GBatch):cvBatch x≤64* (wBatch x).sum:=by
 have:=ctle_PartS x.fParts
 simp only[cvBatch,wBatch,List.sum_cons,List.sum_append,List.sum_nil]
 omega
theorem markVBatch_ok (x:GBatch) (k:Nat) (k':Int) (hkk':k'=(k:Int)) (hk:k+cvBatch x≤4611686018427387904) (hs: ∀n∈wBatch x,n≤4611686018427387904):VM Tryz.prog 39 [.v true [.s (.sc (.int .i64 x.fLsn)),.s (.sc (.int .i64 x.fPrev)),.r [900]],int .i64 k'] [(.o 150 (fun _=> [.s,.s,.o 234 (fun _=> [.s,.s,.s]),.o 234 (fun _=> [.s,.s,.s]),.s,.s,.o 236 (fun _=> [.s,.s,.s,.s,.s,.s,.s]),.o 9 (fun _=> [.s]),.s,.s,.o 9 (fun _=> [.s]),.o 9 (fun _=> [.s])]),.ls [.sc (.int .i64 0),.sc (.string ⟨#[]⟩),.ls [.sc (.int .i64 0),.sc (.int .i64 0),.sc (.string ⟨#[]⟩)] [],.ls [.sc (.int .i64 0),.sc (.int .i64 0),.sc (.string ⟨#[]⟩)] [],.sc (.int .i64 0),.sc (.string ⟨#[]⟩),.ls [.sc (.string ⟨#[]⟩),.sc (.int .i64 0),.sc (.bool false),.sc (.bool false),.sc (.int .i64 0),.sc (.int .i64 0),.sc (.string ⟨#[]⟩)] [],.ls [.sc (.string ⟨#[]⟩)] [],.sc (.string ⟨#[]⟩),.sc (.string ⟨#[]⟩),.ls [.sc (.string ⟨#[]⟩)] [],.ls [.sc (.string ⟨#[]⟩)] []] (x.fParts.map ePart),.ls [.sc (.int .i64 0),.sc (.string ⟨#[]⟩),.ls [.sc (.int .i64 0),.sc (.int .i64 0),.sc (.string ⟨#[]⟩)] [],.ls [.sc (.int .i64 0),.sc (.int .i64 0),.sc (.string ⟨#[]⟩)] [],.sc (.int .i64 0),.sc (.string ⟨#[]⟩),.ls [.sc (.string ⟨#[]⟩),.sc (.int .i64 0),.sc (.bool false),.sc (.bool false),.sc (.int .i64 0),.sc (.int .i64 0),.sc (.string ⟨#[]⟩)] [],.ls [.sc (.string ⟨#[]⟩)] [],.sc (.string ⟨#[]⟩),.sc (.string ⟨#[]⟩),.ls [.sc (.string ⟨#[]⟩)] [],.ls [.sc (.string ⟨#[]⟩)] []] ((mvBatch k x).fParts.map ePart))] (some ((k:Int)+(cvBatch x:Int))):=by
 subst hkk'
 refine vm_of_ew good hm [0,1,2,4,5000] Tryz.func39 rfl (by kernel_rfl) (by kernel_rfl) rfl fun pv=> ?_
 simp only[cvBatch] at hk
 simp[Tryz.f39,mvBatch,cvBatch]
 refine .mut (markPartS_ok x.fParts (k) ((k:Int)) (by omega) (by omega) (fun n hn=>hs n (by simp[wBatch,hn]))) ?_
 simp[mvDdl,mvRow,mvStmt,mvBatch]
structure GTable where
 fName:ByteArray
 fCols:List GCol
 fKeys:List ByteArray
def eTable (x:GTable):List Lf:= [.sc (.string x.fName),.ls [.sc (.string ⟨#[]⟩),.sc (.int .i64 0),.sc (.bool false),.sc (.bool false),.sc (.int .i64 0),.sc (.int .i64 0),.sc (.string ⟨#[]⟩)] (x.fCols.map eCol),.ls [.sc (.string ⟨#[]⟩)] (x.fKeys.map eStr)]
def cTable (x:GTable):List LV:= [.s (.sc (.string x.fName)),.s (.ls [.sc (.string ⟨#[]⟩),.sc (.int .i64 0),.sc (.bool false),.sc (.bool false),.sc (.int .i64 0),.sc (.int .i64 0),.sc (.string ⟨#[]⟩)] (x.fCols.map eCol)),.s (.ls [.sc (.string ⟨#[]⟩)] (x.fKeys.map eStr))]
def vTable (x:GTable):SV:= .v true [.s (.sc (.string x.fName)),.s (.ls [.sc (.string ⟨#[]⟩),.sc (.int .i64 0),.sc (.bool false),.sc (.bool false),.sc (.int .i64 0),.sc (.int .i64 0),.sc (.string ⟨#[]⟩)] (x.fCols.map eCol)),.s (.ls [.sc (.string ⟨#[]⟩)] (x.fKeys.map eStr))]
def dTable:GTable:=⟨⟨#[]⟩,[],[]⟩
@[simp] theorem row_Table (l:List GTable) (i:Nat):(Option.map eTable l[i]?).getD [.sc (.string ⟨#[]⟩),.ls [.sc (.string ⟨#[]⟩),.sc (.int .i64 0),.sc (.bool false),.sc (.bool false),.sc (.int .i64 0),.sc (.int .i64 0),.sc (.string ⟨#[]⟩)] [],.ls [.sc (.string ⟨#[]⟩)] []]=eTable (l[i]?.getD dTable):=by cases l[i]? <;>rfl
def okTable (x:GTable):Prop:=okM x.fName.size∧okColS x.fCols∧okStrS x.fKeys∧True
def mTable (x:GTable):ML:= [(.s,.sc (.string x.fName)),(.o 236 (fun _=> [.s,.s,.s,.s,.s,.s,.s]),.ls [.sc (.string ⟨#[]⟩),.sc (.int .i64 0),.sc (.bool false),.sc (.bool false),.sc (.int .i64 0),.sc (.int .i64 0),.sc (.string ⟨#[]⟩)] (x.fCols.map eCol)),(.o 9 (fun _=> [.s]),.ls [.sc (.string ⟨#[]⟩)] (x.fKeys.map eStr))]
def vTableS (l:List GTable):SV:=list [.sc (.string ⟨#[]⟩),.ls [.sc (.string ⟨#[]⟩),.sc (.int .i64 0),.sc (.bool false),.sc (.bool false),.sc (.int .i64 0),.sc (.int .i64 0),.sc (.string ⟨#[]⟩)] [],.ls [.sc (.string ⟨#[]⟩)] []] (l.map eTable)
@[simp] theorem ow_TableS (l:List GTable):Ow (.o 201 (fun _=> [.s,.o 236 (fun _=> [.s,.s,.s,.s,.s,.s,.s]),.o 9 (fun _=> [.s])])) (.ls [.sc (.string ⟨#[]⟩),.ls [.sc (.string ⟨#[]⟩),.sc (.int .i64 0),.sc (.bool false),.sc (.bool false),.sc (.int .i64 0),.sc (.int .i64 0),.sc (.string ⟨#[]⟩)] [],.ls [.sc (.string ⟨#[]⟩)] []] (l.map eTable))=True:=eq_true (Ow_rows (fun x j hj=>match j,hj with|0,_=> .sc|1,_=>of_eq_true (ow_ColS x.fCols)|2,_=>of_eq_true (ow_StrS x.fKeys)|n+3,hj=>absurd hj (by simp)) l)
@[simp] theorem full_TableS (l:List GTable):Full (.o 201 (fun _=> [.s,.o 236 (fun _=> [.s,.s,.s,.s,.s,.s,.s]),.o 9 (fun _=> [.s])])) (.ls [.sc (.string ⟨#[]⟩),.ls [.sc (.string ⟨#[]⟩),.sc (.int .i64 0),.sc (.bool false),.sc (.bool false),.sc (.int .i64 0),.sc (.int .i64 0),.sc (.string ⟨#[]⟩)] [],.ls [.sc (.string ⟨#[]⟩)] []] (l.map eTable))=True:=eq_true (Full_rows (fun x j hj=>match j,hj with|0,_=> .s|1,_=>of_eq_true (full_ColS x.fCols)|2,_=>of_eq_true (full_StrS x.fKeys)|n+3,hj=>absurd hj (by simp)) l)
def ctTable (x:GTable):Nat:=1+ctColS x.fCols+ctStrS x.fKeys
def mkTable (k:Nat) (x:GTable):GTable:=⟨mkStr (k) x.fName,mkColS (k+1) x.fCols,mkStrS (k+1+ctColS x.fCols) x.fKeys⟩
def ctTableS (l:List GTable):Nat:=ctRw ctTable l
def mkTableS (k:Nat) (l:List GTable):List GTable:=mkRw mkTable ctTable k l
structure GCat where
 fTables:List GTable
def vCat (x:GCat):SV:= .v true [.s (.ls [.sc (.string ⟨#[]⟩),.ls [.sc (.string ⟨#[]⟩),.sc (.int .i64 0),.sc (.bool false),.sc (.bool false),.sc (.int .i64 0),.sc (.int .i64 0),.sc (.string ⟨#[]⟩)] [],.ls [.sc (.string ⟨#[]⟩)] []] (x.fTables.map eTable))]
def cvCat (x:GCat):Nat:=ctTableS x.fTables
def mvCat (k:Nat) (x:GCat):GCat:= {x with fTables:=mkTableS (k) x.fTables}
def ctRow (x:GRow):Nat:=0+ctValS x.fVals
def mkRow (k:Nat) (x:GRow):GRow:=⟨mkValS (k) x.fVals⟩
def ctRowS (l:List GRow):Nat:=ctRw ctRow l
def mkRowS (k:Nat) (l:List GRow):List GRow:=mkRw mkRow ctRow k l
structure GRows where
 fRows:List GRow
def ctRows (x:GRows):Nat:=0+ctRowS x.fRows
def mkRows (k:Nat) (x:GRows):GRows:=⟨mkRowS (k) x.fRows⟩
def ctRowsS (l:List GRows):Nat:=ctRw ctRows l
def mkRowsS (k:Nat) (l:List GRows):List GRows:=mkRw mkRows ctRows k l
structure GDb where
 fCat:GCat
 fData:List GRows
def cvDb (x:GDb):Nat:=cvCat x.fCat+ctRowsS x.fData
def mvDb (k:Nat) (x:GDb):GDb:= {x with fCat:=mvCat (k) x.fCat,fData:=mkRowsS (k+cvCat x.fCat) x.fData}
structure GFol where
 fDb:GDb
 fAt:Int
 fHalt:Int
def mvFol (k:Nat) (x:GFol):GFol:= {x with fDb:=mvDb (k) x.fDb}
def vByteS (l:List UInt8):SV:=list [.sc (.int .u8 0)] (l.map eByte)
def wByteS (l:List UInt8):List Nat:=l.length:: []
def mByteS (x:List UInt8):ML:= [(.o 5 (fun _=> [.s]),.ls [.sc (.int .u8 0)] (x.map eByte))]
@[simp] theorem ow_ByteS (l:List UInt8):Ow (.o 5 (fun _=> [.s])) (.ls [.sc (.int .u8 0)] (l.map eByte))=True:=eq_true (Ow_rows (fun x j hj=>match j,hj with|0,_=> .sc|n+1,hj=>absurd hj (by simp)) l)
@[simp] theorem full_ByteS (l:List UInt8):Full (.o 5 (fun _=> [.s])) (.ls [.sc (.int .u8 0)] (l.map eByte))=True:=eq_true (Full_rows (fun x j hj=>match j,hj with|0,_=> .s|n+1,hj=>absurd hj (by simp)) l)
theorem eqByteS_ok (x:List UInt8) (hs: ∀n∈wByteS x,n≤1048576):VC Tryz.prog 132 [vByteS x,vByteS x] [(false,[(.s,.sc (.bool true))])]:=by
 refine vc_of_ew good hm [0,1,4,10,5,14,25] Tryz.func132 rfl (by kernel_rfl) (by kernel_rfl) rfl ?_
 have hl:x.length≤1048576:=hs _ (by simp[wByteS])
 simp[Tryz.f132,vByteS]
 refine ew_loop (fun E=> ∃i:Nat,i≤x.length∧E= {nt:=26,sl:= [(0,vByteS x),(1,vByteS x),(5,int .i64 i)],bx:= [],rt:= []}) (fun E=>x.length- (E.num 5).toNat) _ (Gh.keep _ [0,1,5]) ⟨0,by omega,by simp[vByteS]⟩ ?_
 rintro E1 ⟨i,hi,rfl⟩
 simp[vByteS,eByte]
 intro h
 simp[eByte,h]
 refine .of _ (Gh.keep _ [0,1,5]) ⟨i+1,by omega, ?_⟩ ?_
 ·simp[wrapS (show i<9223372036854775807 by omega),vByteS]
 ·simp[wrapS (show i<9223372036854775807 by omega)];omega
def ctByteS (l:List UInt8):Nat:=ctRw ctByte l
def mkByteS (k:Nat) (l:List UInt8):List UInt8:=mkRw mkByte ctByte k l
theorem ctle_ByteS (l:List UInt8):ctByteS l≤64* (wByteS l).sum:=by
 have:=ctRw_one ctByte l (fun x _=>by simp[ctByte])
 simp only[wByteS,List.sum_cons,List.sum_nil]
 exact this
theorem markByteS_ok (x:List UInt8) (k:Nat) (k':Int) (hkk':k'=(k:Int)) (hk:k+ctByteS x≤4611686018427387904) (hs: ∀n∈wByteS x,n≤4611686018427387904):VM Tryz.prog 133 [.v false [.r [900]],int .i64 k'] [(.o 5 (fun _=> [.s]),.ls [.sc (.int .u8 0)] (x.map eByte),.ls [.sc (.int .u8 0)] ((mkByteS k x).map eByte))] (some ((k:Int)+(ctByteS x:Int))):=by
 subst hkk'
 have hl:x.length≤4611686018427387904:=hs _ (by simp[wByteS])
 refine vm_of_ew good hm [0,1,4,5,9,5000] Tryz.func133 rfl (by kernel_rfl) (by kernel_rfl) rfl fun pv=> ?_
 simp[Tryz.f133]
 refine ew_loop (fun E=> ∃ (i K:Nat) (M:List (UInt8)),i≤x.length∧K=k+ctRw ctByte (x.take i)∧M=mixR mkByte ctByte k x i∧E= {nt:=20,sl:= [(0,.v false [.r [900]]),(1,int .i64 (K:Int)),(5,int .i64 i),(5000,.pin 900 [] (pv 900))],bx:= [],rt:= [(900,.o 5 (fun _=> [.s]),.ls [.sc (.int .u8 0)] (M.map eByte))]}) (fun E=>x.length- (E.num 5).toNat) _ (Gh.kb _ [0,1,5,5000] [] [900]) ⟨0,k,x,by omega,by simp[ctRw],by simp[mixR_zero],by simp⟩ ?_
 rintro E1 ⟨i,K,M,hi,hK,hM,rfl⟩
 have hfl:M.length=x.length:=by rw[hM];exact mixR_len mkByte ctByte k x i
 have hct:=ctRw_le ctByte x i
 simp only[ctByteS] at hk
 simp[hfl]
 refine ⟨fun h=> ?_,fun h=> ?_⟩
 ·have hg:M[i]? =x[i]? :=by rw[hM];exact mixR_get mkByte ctByte k x i h
  have hst:=mixR_set mkByte ctByte k x i (0) h
  have hc1:=ctRw_lt ctByte (0) h
  have hs1:ctRw ctByte (x.take (i+1))=ctRw ctByte (x.take i)+ctByte (x[i]?.getD (0)):=ctRw_succ ctByte (0) h
  have hxi:x[i]? =some (x[i]?.getD (0)):=by rw[List.getElem?_eq_getElem h];rfl
  have hy:(x[i]?.getD (0))∈x:=getD_mem _ h
  rw[hxi] at hg
  rw[←hK,←hM] at hst
  generalize (x[i]?.getD (0))=y at*
  have hg': ∀h',M[i]'h'=y:=fun h'=>by simpa [List.getElem?_eq_getElem h'] using hg
  simp only[ctByte] at hc1 hs1
  have w0:IntKind.i64.wrap ((K:Int)+1)=(K:Int)+1:=(wrapI (by omega) (by omega)).trans (by omega)
  simp[md,lf,hg',hg,h,hfl,eByte,w0]
  have e1:(k:Int)+(ctRw ctByte (x.take (i+1)):Int)=(K:Int)+1:=by omega
  refine .of _ (Gh.kb _ [0,1,5,5000] [] [900]) ⟨i+1,by omega, ?_⟩ ?_
  ·simp[wrapS (show i<9223372036854775807 by omega),e1,←hst,List.map_set,mkByte,eByte,wrapU8]
  ·simp[wrapS (show i<9223372036854775807 by omega)];omega
 ·have:i=x.length:=by omega
  subst this
  subst hM
  subst hK
  simp[mixR_all,ctByteS,mkByteS]
theorem heldByteS_ok (x:List UInt8) (k:Nat) (k':Int) (hkk':k'=(k:Int)) (hk:k+ctByteS x≤4611686018427387904) (hs: ∀n∈wByteS x,n≤4611686018427387904):VC Tryz.prog 134 [vByteS (mkByteS k x),int .i64 k'] [(false,[(.s,.sc (.int .i64 ((k:Int)+(ctByteS x:Int))))])]:=by
 subst hkk'
 have hl:x.length≤4611686018427387904:=hs _ (by simp[wByteS])
 refine vc_of_ew good hm [0,1,4,5,9,18] Tryz.func134 rfl (by kernel_rfl) (by kernel_rfl) rfl ?_
 simp[Tryz.f134,vByteS]
 refine ew_loop (fun E=> ∃ (i K:Nat),i≤x.length∧K=k+ctRw ctByte (x.take i)∧E= {nt:=22,sl:= [(0,vByteS (mkByteS k x)),(1,int .i64 (K:Int)),(5,int .i64 i)],bx:= [],rt:= []}) (fun E=>x.length- (E.num 5).toNat) _ (Gh.kb _ [0,1,5] [] []) ⟨0,k,by omega,by simp[ctRw],by simp[vByteS]⟩ ?_
 rintro E1 ⟨i,K,hi,hK,rfl⟩
 have hfl:(mkByteS k x).length=x.length:=mkRw_len mkByte ctByte k x
 have hct:=ctRw_le ctByte x i
 simp only[ctByteS] at hk
 simp[vByteS,hfl]
 refine ⟨fun h=> ?_,fun h=> ?_⟩
 ·have hg:(mkByteS k x)[i]? =some (mkByte (k+ctRw ctByte (x.take i)) (x[i]?.getD (0))):=mkRw_get mkByte ctByte (0) k x i h
  have hc1:=ctRw_lt ctByte (0) h
  have hs1:ctRw ctByte (x.take (i+1))=ctRw ctByte (x.take i)+ctByte (x[i]?.getD (0)):=ctRw_succ ctByte (0) h
  have hy:(x[i]?.getD (0))∈x:=getD_mem _ h
  rw[←hK] at hg
  generalize (x[i]?.getD (0))=y at*
  have hg2: ∀hh:i< (mkByteS k x).length,(mkByteS k x)[i]=mkByte K y:=fun hh=>(List.getElem_eq_iff hh).2 hg
  simp only[ctByte] at hc1 hs1
  have w0:IntKind.i64.wrap ((K:Int)+1)=(K:Int)+1:=(wrapI (by omega) (by omega)).trans (by omega)
  simp[md,lf,hg,hg2,h,hfl,eByte,mkByte,wrapU8,w0]
  have e1:(k:Int)+(ctRw ctByte (x.take (i+1)):Int)=(K:Int)+1:=by omega
  refine .of _ (Gh.kb _ [0,1,5] [] []) ⟨i+1,by omega, ?_⟩ ?_
  ·simp[wrapS (show i<9223372036854775807 by omega),e1,vByteS]
  ·simp[wrapS (show i<9223372036854775807 by omega)];omega
 ·have:i=x.length:=by omega
  subst this
  subst hK
  simp[ctByteS]
structure GPack where
 fBytes:List UInt8
def vPack (x:GPack):SV:= .v true [.s (.ls [.sc (.int .u8 0)] (x.fBytes.map eByte))]
def wPack (x:GPack):List Nat:=wByteS x.fBytes++([])
def mPack (x:GPack):ML:= [(.o 5 (fun _=> [.s]),.ls [.sc (.int .u8 0)] (x.fBytes.map eByte))]
theorem eqPack_ok (x:GPack) (hs: ∀n∈wPack x,n≤1048576):VC Tryz.prog 47 [vPack x,vPack x] [(false,[(.s,.sc (.bool true))])]:=by
 refine vc_of_ew good hm [0,1,2,3,4,10] Tryz.func47 rfl (by kernel_rfl) (by kernel_rfl) rfl ?_
 simp[Tryz.f47,vPack]
 refine .of (eqByteS_ok x.fBytes (fun n hn=>hs n (by simp[wPack,hn]))) ?_
 simp
def cvPack (x:GPack):Nat:=ctByteS x.fBytes
def mvPack (k:Nat) (x:GPack):GPack:= {x with fBytes:=mkByteS (k) x.fBytes}
theorem cvle_Pack (x:GPack):cvPack x≤64* (wPack x).sum:=by
 have:=ctle_ByteS x.fBytes
 simp only[cvPack,wPack,List.sum_cons,List.sum_append,List.sum_nil]
 omega
theorem markVPack_ok (x:GPack) (k:Nat) (k':Int) (hkk':k'=(k:Int)) (hk:k+cvPack x≤4611686018427387904) (hs: ∀n∈wPack x,n≤4611686018427387904):VM Tryz.prog 48 [.v true [.r [900]],int .i64 k'] [(.o 5 (fun _=> [.s]),.ls [.sc (.int .u8 0)] (x.fBytes.map eByte),.ls [.sc (.int .u8 0)] ((mvPack k x).fBytes.map eByte))] (some ((k:Int)+(cvPack x:Int))):=by
 subst hkk'
 refine vm_of_ew good hm [0,1,2,4,5000] Tryz.func48 rfl (by kernel_rfl) (by kernel_rfl) rfl fun pv=> ?_
 simp only[cvPack] at hk
 simp[Tryz.f48,mvPack,cvPack]
 refine .mut (markByteS_ok x.fBytes (k) ((k:Int)) (by omega) (by omega) (fun n hn=>hs n (by simp[wPack,hn]))) ?_
 simp[mvCat,mvDdl,mvRow,mvStmt,mvDb,mvBatch,mvPack,mvFol]
theorem heldVPack_ok (x:GPack) (k:Nat) (k':Int) (hkk':k'=(k:Int)) (hk:k+cvPack x≤4611686018427387904) (hs: ∀n∈wPack x,n≤4611686018427387904):VC Tryz.prog 49 [vPack (mvPack k x),int .i64 k'] [(false,[(.s,.sc (.int .i64 ((k:Int)+(cvPack x:Int))))])]:=by
 subst hkk'
 simp only[cvPack] at hk
 refine vc_of_ew good hm [0,1,2,4,10] Tryz.func49 rfl (by kernel_rfl) (by kernel_rfl) rfl ?_
 simp[Tryz.f49,vPack,mvPack,cvPack]
 refine .of (heldByteS_ok x.fBytes (k) _ (by omega) (by omega) (fun n hn=>hs n (by simp[wPack,hn]))) ?_
 have v0: ¬((k:Int)+(ctByteS x.fBytes:Int)<0):=by omega
 have v1:0≤(k:Int)+(ctByteS x.fBytes:Int):=by omega
 simp[v0,v1]
structure GRec where
 fKind:Int
 fXid:Int
 fStmt:GStmt
def mvRec (k:Nat) (x:GRec):GRec:= {x with fStmt:=mvStmt (k) x.fStmt}
structure GSnap where
 fLsn:Int
 fDb:GDb
def mvSnap (k:Nat) (x:GSnap):GSnap:= {x with fDb:=mvDb (k) x.fDb}
def ctRec (x:GRec):Nat:=8+ctValS x.fStmt.fKey+ctValS x.fStmt.fRow.fVals+ctColS x.fStmt.fDdl.fCols+ctStrS x.fStmt.fDdl.fKeys
def mkRec (k:Nat) (x:GRec):GRec:=⟨mkInt (k) x.fKind,mkInt (k+1) x.fXid,⟨mkInt (k+2) x.fStmt.fKind,mkStr (k+3) x.fStmt.fTable,mkValS (k+4) x.fStmt.fKey,⟨mkValS (k+4+ctValS x.fStmt.fKey) x.fStmt.fRow.fVals⟩,⟨mkInt (k+4+ctValS x.fStmt.fKey+ctValS x.fStmt.fRow.fVals) x.fStmt.fDdl.fKind,mkStr (k+5+ctValS x.fStmt.fKey+ctValS x.fStmt.fRow.fVals) x.fStmt.fDdl.fTable,mkColS (k+6+ctValS x.fStmt.fKey+ctValS x.fStmt.fRow.fVals) x.fStmt.fDdl.fCols,mkStrS (k+6+ctValS x.fStmt.fKey+ctValS x.fStmt.fRow.fVals+ctColS x.fStmt.fDdl.fCols) x.fStmt.fDdl.fKeys,mkStr (k+6+ctValS x.fStmt.fKey+ctValS x.fStmt.fRow.fVals+ctColS x.fStmt.fDdl.fCols+ctStrS x.fStmt.fDdl.fKeys) x.fStmt.fDdl.fName,mkStr (k+7+ctValS x.fStmt.fKey+ctValS x.fStmt.fRow.fVals+ctColS x.fStmt.fDdl.fCols+ctStrS x.fStmt.fDdl.fKeys) x.fStmt.fDdl.fTo⟩⟩⟩
def mkRecS (k:Nat) (l:List GRec):List GRec:=mkRw mkRec ctRec k l
structure GTail where
 fBase:Int
 fDb:GDb
 fRecs:List GRec
def mvTail (k:Nat) (x:GTail):GTail:= {x with fDb:=mvDb (k) x.fDb,fRecs:=mkRecS (k+cvDb x.fDb) x.fRecs}
@[simp] theorem ow_BatchS (l:List GBatch):Ow (.o 62 (fun _=> [.s,.s,.o 150 (fun _=> [.s,.s,.o 234 (fun _=> [.s,.s,.s]),.o 234 (fun _=> [.s,.s,.s]),.s,.s,.o 236 (fun _=> [.s,.s,.s,.s,.s,.s,.s]),.o 9 (fun _=> [.s]),.s,.s,.o 9 (fun _=> [.s]),.o 9 (fun _=> [.s])])])) (.ls [.sc (.int .i64 0),.sc (.int .i64 0),.ls [.sc (.int .i64 0),.sc (.string ⟨#[]⟩),.ls [.sc (.int .i64 0),.sc (.int .i64 0),.sc (.string ⟨#[]⟩)] [],.ls [.sc (.int .i64 0),.sc (.int .i64 0),.sc (.string ⟨#[]⟩)] [],.sc (.int .i64 0),.sc (.string ⟨#[]⟩),.ls [.sc (.string ⟨#[]⟩),.sc (.int .i64 0),.sc (.bool false),.sc (.bool false),.sc (.int .i64 0),.sc (.int .i64 0),.sc (.string ⟨#[]⟩)] [],.ls [.sc (.string ⟨#[]⟩)] [],.sc (.string ⟨#[]⟩),.sc (.string ⟨#[]⟩),.ls [.sc (.string ⟨#[]⟩)] [],.ls [.sc (.string ⟨#[]⟩)] []] []] (l.map eBatch))=True:=eq_true (Ow_rows (fun x j hj=>match j,hj with|0,_=> .sc|1,_=> .sc|2,_=>of_eq_true (ow_PartS x.fParts)|n+3,hj=>absurd hj (by simp)) l)
@[simp] theorem full_BatchS (l:List GBatch):Full (.o 62 (fun _=> [.s,.s,.o 150 (fun _=> [.s,.s,.o 234 (fun _=> [.s,.s,.s]),.o 234 (fun _=> [.s,.s,.s]),.s,.s,.o 236 (fun _=> [.s,.s,.s,.s,.s,.s,.s]),.o 9 (fun _=> [.s]),.s,.s,.o 9 (fun _=> [.s]),.o 9 (fun _=> [.s])])])) (.ls [.sc (.int .i64 0),.sc (.int .i64 0),.ls [.sc (.int .i64 0),.sc (.string ⟨#[]⟩),.ls [.sc (.int .i64 0),.sc (.int .i64 0),.sc (.string ⟨#[]⟩)] [],.ls [.sc (.int .i64 0),.sc (.int .i64 0),.sc (.string ⟨#[]⟩)] [],.sc (.int .i64 0),.sc (.string ⟨#[]⟩),.ls [.sc (.string ⟨#[]⟩),.sc (.int .i64 0),.sc (.bool false),.sc (.bool false),.sc (.int .i64 0),.sc (.int .i64 0),.sc (.string ⟨#[]⟩)] [],.ls [.sc (.string ⟨#[]⟩)] [],.sc (.string ⟨#[]⟩),.sc (.string ⟨#[]⟩),.ls [.sc (.string ⟨#[]⟩)] [],.ls [.sc (.string ⟨#[]⟩)] []] []] (l.map eBatch))=True:=eq_true (Full_rows (fun x j hj=>match j,hj with|0,_=> .s|1,_=> .s|2,_=>of_eq_true (full_PartS x.fParts)|n+3,hj=>absurd hj (by simp)) l)
end Go.Proofs.YteeolohhmfjafaaGreat
namespace Go.Proofs.YteeolohhmfjafaaGreat
open Go Go.Proofs Go.Sm
attribute [local simp] ti eStr eInt eByte eVal vVal vValS vRow eCol vCol vColS vStrS cDdl vDdl vStmt ePart vPart vPartS eBatch cBatch vBatch eTable cTable vTable vTableS vCat vByteS vPack
set_option linter.unusedVariables false
set_option linter.unusedSimpArgs false
set_option maxRecDepth 8000
def within (x lo hi:Int):Bool:=decide (x≥lo)&&decide (x≤hi)
theorem within_ok (x lo hi:Int):VC Tryz.prog 235 [int .i64 x,int .i64 lo,int .i64 hi] [(false,[(.s,.sc (.bool (within x lo hi)))])]:=by
 refine vc_of_ew good hm [0,1,2,6] Tryz.func235 rfl (by kernel_rfl) (by kernel_rfl) rfl ?_
 simp[Tryz.f235,within]
def byteAt (s:ByteArray) (i:Nat):Int:=((s.data[i]?.getD 0).toNat:Int)
def letter (c:Int):Bool:=decide (97≤c)&&decide (c≤122)
theorem letter_iff (c:Int):letter c=true↔97≤c∧c≤122:=by simp[letter]
def lettersTo (s:ByteArray) (n:Nat):Bool:=(List.range n).all (fun i=>letter (byteAt s i))
def wordOk (s:ByteArray):Bool:=lettersTo s s.size&&within s.size 1 8
theorem lettersTo_succ (s:ByteArray) (n:Nat):lettersTo s (n+1)=(lettersTo s n&&letter (byteAt s n)):=by
 simp[lettersTo,List.range_succ,List.all_append]
theorem lettersTo_le {s:ByteArray} {n m:Nat} (h:lettersTo s m=true) (hnm:n≤m):lettersTo s n=true:=by
 simp only[lettersTo,List.all_eq_true,List.mem_range] at h⊢
 exact fun x hx=>h x (by omega)
theorem wordOk_no {s:ByteArray} {i:Nat} (hi:i<s.size) (h:letter (byteAt s i)=false):wordOk s=false:=by
 unfold wordOk
 cases hl:lettersTo s s.size with
 |false=>rfl
 |true=>
  have:=lettersTo_le hl (show i+1≤s.size by omega)
  rw[lettersTo_succ,h] at this
  simp at this
theorem wordOkI_ok (s:ByteArray) (hs:okM s.size):VC Tryz.prog 199 [str s] [(false,[(.s,.sc (.bool (wordOk s)))])]:=by
 unfold okM at hs
 refine vc_of_ew good hm [0,2,3,7,19] Tryz.func199 rfl (by kernel_rfl) (by kernel_rfl) rfl ?_
 simp[Tryz.f199]
 refine ew_loop (fun E=> ∃i:Nat,i≤s.size∧lettersTo s i=true∧E= {nt:=23,sl:= [(0,str s),(3,int .i64 i)],bx:= [],rt:= []}) (fun E=>s.size- (E.num 3).toNat) _ (Gh.kb _ [0,3] [] []) ⟨0,by omega,by simp[lettersTo],by simp⟩ ?_
 rintro E1 ⟨i,hi,hall,rfl⟩
 simp
 refine ⟨fun h=>⟨h,fun h1=>⟨h1,h⟩,fun h1=>wordOk_no h ?_,fun h1 h2=> .of _ (Gh.kb _ [0,3] [] []) ⟨i+1,by omega, ?_, ?_⟩ ?_⟩,fun h=> .of (within_ok _ _ _) ?_⟩
 ·rw[Bool.eq_false_iff];intro h;rw[letter_iff] at h;unfold byteAt at h;omega
 ·rw[lettersTo_succ,hall,Bool.true_and,letter_iff];unfold byteAt;omega
 ·simp[wrapS (show i<9223372036854775807 by omega)]
 ·simp[wrapS (show i<9223372036854775807 by omega)];omega
 ·have:i=s.size:=by omega
  subst this
  simp[wordOk,hall]
theorem wordOkS_ok (s:ByteArray) (hs:okM s.size):VC Tryz.prog 285 [str s] [(false,[(.s,.sc (.bool (wordOk s)))])]:=by
 unfold okM at hs
 refine vc_of_ew good hm [0,2,3,7,19] Tryz.func285 rfl (by kernel_rfl) (by kernel_rfl) rfl ?_
 simp[Tryz.f285]
 refine ew_loop (fun E=> ∃i:Nat,i≤s.size∧lettersTo s i=true∧E= {nt:=28,sl:= [(0,str s),(3,int .i64 i)],bx:= [],rt:= []}) (fun E=>s.size- (E.num 3).toNat) _ (Gh.kb _ [0,3] [] []) ⟨0,by omega,by simp[lettersTo],by simp⟩ ?_
 rintro E1 ⟨i,hi,hall,rfl⟩
 simp
 refine ⟨fun h=>⟨h,fun h1=>⟨h1,h⟩,fun h1=>wordOk_no h ?_,fun h1 h2=> .of _ (Gh.kb _ [0,3] [] []) ⟨i+1,by omega, ?_, ?_⟩ ?_⟩,fun h=> ?_⟩
 ·rw[Bool.eq_false_iff];intro h;rw[letter_iff] at h;unfold byteAt at h;omega
 ·rw[lettersTo_succ,hall,Bool.true_and,letter_iff];unfold byteAt;omega
 ·simp[wrapS (show i<9223372036854775807 by omega)]
 ·simp[wrapS (show i<9223372036854775807 by omega)];omega
 ·have:i=s.size:=by omega
  subst this
  simp[wordOk,hall,within]
def geq (a b:ByteArray):Bool:= !Op.bytesLess a.toList b.toList
theorem rangeAll_succ (p:Nat→Bool) (n:Nat):(List.range (n+1)).all p=((List.range n).all p&&p n):=by
 simp[List.range_succ,List.all_append]
theorem rangeAll_no {p:Nat→Bool} {n i:Nat} (hi:i<n) (h:p i=false):(List.range n).all p=false:=by
 rw[Bool.eq_false_iff]
 intro ht
 simp only[List.all_eq_true,List.mem_range] at ht
 rw[ht i hi] at h
 cases h
end Go.Proofs.YteeolohhmfjafaaGreat
namespace Go.Proofs.YteeolohhmfjafaaGreat
open Go Go.Proofs Go.Sm
attribute [local simp] ti eStr eInt eByte eVal vVal vValS vRow eCol vCol vColS vStrS cDdl vDdl vStmt ePart vPart vPartS eBatch cBatch vBatch eTable cTable vTable vTableS vCat vByteS vPack
set_option linter.unusedVariables false
set_option linter.unusedSimpArgs false
set_option maxRecDepth 8000
def em (s:ByteArray):Bool:=s.toList.isEmpty
def valOk (v:GVal):Bool:=(decide (v.fTy=0)&& (decide (v.fN=0)&&em v.fS))||(decide (v.fTy=1)&& ((decide (v.fN=0)||decide (v.fN=1))&&em v.fS))||(decide (v.fTy=2)&& (within v.fN (-1099511627775) 1099511627775&&em v.fS))||(decide (v.fTy=3)&& (decide (v.fN=0)&&decide ((v.fS.size:Int)≤30)))
def nullV (v:GVal):Bool:=decide (v.fTy=0)&& (decide (v.fN=0)&&em v.fS)
theorem within01 (n:Int):within n 0 1=(decide (n=0)||decide (n=1)):=by
 unfold within
 rw[Bool.eq_iff_iff]
 simp
 omega
theorem beqI (a b:Int):(a==b)=decide (a=b):=rfl
theorem l01Num_ok (n:Int):VC Tryz.prog 360 [int .i64 n] [(false,[(.s,.sc (.bool (within n (-1099511627775) 1099511627775)))])]:=by
 refine vc_of_ew good hm [0,2] Tryz.func360 rfl (by kernel_rfl) (by kernel_rfl) rfl ?_
 simp[Tryz.f360,within]
theorem valOkS_ok (v:GVal):VC Tryz.prog 378 [vVal v] [(false,[(.s,.sc (.bool (valOk v)))])]:=by
 refine vc_of_ew good hm [0,1,2,4,5,15,30,40] Tryz.func378 rfl (by kernel_rfl) (by kernel_rfl) rfl ?_
 simp[Tryz.f378]
 refine ⟨fun h=>by simp[valOk,h,em],fun h0=>⟨fun h=>by simp[valOk,h,em],fun h1=>⟨fun h=> .of (l01Num_ok _) ?_,fun h2=>⟨fun h=>by simp[valOk,h],fun h3=>by simp[valOk,h0,h1,h2,h3]⟩⟩⟩⟩
 simp[valOk,h,em]
theorem valOkI_ok (v:GVal):VC Tryz.prog 311 [vVal v] [(false,[(.s,.sc (.bool (valOk v)))])]:=by
 refine vc_of_ew good hm [0,1,2,4,5,10,20,30] Tryz.func311 rfl (by kernel_rfl) (by kernel_rfl) rfl ?_
 simp[Tryz.f311]
 refine ⟨fun h=>by simp[valOk,h,em,beqI],fun h0=>⟨fun h=> .of (within_ok _ _ _) ?_,fun h1=>⟨fun h=> .of (within_ok _ _ _) ?_,fun h2=>⟨fun h=>by simp[valOk,h],fun h3=>by simp[valOk,h0,h1,h2,h3]⟩⟩⟩⟩
 ·simp[valOk,h,em,within01]
 ·simp[valOk,h,em]
end Go.Proofs.YteeolohhmfjafaaGreat
namespace Go.Proofs.YteeolohhmfjafaaGreat
open Go Go.Proofs Go.Sm
attribute [local simp] ti eStr eInt eByte eVal vVal vValS vRow eCol vCol vColS vStrS cDdl vDdl vStmt ePart vPart vPartS eBatch cBatch vBatch eTable cTable vTable vTableS vCat vByteS vPack
set_option linter.unusedVariables false
set_option linter.unusedSimpArgs false
set_option maxRecDepth 8000
def tx (s:ByteArray):List UInt8:=s.data.toList
@[simp] theorem tx_mk (a:Array UInt8):tx ⟨a⟩=a.toList:=rfl
@[simp] theorem tx_app (a b:ByteArray):tx (a++b)=tx a++tx b:=by simp[tx]
theorem tx_len (s:ByteArray):(tx s).length=s.size:=Array.length_toList
end Go.Proofs.YteeolohhmfjafaaGreat
namespace Go.Proofs.YteeolohhmfjafaaGreat
open Go Go.Proofs Go.Sm
attribute [local simp] ti eStr eInt eByte eVal vVal vValS vRow eCol vCol vColS vStrS cDdl vDdl vStmt ePart vPart vPartS eBatch cBatch vBatch eTable cTable vTable vTableS vCat vByteS vPack
set_option linter.unusedVariables false
set_option linter.unusedSimpArgs false
set_option maxRecDepth 8000
end Go.Proofs.YteeolohhmfjafaaGreat
namespace Go.Proofs.YteeolohhmfjafaaGreat
open Go Go.Proofs Go.Sm
attribute [local simp] ti eStr eInt eByte eVal vVal vValS vRow eCol vCol vColS vStrS cDdl vDdl vStmt ePart vPart vPartS eBatch cBatch vBatch eTable cTable vTable vTableS vCat vByteS vPack
set_option linter.unusedVariables false
set_option linter.unusedSimpArgs false
set_option maxRecDepth 8000
def idxF {α:Type} (p:α→Bool) (l:List α):Int:=if l.any p then (l.findIdx p:Int) else-1
def anyT {α:Type} (p:α→Bool) (l:List α) (i:Nat):Bool:=(l.take i).any p
theorem anyT_zero {α:Type} (p:α→Bool) (l:List α):anyT p l 0=false:=by simp[anyT]
theorem anyT_all {α:Type} (p:α→Bool) (l:List α):anyT p l l.length=l.any p:=by simp[anyT]
theorem anyT_succ {α:Type} (p:α→Bool) (d:α) {l:List α} {i:Nat} (h:i<l.length):anyT p l (i+1)=(anyT p l i||p (l[i]?.getD d)):=by
 unfold anyT
 rw[List.take_succ_eq_append_getElem h,List.any_append,List.getElem?_eq_getElem h]
 simp
theorem idxF_at {α:Type} (p:α→Bool) (d:α) {l:List α} {i:Nat} (h:i<l.length) (h0:anyT p l i=false) (hp:p (l[i]?.getD d)=true):idxF p l=i:=by
 rw[List.getElem?_eq_getElem h,Option.getD_some] at hp
 have ha:l.any p=true:=List.any_eq_true.2 ⟨_,List.getElem_mem h,hp⟩
 rw[idxF,if_pos ha,(List.findIdx_eq h).2 ⟨hp,fun j hj=> ?_⟩]
 rw[anyT,List.any_eq_false] at h0
 have:=h0 l[j] (List.mem_take_iff_getElem.2 ⟨j,by omega,rfl⟩)
 simpa using this
theorem idxF_no {α:Type} (p:α→Bool) {l:List α} (h0:l.any p=false):idxF p l= -1:=by simp[idxF,h0]
theorem idxF_ge {α:Type} (p:α→Bool) (l:List α):decide (0≤idxF p l)=l.any p:=by
 unfold idxF
 split
 ·rename_i h;simp[h]
 ·rename_i h;simp only[Bool.not_eq_true] at h;rw[h];rfl
theorem idxF_bd {α:Type} (p:α→Bool) (l:List α): -1≤idxF p l∧idxF p l<l.length:=by
 unfold idxF
 split
 ·rename_i h
  have:=List.findIdx_lt_length.2 (List.any_eq_true.1 h)
  omega
 ·omega
theorem idxTable1_ok (l:List GTable) (k:Nat) (ds:List Lf) (p:GTable→Bool) (hl:okM l.length) (hk: ∀x∈l,VC Tryz.prog k [vTable x,.p (.ps ds)] [(false,[(.s,.sc (.bool (p x)))])]):
  VC Tryz.prog 303 [vTableS l,.fn k [.ps ds]] [(false,[(.s,.sc (.int .i64 (idxF p l)))])]:=by
 unfold okM at hl
 refine vc_of_ew good hm [0,1,4,7,8,9,5,16] Tryz.func303 rfl (by kernel_rfl) (by kernel_rfl) rfl ?_
 simp[Tryz.f303]
 refine ew_loop (fun E=> ∃i:Nat,i≤l.length∧anyT p l i=false∧E= {nt:=19,sl:= [(0,vTableS l),(1,.fn k [.ps ds]),(7,int .i64 l.length),(8,int .i64 i)],bx:= [],rt:= []}) (fun E=>l.length- (E.num 8).toNat) _ (Gh.kb _ [0,1,7,8] [] []) ⟨0,by omega,anyT_zero _ _,by simp⟩ ?_
 rintro E1 ⟨i,hi,hall,rfl⟩
 simp
 refine ⟨fun h=>⟨h,.of (hk _ (getD_mem dTable h)) ?_⟩,fun h=> ?_⟩
 ·simp
  refine ⟨fun hp=>(idxF_at p dTable h hall hp).symm,fun hp=> .of _ (Gh.kb _ [0,1,7,8] [] []) ⟨i+1,by omega,by rw[anyT_succ p dTable h,hall,hp];rfl, ?_⟩ ?_⟩
  ·simp[wrapS (show i<9223372036854775807 by omega)]
  ·simp[wrapS (show i<9223372036854775807 by omega)];omega
 ·have:i=l.length:=by omega
  subst this
  rw[anyT_all] at hall
  exact (idxF_no p hall).symm
theorem idxVal0_ok (l:List GVal) (k:Nat) (p:GVal→Bool) (hl:okM l.length) (hk: ∀x∈l,VC Tryz.prog k [vVal x] [(false,[(.s,.sc (.bool (p x)))])]):
  VC Tryz.prog 387 [vValS l,.fn k []] [(false,[(.s,.sc (.int .i64 (idxF p l)))])]:=by
 unfold okM at hl
 refine vc_of_ew good hm [0,1,4,7,8,9,5,16] Tryz.func387 rfl (by kernel_rfl) (by kernel_rfl) rfl ?_
 simp[Tryz.f387]
 refine ew_loop (fun E=> ∃i:Nat,i≤l.length∧anyT p l i=false∧E= {nt:=19,sl:= [(0,vValS l),(1,.fn k []),(7,int .i64 l.length),(8,int .i64 i)],bx:= [],rt:= []}) (fun E=>l.length- (E.num 8).toNat) _ (Gh.kb _ [0,1,7,8] [] []) ⟨0,by omega,anyT_zero _ _,by simp⟩ ?_
 rintro E1 ⟨i,hi,hall,rfl⟩
 simp
 refine ⟨fun h=>⟨h,.of (hk _ (getD_mem dVal h)) ?_⟩,fun h=> ?_⟩
 ·simp
  refine ⟨fun hp=>(idxF_at p dVal h hall hp).symm,fun hp=> .of _ (Gh.kb _ [0,1,7,8] [] []) ⟨i+1,by omega,by rw[anyT_succ p dVal h,hall,hp];rfl, ?_⟩ ?_⟩
  ·simp[wrapS (show i<9223372036854775807 by omega)]
  ·simp[wrapS (show i<9223372036854775807 by omega)];omega
 ·have:i=l.length:=by omega
  subst this
  rw[anyT_all] at hall
  exact (idxF_no p hall).symm
theorem idxStr0_ok (l:List ByteArray) (k:Nat) (p:ByteArray→Bool) (hl:okM l.length) (hk: ∀x∈l,VC Tryz.prog k [str x] [(false,[(.s,.sc (.bool (p x)))])]):
  VC Tryz.prog 403 [vStrS l,.fn k []] [(false,[(.s,.sc (.int .i64 (idxF p l)))])]:=by
 unfold okM at hl
 refine vc_of_ew good hm [0,1,4,7,8,9,5,16] Tryz.func403 rfl (by kernel_rfl) (by kernel_rfl) rfl ?_
 simp[Tryz.f403]
 refine ew_loop (fun E=> ∃i:Nat,i≤l.length∧anyT p l i=false∧E= {nt:=19,sl:= [(0,vStrS l),(1,.fn k []),(7,int .i64 l.length),(8,int .i64 i)],bx:= [],rt:= []}) (fun E=>l.length- (E.num 8).toNat) _ (Gh.kb _ [0,1,7,8] [] []) ⟨0,by omega,anyT_zero _ _,by simp⟩ ?_
 rintro E1 ⟨i,hi,hall,rfl⟩
 simp
 refine ⟨fun h=>⟨h,.of (hk _ (getD_mem (⟨#[]⟩:ByteArray) h)) ?_⟩,fun h=> ?_⟩
 ·simp
  refine ⟨fun hp=>(idxF_at p (⟨#[]⟩:ByteArray) h hall hp).symm,fun hp=> .of _ (Gh.kb _ [0,1,7,8] [] []) ⟨i+1,by omega,by rw[anyT_succ p (⟨#[]⟩:ByteArray) h,hall,hp];rfl, ?_⟩ ?_⟩
  ·simp[wrapS (show i<9223372036854775807 by omega)]
  ·simp[wrapS (show i<9223372036854775807 by omega)];omega
 ·have:i=l.length:=by omega
  subst this
  rw[anyT_all] at hall
  exact (idxF_no p hall).symm
theorem idxCol1_ok (l:List GCol) (k:Nat) (ds:List Lf) (p:GCol→Bool) (hl:okM l.length) (hk: ∀x∈l,VC Tryz.prog k [vCol x,.p (.ps ds)] [(false,[(.s,.sc (.bool (p x)))])]):
  VC Tryz.prog 404 [vColS l,.fn k [.ps ds]] [(false,[(.s,.sc (.int .i64 (idxF p l)))])]:=by
 unfold okM at hl
 refine vc_of_ew good hm [0,1,4,7,8,9,5,16] Tryz.func404 rfl (by kernel_rfl) (by kernel_rfl) rfl ?_
 simp[Tryz.f404]
 refine ew_loop (fun E=> ∃i:Nat,i≤l.length∧anyT p l i=false∧E= {nt:=19,sl:= [(0,vColS l),(1,.fn k [.ps ds]),(7,int .i64 l.length),(8,int .i64 i)],bx:= [],rt:= []}) (fun E=>l.length- (E.num 8).toNat) _ (Gh.kb _ [0,1,7,8] [] []) ⟨0,by omega,anyT_zero _ _,by simp⟩ ?_
 rintro E1 ⟨i,hi,hall,rfl⟩
 simp
 refine ⟨fun h=>⟨h,.of (hk _ (getD_mem dCol h)) ?_⟩,fun h=> ?_⟩
 ·simp
  refine ⟨fun hp=>(idxF_at p dCol h hall hp).symm,fun hp=> .of _ (Gh.kb _ [0,1,7,8] [] []) ⟨i+1,by omega,by rw[anyT_succ p dCol h,hall,hp];rfl, ?_⟩ ?_⟩
  ·simp[wrapS (show i<9223372036854775807 by omega)]
  ·simp[wrapS (show i<9223372036854775807 by omega)];omega
 ·have:i=l.length:=by omega
  subst this
  rw[anyT_all] at hall
  exact (idxF_no p hall).symm
theorem hasVal0_ok (l:List GVal) (k:Nat) (p:GVal→Bool) (hl:okM l.length) (hk: ∀x∈l,VC Tryz.prog k [vVal x] [(false,[(.s,.sc (.bool (p x)))])]):
  VC Tryz.prog 309 [vValS l,.fn k []] [(false,[(.s,.sc (.bool (l.any p)))])]:=by
 refine vc_of_ew good hm [0,1,4] Tryz.func309 rfl (by kernel_rfl) (by kernel_rfl) rfl ?_
 simp[Tryz.f309]
 refine .of (idxVal0_ok l k p hl hk) ?_
 simp
 exact idxF_ge p l
theorem hasStr0_ok (l:List ByteArray) (k:Nat) (p:ByteArray→Bool) (hl:okM l.length) (hk: ∀x∈l,VC Tryz.prog k [str x] [(false,[(.s,.sc (.bool (p x)))])]):
  VC Tryz.prog 337 [vStrS l,.fn k []] [(false,[(.s,.sc (.bool (l.any p)))])]:=by
 refine vc_of_ew good hm [0,1,4] Tryz.func337 rfl (by kernel_rfl) (by kernel_rfl) rfl ?_
 simp[Tryz.f337]
 refine .of (idxStr0_ok l k p hl hk) ?_
 simp
 exact idxF_ge p l
end Go.Proofs.YteeolohhmfjafaaGreat
namespace Go.Proofs.YteeolohhmfjafaaGreat
open Go Go.Proofs Go.Sm
attribute [local simp] ti eStr eInt eByte eVal vVal vValS vRow eCol vCol vColS vStrS cDdl vDdl vStmt ePart vPart vPartS eBatch cBatch vBatch eTable cTable vTable vTableS vCat vByteS vPack
set_option linter.unusedVariables false
set_option linter.unusedSimpArgs false
set_option maxRecDepth 8000
def colOk (c:GCol):Bool:=wordOk c.fName&&within c.fTy 1 3&& (if c.fHas then valOk c.fDef&& (decide (c.fDef.fTy=c.fTy)||(decide (c.fDef.fTy=0)&& !c.fNot)) else nullV c.fDef)
theorem colOkS_ok (c:GCol) (hc:okCol c):VC Tryz.prog 375 [vCol c] [(false,[(.s,.sc (.bool (colOk c)))])]:=by
 refine vc_of_ew good hm [0,1,2,3,21,24] Tryz.func375 rfl (by kernel_rfl) (by kernel_rfl) rfl ?_
 simp[Tryz.f375]
 refine .of (wordOkS_ok _ hc.1) ?_
 simp[beqI]
 refine ⟨fun h=>by grind[colOk,within],fun h1 h2 h3=>⟨fun h4=>by grind[colOk,nullV,em,within],fun h4=> .of (valOkS_ok _) ?_⟩⟩
 simp
 grind[colOk,nullV,em,within,valOk]
theorem colOkI_ok (c:GCol) (hc:okCol c):VC Tryz.prog 306 [vCol c] [(false,[(.s,.sc (.bool (colOk c)))])]:=by
 refine vc_of_ew good hm [0,1,2,18,21] Tryz.func306 rfl (by kernel_rfl) (by kernel_rfl) rfl ?_
 simp[Tryz.f306]
 refine .of (wordOkI_ok _ hc.1) ?_
 simp[beqI]
 refine .of (fun h=>⟨h,within_ok _ _ _⟩) ?_
 simp[beqI]
 refine .of (fun h=>⟨h,valOkI_ok _⟩) ?_
 simp[beqI]
 grind[colOk,nullV,em,within,valOk]
def colAt (t:GTable) (s:ByteArray):Int:=idxF (fun c:GCol=>c.fName.toList==s.toList) t.fCols
theorem colAtS_ok (t:GTable) (s:ByteArray) (hl:okM t.fCols.length):VC Tryz.prog 333 [vTable t,str s] [(false,[(.s,.sc (.int .i64 (colAt t s)))])]:=by
 unfold okM at hl
 refine vc_of_ew good hm [0,1,2,4,8,9,10,11,6,5,18] Tryz.func333 rfl (by kernel_rfl) (by kernel_rfl) rfl ?_
 simp[Tryz.f333]
 refine ew_loop (fun E=> ∃i:Nat,i≤t.fCols.length∧anyT (fun c:GCol=>c.fName.toList==s.toList) t.fCols i=false∧E= {nt:=21,sl:= [(1,str s),(8,vColS t.fCols),(9,int .i64 t.fCols.length),(10,int .i64 i)],bx:= [],rt:= []}) (fun E=>t.fCols.length- (E.num 10).toNat) _ (Gh.kb _ [1,8,9,10] [] []) ⟨0,by omega,anyT_zero _ _,by simp⟩ ?_
 rintro E1 ⟨i,hi,hall,rfl⟩
 simp
 refine ⟨fun h=>⟨h,fun hp=>(idxF_at _ dCol h hall (by simpa using hp)).symm,fun hp=> .of _ (Gh.kb _ [1,8,9,10] [] []) ⟨i+1,by omega,by rw[anyT_succ _ dCol h,hall];simpa using hp, ?_⟩ ?_⟩,fun h=> ?_⟩
 ·simp[wrapS (show i<9223372036854775807 by omega)]
 ·simp[wrapS (show i<9223372036854775807 by omega)];omega
 ·have:i=t.fCols.length:=by omega
  subst this
  rw[anyT_all] at hall
  exact (idxF_no _ hall).symm
theorem colAt1_ok (c:GCol) (s:ByteArray):VC Tryz.prog 405 [vCol c,.p (.ps [.sc (.string s)])] [(false,[(.s,.sc (.bool (c.fName.toList==s.toList)))])]:=by
 refine vc_of_ew good hm [0,1,2,3] Tryz.func405 rfl (by kernel_rfl) (by kernel_rfl) rfl ?_
 simp[Tryz.f405]
theorem colAtI_ok (t:GTable) (s:ByteArray) (hl:okM t.fCols.length):VC Tryz.prog 339 [vTable t,str s] [(false,[(.s,.sc (.int .i64 (colAt t s)))])]:=by
 refine vc_of_ew good hm [0,1,2,3,4] Tryz.func339 rfl (by kernel_rfl) (by kernel_rfl) rfl ?_
 simp[Tryz.f339]
 refine .of (idxCol1_ok t.fCols _ _ (fun c:GCol=>c.fName.toList==s.toList) hl (fun x _=>colAt1_ok x s)) ?_
 simp[colAt]
end Go.Proofs.YteeolohhmfjafaaGreat
namespace Go.Proofs.YteeolohhmfjafaaGreat
open Go Go.Proofs Go.Sm
attribute [local simp] ti eStr eInt eByte eVal vVal vValS vRow eCol vCol vColS vStrS cDdl vDdl vStmt ePart vPart vPartS eBatch cBatch vBatch eTable cTable vTable vTableS vCat vByteS vPack
set_option linter.unusedVariables false
set_option linter.unusedSimpArgs false
set_option maxRecDepth 8000
theorem szMk (a:Array UInt8):(⟨a⟩:ByteArray).size=a.size:=rfl
end Go.Proofs.YteeolohhmfjafaaGreat
namespace Go.Proofs.YteeolohhmfjafaaGreat
open Go Go.Proofs Go.Sm
attribute [local simp] ti eStr eInt eByte eVal vVal vValS vRow eCol vCol vColS vStrS cDdl vDdl vStmt ePart vPart vPartS eBatch cBatch vBatch eTable cTable vTable vTableS vCat vByteS vPack
set_option linter.unusedVariables false
set_option linter.unusedSimpArgs false
set_option maxRecDepth 8000
def colsOkAt (t:GTable) (i:Nat):Bool:=colOk (t.fCols[i]?.getD dCol)&&decide (colAt t (t.fCols[i]?.getD dCol).fName=i)
def colsTo (t:GTable) (n:Nat):Bool:=(List.range n).all (colsOkAt t)
def lastK (t:GTable) (i:Nat):Int:=if i=0 then-1 else colAt t (t.fKeys[i-1]?.getD ⟨#[]⟩)
def keyOkAt (t:GTable) (i:Nat):Bool:=decide (lastK t i<colAt t (t.fKeys[i]?.getD ⟨#[]⟩))&& (t.fCols[(colAt t (t.fKeys[i]?.getD ⟨#[]⟩)).toNat]?.getD dCol).fNot
def keysTo (t:GTable) (n:Nat):Bool:=(List.range n).all (keyOkAt t)
def tableOk (t:GTable):Bool:=wordOk t.fName&& (within t.fCols.length 1 8&&decide (0<t.fKeys.length))&& (colsTo t t.fCols.length&&keysTo t t.fKeys.length)
theorem colsTo_no {t:GTable} {i:Nat} (hi:i<t.fCols.length) (h:colsOkAt t i=false):tableOk t=false:=by
 simp[tableOk,colsTo,rangeAll_no hi h]
theorem keysTo_no {t:GTable} {i:Nat} (hi:i<t.fKeys.length) (h:keyOkAt t i=false):tableOk t=false:=by
 simp[tableOk,keysTo,rangeAll_no hi h]
theorem lastK_succ (t:GTable) (i:Nat):lastK t (i+1)=colAt t (t.fKeys[i]?.getD ⟨#[]⟩):=by simp[lastK]
theorem lastK_ge (t:GTable) (i:Nat): -1≤lastK t i:=by
 unfold lastK
 split
 ·omega
 ·exact (idxF_bd _ _).1
theorem tableOkS_ok (t:GTable) (ht:okTable t):VC Tryz.prog 280 [vTable t] [(false,[(.s,.sc (.bool (tableOk t)))])]:=by
 obtain ⟨hn,hc,hk,_⟩:=ht
 have hcl:t.fCols.length≤9223372036854775807:=hc.1
 have hkl:t.fKeys.length≤9223372036854775807:=hk.1
 refine vc_of_ew good hm [0,1,2,30,32,33,34,35,4,3,49,5,52,53,54,55,7,8,72] Tryz.func280 rfl (by kernel_rfl) (by kernel_rfl) rfl ?_
 simp[Tryz.f280]
 refine .of (wordOkS_ok _ hn) ?_
 simp
 refine ⟨fun h=>by grind[tableOk,within],fun a1 a2 a3 a4=> ?_⟩
 refine ew_loop (fun E=> ∃i:Nat,i≤t.fCols.length∧colsTo t i=true∧E= {nt:=75,sl:= [(1,.p (.bx 1 0)),(32,vColS t.fCols),(33,int .i64 t.fCols.length),(34,int .i64 i)],bx:= [(1,cTable t)],rt:= []}) (fun E=>t.fCols.length- (E.num 34).toNat) _ (Gh.kb _ [1,32,33,34] [1] []) ⟨0,by omega,by simp[colsTo],by simp⟩ ?_
 rintro E1 ⟨i,hi,hall,rfl⟩
 simp
 refine ⟨fun h=>⟨h,.of (colOkS_ok _ (hc.2 _ (getD_mem dCol h))) ?_⟩,fun h=> ?_⟩
 ·simp
  refine .of (fun h=>⟨h,colAtS_ok _ _ hc.1⟩) ?_
  simp
  have hat:colsOkAt t i=(colOk (t.fCols[i]?.getD dCol)&&decide (colAt t (t.fCols[i]?.getD dCol).fName=i)):=rfl
  refine ⟨fun hb=>colsTo_no h (by grind),fun h1 h2=> .of _ (Gh.kb _ [1,32,33,34] [1] []) ⟨i+1,by omega, ?_, ?_⟩ ?_⟩
  ·rw[colsTo,rangeAll_succ];unfold colsTo at hall;grind
  ·simp[wrapS (show i<9223372036854775807 by omega)]
  ·simp[wrapS (show i<9223372036854775807 by omega)];omega
 ·have hil:i=t.fCols.length:=by omega
  subst hil
  refine ew_loop (fun E=> ∃i:Nat,i≤t.fKeys.length∧keysTo t i=true∧E= {nt:=75,sl:= [(1,.p (.bx 1 0)),(5,int .i64 (lastK t i)),(52,vStrS t.fKeys),(53,int .i64 t.fKeys.length),(54,int .i64 i)],bx:= [(1,cTable t)],rt:= []}) (fun E=>t.fKeys.length- (E.num 54).toNat) _ (Gh.kb _ [1,5,52,53,54] [1] []) ⟨0,by omega,by simp[keysTo],by simp[lastK]⟩ ?_
  rintro E1 ⟨j,hj,hkall,rfl⟩
  simp
  refine ⟨fun h=>⟨h,.of (colAtS_ok _ _ hc.1) ?_⟩,fun h=> ?_⟩
  ·simp
   have hb:=idxF_bd (fun c:GCol=>c.fName.toList==(t.fKeys[j]?.getD ⟨#[]⟩).toList) t.fCols
   have hlg:=lastK_ge t j
   rw[show idxF (fun c:GCol=>c.fName.toList==(t.fKeys[j]?.getD ⟨#[]⟩).toList) t.fCols=colAt t (t.fKeys[j]?.getD ⟨#[]⟩) from rfl] at hb
   have hat:keyOkAt t j=(decide (lastK t j<colAt t (t.fKeys[j]?.getD ⟨#[]⟩))&& (t.fCols[(colAt t (t.fKeys[j]?.getD ⟨#[]⟩)).toNat]?.getD dCol).fNot):=rfl
   refine ⟨fun h1=>⟨h1,by omega,by omega⟩,fun hb=>keysTo_no h (by grind),fun h1 h2=> .of _ (Gh.kb _ [1,5,52,53,54] [1] []) ⟨j+1,by omega, ?_, ?_⟩ ?_⟩
   ·rw[keysTo,rangeAll_succ];unfold keysTo at hkall;grind
   ·simp[wrapS (show j<9223372036854775807 by omega),lastK_succ]
   ·simp[wrapS (show j<9223372036854775807 by omega)];omega
  ·have hjl:j=t.fKeys.length:=by omega
   subst hjl
   grind[tableOk,within]
theorem tableOkI_ok (t:GTable) (ht:okTable t):VC Tryz.prog 299 [vTable t] [(false,[(.s,.sc (.bool (tableOk t)))])]:=by
 obtain ⟨hn,hc,hk,_⟩:=ht
 have hcl:t.fCols.length≤9223372036854775807:=hc.1
 have hkl:t.fKeys.length≤9223372036854775807:=hk.1
 refine vc_of_ew good hm [0,1,2,10,11,12,13,4,3,27,5,30,31,32,33,7,8,50] Tryz.func299 rfl (by kernel_rfl) (by kernel_rfl) rfl ?_
 simp[Tryz.f299]
 refine ew_loop (fun E=> ∃i:Nat,i≤t.fCols.length∧colsTo t i=true∧E= {nt:=68,sl:= [(1,.p (.bx 1 0)),(10,vColS t.fCols),(11,int .i64 t.fCols.length),(12,int .i64 i)],bx:= [(1,cTable t)],rt:= []}) (fun E=>t.fCols.length- (E.num 12).toNat) _ (Gh.kb _ [1,10,11,12] [1] []) ⟨0,by omega,by simp[colsTo],by simp⟩ ?_
 rintro E1 ⟨i,hi,hall,rfl⟩
 simp
 refine ⟨fun h=>⟨h,.of (colOkI_ok _ (hc.2 _ (getD_mem dCol h))) ?_⟩,fun h=> ?_⟩
 ·simp
  refine .of (fun h=>⟨h,colAtI_ok _ _ hc.1⟩) ?_
  simp
  have hat:colsOkAt t i=(colOk (t.fCols[i]?.getD dCol)&&decide (colAt t (t.fCols[i]?.getD dCol).fName=i)):=rfl
  refine ⟨fun hb=>colsTo_no h (by grind),fun h1 h2=> .of _ (Gh.kb _ [1,10,11,12] [1] []) ⟨i+1,by omega, ?_, ?_⟩ ?_⟩
  ·rw[colsTo,rangeAll_succ];unfold colsTo at hall;grind
  ·simp[wrapS (show i<9223372036854775807 by omega)]
  ·simp[wrapS (show i<9223372036854775807 by omega)];omega
 ·have hil:i=t.fCols.length:=by omega
  subst hil
  refine ew_loop (fun E=> ∃i:Nat,i≤t.fKeys.length∧keysTo t i=true∧E= {nt:=68,sl:= [(1,.p (.bx 1 0)),(5,int .i64 (lastK t i)),(30,vStrS t.fKeys),(31,int .i64 t.fKeys.length),(32,int .i64 i)],bx:= [(1,cTable t)],rt:= []}) (fun E=>t.fKeys.length- (E.num 32).toNat) _ (Gh.kb _ [1,5,30,31,32] [1] []) ⟨0,by omega,by simp[keysTo],by simp[lastK]⟩ ?_
  rintro E1 ⟨j,hj,hkall,rfl⟩
  simp
  refine ⟨fun h=>⟨h,.of (colAtI_ok _ _ hc.1) ?_⟩,fun h=> ?_⟩
  ·simp
   have hb:=idxF_bd (fun c:GCol=>c.fName.toList==(t.fKeys[j]?.getD ⟨#[]⟩).toList) t.fCols
   have hlg:=lastK_ge t j
   rw[show idxF (fun c:GCol=>c.fName.toList==(t.fKeys[j]?.getD ⟨#[]⟩).toList) t.fCols=colAt t (t.fKeys[j]?.getD ⟨#[]⟩) from rfl] at hb
   have hat:keyOkAt t j=(decide (lastK t j<colAt t (t.fKeys[j]?.getD ⟨#[]⟩))&& (t.fCols[(colAt t (t.fKeys[j]?.getD ⟨#[]⟩)).toNat]?.getD dCol).fNot):=rfl
   refine ⟨fun h1=>⟨h1,by omega,by omega⟩,fun hb=>keysTo_no h (by grind),fun h1 h2=> .of _ (Gh.kb _ [1,5,30,31,32] [1] []) ⟨j+1,by omega, ?_, ?_⟩ ?_⟩
   ·rw[keysTo,rangeAll_succ];unfold keysTo at hkall;grind
   ·simp[wrapS (show j<9223372036854775807 by omega),lastK_succ]
   ·simp[wrapS (show j<9223372036854775807 by omega)];omega
  ·have hjl:j=t.fKeys.length:=by omega
   subst hjl
   refine .of (wordOkI_ok _ hn) ?_
   simp
   refine .of (fun h=>⟨h,within_ok _ _ _⟩) ?_
   simp
   grind[tableOk,within]
end Go.Proofs.YteeolohhmfjafaaGreat
namespace Go.Proofs.YteeolohhmfjafaaGreat
open Go Go.Proofs Go.Sm
attribute [local simp] ti eStr eInt eByte eVal vVal vValS vRow eCol vCol vColS vStrS cDdl vDdl vStmt ePart vPart vPartS eBatch cBatch vBatch eTable cTable vTable vTableS vCat vByteS vPack
set_option linter.unusedVariables false
set_option linter.unusedSimpArgs false
set_option maxRecDepth 8000
def eqVal (a b:GVal):Bool:=a.fTy==b.fTy&& (a.fN==b.fN&&a.fS.toList==b.fS.toList)
def eqCol (a b:GCol):Bool:=a.fName.toList==b.fName.toList&& (a.fTy==b.fTy&& (a.fNot==b.fNot&& (a.fHas==b.fHas&&eqVal a.fDef b.fDef)))
def eqS (a b:ByteArray):Bool:=a.toList==b.toList
def eqTo {α:Type} (eq:α→α→Bool) (d:α) (a b:List α) (n:Nat):Bool:=(List.range n).all (fun i=>eq (a[i]?.getD d) (b[i]?.getD d))
def eqRows {α:Type} (eq:α→α→Bool) (d:α) (a b:List α):Bool:=decide ((a.length:Int)=b.length)&&eqTo eq d a b a.length
theorem eqTo_no {α:Type} {eq:α→α→Bool} {d:α} {a b:List α} {n i:Nat} (hi:i<n) (h:eq (a[i]?.getD d) (b[i]?.getD d)=false):eqTo eq d a b n=false:=rangeAll_no hi h
theorem eqTo_succ {α:Type} (eq:α→α→Bool) (d:α) (a b:List α) (n:Nat):eqTo eq d a b (n+1)=(eqTo eq d a b n&&eq (a[n]?.getD d) (b[n]?.getD d)):=rangeAll_succ _ _
theorem eqRows_nil {α:Type} (eq:α→α→Bool) (d:α) (a:List α):eqRows eq d a []=a.isEmpty:=by
 unfold eqRows
 cases a with
 |nil=>rfl
 |cons x r=>simp;omega
theorem eqRows_self {α:Type} (eq:α→α→Bool) (hr: ∀x,eq x x=true) (d:α) (a:List α):eqRows eq d a a=true:=by
 simp[eqRows,eqTo,hr]
theorem eqVal_self (x:GVal):eqVal x x=true:=by simp[eqVal]
theorem eqCol_self (x:GCol):eqCol x x=true:=by simp[eqCol,eqVal_self]
theorem equalStr_ok (a b:List ByteArray) (ha:okM a.length):VC Tryz.prog 308 [vStrS a,vStrS b] [(false,[(.s,.sc (.bool (eqRows eqS ⟨#[]⟩ a b)))])]:=by
 unfold okM at ha
 refine vc_of_ew good hm [0,1,4,10,12,13,14,5,24] Tryz.func308 rfl (by kernel_rfl) (by kernel_rfl) rfl ?_
 simp[Tryz.f308]
 refine ⟨fun h=>by simp[eqRows,h],fun hl=> ?_⟩
 refine ew_loop (fun E=> ∃i:Nat,i≤a.length∧eqTo eqS ⟨#[]⟩ a b i=true∧E= {nt:=26,sl:= [(0,vStrS a),(1,vStrS b),(12,int .i64 a.length),(13,int .i64 i)],bx:= [],rt:= []}) (fun E=>a.length- (E.num 13).toNat) _ (Gh.kb _ [0,1,12,13] [] []) ⟨0,by omega,by simp[eqTo],by simp⟩ ?_
 rintro E1 ⟨i,hi,hall,rfl⟩
 simp
 refine ⟨fun h=>⟨h,by omega, ?_⟩,fun h=> ?_⟩
 ·refine ⟨fun hp=> ?_,fun hp=> .of _ (Gh.kb _ [0,1,12,13] [] []) ⟨i+1,by omega, ?_, ?_⟩ ?_⟩
  ·have:=eqTo_no (eq:=eqS) (d:=⟨#[]⟩) (a:=a) (b:=b) h (by simpa [eqS] using hp)
   simp[eqRows,this]
  ·rw[eqTo_succ,hall];simpa [eqS] using hp
  ·simp[wrapS (show i<9223372036854775807 by omega)]
  ·simp[wrapS (show i<9223372036854775807 by omega)];omega
 ·have:i=a.length:=by omega
  subst this
  simp[eqRows,hall,hl]
theorem equalCol_ok (a b:List GCol) (ha:okM a.length):VC Tryz.prog 307 [vColS a,vColS b] [(false,[(.s,.sc (.bool (eqRows eqCol dCol a b)))])]:=by
 unfold okM at ha
 refine vc_of_ew good hm [0,1,4,10,12,13,14,5,24] Tryz.func307 rfl (by kernel_rfl) (by kernel_rfl) rfl ?_
 simp[Tryz.f307]
 refine ⟨fun h=>by simp[eqRows,h],fun hl=> ?_⟩
 refine ew_loop (fun E=> ∃i:Nat,i≤a.length∧eqTo eqCol dCol a b i=true∧E= {nt:=26,sl:= [(0,vColS a),(1,vColS b),(12,int .i64 a.length),(13,int .i64 i)],bx:= [],rt:= []}) (fun E=>a.length- (E.num 13).toNat) _ (Gh.kb _ [0,1,12,13] [] []) ⟨0,by omega,by simp[eqTo],by simp⟩ ?_
 rintro E1 ⟨i,hi,hall,rfl⟩
 simp
 have hat:eqCol (a[i]?.getD dCol) (b[i]?.getD dCol)=((a[i]?.getD dCol).fName.toList==(b[i]?.getD dCol).fName.toList&& ((a[i]?.getD dCol).fTy==(b[i]?.getD dCol).fTy&& ((a[i]?.getD dCol).fNot==(b[i]?.getD dCol).fNot&& ((a[i]?.getD dCol).fHas==(b[i]?.getD dCol).fHas&& ((a[i]?.getD dCol).fDef.fTy==(b[i]?.getD dCol).fDef.fTy&& ((a[i]?.getD dCol).fDef.fN==(b[i]?.getD dCol).fDef.fN&& (a[i]?.getD dCol).fDef.fS.toList==(b[i]?.getD dCol).fDef.fS.toList)))))):=rfl
 refine ⟨fun h=>⟨h,by omega, ?_⟩,fun h=> ?_⟩
 ·refine ⟨fun hb=> ?_,fun h1 h2 h3 h4 h5 h6 h7=> .of _ (Gh.kb _ [0,1,12,13] [] []) ⟨i+1,by omega,by rw[eqTo_succ,hall,hat];simp[h1,h2,h3,h4,h5,h6,h7], ?_⟩ ?_⟩
  ·have:=eqTo_no (eq:=eqCol) (d:=dCol) (a:=a) (b:=b) h (by rw[hat];grind)
   simp[eqRows,this]
  ·simp[wrapS (show i<9223372036854775807 by omega)]
  ·simp[wrapS (show i<9223372036854775807 by omega)];omega
 ·have:i=a.length:=by omega
  subst this
  simp[eqRows,hall,hl]
def eqDdl (a b:GDdl):Bool:=a.fKind==b.fKind&& (a.fTable.toList==b.fTable.toList&& (eqRows eqCol dCol a.fCols b.fCols&& (eqRows eqS ⟨#[]⟩ a.fKeys b.fKeys&& (a.fName.toList==b.fName.toList&&a.fTo.toList==b.fTo.toList))))
theorem equalDdl_ok (a b:GDdl) (ha:okDdl a):VC Tryz.prog 200 [vDdl a,vDdl b] [(false,[(.s,.sc (.bool (eqDdl a b)))])]:=by
 refine vc_of_ew good hm [0,1,2,3,4] Tryz.func200 rfl (by kernel_rfl) (by kernel_rfl) rfl ?_
 simp[Tryz.f200]
 refine .of (fun h=>⟨h,equalCol_ok a.fCols b.fCols ha.2.2.1.1⟩) ?_
 simp
 refine .of (fun h=>⟨h,equalStr_ok a.fKeys b.fKeys ha.2.2.2.1.1⟩) ?_
 simp
 grind[eqDdl]
def noDdl (d:GDdl):Bool:=decide (d.fKind=0)&& (em d.fTable&& (d.fCols.isEmpty&& (d.fKeys.isEmpty&& (em d.fName&&em d.fTo))))
theorem l04NoDdl_ok (d:GDdl):VC Tryz.prog 287 [vDdl d] [(false,[(.s,.sc (.bool (noDdl d)))])]:=by
 refine vc_of_ew good hm [0,1,2] Tryz.func287 rfl (by kernel_rfl) (by kernel_rfl) rfl ?_
 simp[Tryz.f287]
 grind[noDdl,em]
theorem eqDdl_nil (d:GDdl):eqDdl d dDdl=noDdl d:=by
 simp[eqDdl,dDdl,eqRows_nil,noDdl,em,beqI]
theorem copyTexts_ok (l:List ByteArray) (hl:l.length≤1048576):VC Tryz.prog 197 [vStrS l] [(false,mStrS l)]:=by
 refine vc_of_ew good hm [0,2] Tryz.func197 rfl (by kernel_rfl) (by kernel_rfl) rfl ?_
 simp[Tryz.f197,mStrS]
 omega
theorem copyTable_ok (t:GTable) (h1:t.fCols.length≤1048576) (h2:t.fKeys.length≤1048576):VC Tryz.prog 249 [vTable t] [(true,mTable t)]:=by
 refine vc_of_ew good hm [0,1,2] Tryz.func249 rfl (by kernel_rfl) (by kernel_rfl) rfl ?_
 simp[Tryz.f249,mTable]
 refine ⟨by omega,.of (copyTexts_ok _ h2) ?_⟩
 simp[mStrS]
def madeT (d:GDdl):GTable:=⟨d.fTable,d.fCols,d.fKeys⟩
theorem made_ok (d:GDdl) (h1:d.fCols.length≤1048576) (h2:d.fKeys.length≤1048576):VC Tryz.prog 305 [vDdl d] [(true,mTable (madeT d))]:=by
 refine vc_of_ew good hm [0,1,2] Tryz.func305 rfl (by kernel_rfl) (by kernel_rfl) rfl ?_
 simp[Tryz.f305,mTable]
 refine .of (copyTable_ok (madeT d) h1 h2) ?_
 simp[mTable,madeT]
def plain (d:GDdl):Bool:=d.fCols.isEmpty&&d.fKeys.isEmpty
def addOk (d:GDdl):Bool:=decide ((d.fCols.length:Int)=1)&& (colOk (d.fCols[0]?.getD dCol)&& ((d.fCols[0]?.getD dCol).fHas|| !(d.fCols[0]?.getD dCol).fNot))
def ddlOk (d:GDdl):Bool:=wordOk d.fTable&& ((decide (d.fKind=1)&& (tableOk (madeT d)&& (em d.fName&&em d.fTo)))||(decide (d.fKind=2)&& (plain d&& (em d.fName&&em d.fTo)))||(decide (d.fKind=3)&& (addOk d&& (d.fKeys.isEmpty&& (em d.fName&&em d.fTo))))||(decide (d.fKind=4)&& (plain d&& (wordOk d.fName&&em d.fTo)))||(decide (d.fKind=5)&& (plain d&& (wordOk d.fName&&wordOk d.fTo))))
theorem okMade {d:GDdl} (h:okDdl d):okTable (madeT d):=⟨h.2.1,h.2.2.1,h.2.2.2.1,trivial⟩
theorem okC0 {d:GDdl} (h:okDdl d) (hl:d.fCols.length=1):okCol (d.fCols[0]?.getD dCol):=h.2.2.1.2 _ (getD_mem dCol (by omega))
theorem ddlOkS_ok (d:GDdl) (hd:okDdl d):VC Tryz.prog 288 [vDdl d] [(false,[(.s,.sc (.bool (ddlOk d)))])]:=by
 refine vc_of_ew good hm [0,1,2,7,3,19,20,40,53,97,110] Tryz.func288 rfl (by kernel_rfl) (by kernel_rfl) rfl ?_
 simp[Tryz.f288]
 refine .of (wordOkS_ok _ hd.2.1) ?_
 simp[beqI]
 refine ⟨fun h=>by grind[ddlOk],fun hw=>⟨fun k1=> .of (fun h=>⟨h,tableOkS_ok (madeT d) (okMade hd)⟩) ?_,fun k1=>⟨fun k2=> ?_,fun k2=>⟨fun k3=>⟨fun h=>⟨h,by omega⟩,.of (fun h=>⟨h,colOkS_ok _ (okC0 hd (by omega))⟩) ?_⟩,fun k3=>⟨fun k4=> .of (fun h=>⟨h,wordOkS_ok _ hd.2.2.2.2.1⟩) ?_,fun k4=>⟨fun k5=> .of (fun h=>⟨h,wordOkS_ok _ hd.2.2.2.2.1⟩) ?_,fun k5=>by grind[ddlOk]⟩⟩⟩⟩⟩⟩
 ·simp
  grind[ddlOk,em]
 ·grind[ddlOk,em,plain]
 ·simp
  refine ⟨by grind,by grind,by grind, ?_⟩
  grind[ddlOk,em,addOk]
 ·simp
  grind[ddlOk,em,plain]
 ·simp
  refine .of (fun h=>⟨h,wordOkS_ok _ hd.2.2.2.2.2.1⟩) ?_
  simp
  grind[ddlOk,em,plain]
theorem ddlOkI_ok (d:GDdl) (hd:okDdl d) (h1:d.fCols.length≤1048576) (h2:d.fKeys.length≤1048576):VC Tryz.prog 198 [vDdl d] [(false,[(.s,.sc (.bool (ddlOk d)))])]:=by
 refine vc_of_ew good hm [0,1,2,7,3,14,15,30,35,71,84] Tryz.func198 rfl (by kernel_rfl) (by kernel_rfl) rfl ?_
 simp[Tryz.f198]
 refine .of (wordOkI_ok _ hd.2.1) ?_
 simp[beqI]
 refine ⟨fun h=>by grind[ddlOk],fun hw=>⟨fun k1=> .of (made_ok d h1 h2) ?_,fun k1=>⟨fun k2=> ?_,fun k2=>⟨fun k3=> ?_,fun k3=>⟨fun k4=> ?_,fun k4=>⟨fun k5=> ?_,fun k5=>by grind[ddlOk]⟩⟩⟩⟩⟩⟩
 ·simp[mTable]
  refine .of (tableOkI_ok (madeT d) (okMade hd)) ?_
  simp
  grind[ddlOk,em]
 ·refine .of (equalDdl_ok d ⟨d.fKind,d.fTable,[],[],⟨#[]⟩,⟨#[]⟩⟩ hd) ?_
  simp[eqDdl,eqRows_nil]
  grind[ddlOk,em,plain]
 ·refine .of (equalDdl_ok d ⟨d.fKind,d.fTable,d.fCols,[],⟨#[]⟩,⟨#[]⟩⟩ hd) ?_
  rw[show eqDdl d ⟨d.fKind,d.fTable,d.fCols,[],⟨#[]⟩,⟨#[]⟩⟩=(d.fKeys.isEmpty&& (em d.fName&&em d.fTo)) by simp[eqDdl,eqRows_nil,eqRows_self eqCol eqCol_self,em]]
  generalize hq:(d.fKeys.isEmpty&& (em d.fName&&em d.fTo))=q
  simp
  refine ⟨fun a b=>⟨⟨a,b⟩,by omega⟩,.of (fun h=>⟨h,colOkI_ok _ (okC0 hd (by omega))⟩) ?_⟩
  simp
  refine ⟨by grind,by grind,by grind, ?_⟩
  grind[ddlOk,em,addOk]
 ·refine .of (equalDdl_ok d ⟨d.fKind,d.fTable,[],[],d.fName,⟨#[]⟩⟩ hd) ?_
  rw[show eqDdl d ⟨d.fKind,d.fTable,[],[],d.fName,⟨#[]⟩⟩=(plain d&&em d.fTo) by simp[eqDdl,eqRows_nil,em,plain,Bool.and_assoc]]
  generalize hq:(plain d&&em d.fTo)=q
  simp
  refine .of (fun h=>⟨h,wordOkI_ok _ hd.2.2.2.2.1⟩) ?_
  simp
  grind[ddlOk,em]
 ·refine .of (equalDdl_ok d ⟨d.fKind,d.fTable,[],[],d.fName,d.fTo⟩ hd) ?_
  rw[show eqDdl d ⟨d.fKind,d.fTable,[],[],d.fName,d.fTo⟩=plain d by simp[eqDdl,eqRows_nil,em,plain,Bool.and_assoc]]
  generalize hq:plain d=q
  simp
  refine .of (fun h=>⟨h,wordOkI_ok _ hd.2.2.2.2.1⟩) ?_
  simp
  refine .of (fun h=>⟨h,wordOkI_ok _ hd.2.2.2.2.2.1⟩) ?_
  simp
  grind[ddlOk,em]
end Go.Proofs.YteeolohhmfjafaaGreat
namespace Go.Proofs.YteeolohhmfjafaaGreat
open Go Go.Proofs Go.Sm
attribute [local simp] ti eStr eInt eByte eVal vVal vValS vRow eCol vCol vColS vStrS cDdl vDdl vStmt ePart vPart vPartS eBatch cBatch vBatch eTable cTable vTable vTableS vCat vByteS vPack
set_option linter.unusedVariables false
set_option linter.unusedSimpArgs false
set_option maxRecDepth 8000
theorem ba_eq {a b:ByteArray} (h:a.toList=b.toList):a=b:=by
 have:=beq_toListBytes a b
 rw[h] at this
 simp only[BEq.rfl] at this
 obtain ⟨x⟩:=a
 obtain ⟨y⟩:=b
 have h2:(x==y)=true:=this
 rw[eq_of_beq h2]
def valsOk (l:List GVal):Bool:=within l.length 1 8&& !l.any (fun v=> !valOk v)
theorem areVals1_ok (v:GVal):VC Tryz.prog 310 [vVal v] [(false,[(.s,.sc (.bool (!valOk v)))])]:=by
 refine vc_of_ew good hm [0,1,2] Tryz.func310 rfl (by kernel_rfl) (by kernel_rfl) rfl ?_
 simp[Tryz.f310]
 refine .of (valOkI_ok v) ?_
 simp
theorem areVals_ok (l:List GVal) (hl:okM l.length):VC Tryz.prog 201 [vValS l] [(false,[(.s,.sc (.bool (valsOk l)))])]:=by
 refine vc_of_ew good hm [0,2] Tryz.func201 rfl (by kernel_rfl) (by kernel_rfl) rfl ?_
 simp[Tryz.f201]
 refine .of (within_ok _ _ _) ?_
 simp
 refine .of (fun h=>⟨h,hasVal0_ok l _ (fun v=> !valOk v) hl (fun x _=>areVals1_ok x)⟩) ?_
 simp[valsOk]
theorem l04Vals_ok (l:List GVal) (hl:okM l.length):VC Tryz.prog 286 [vValS l] [(false,[(.s,.sc (.bool (valsOk l)))])]:=by
 unfold okM at hl
 refine vc_of_ew good hm [0,2,5,6,7,8,4,13] Tryz.func286 rfl (by kernel_rfl) (by kernel_rfl) rfl ?_
 simp[Tryz.f286]
 refine ew_loop (fun E=> ∃i:Nat,i≤l.length∧anyT (fun v=> !valOk v) l i=false∧E= {nt:=23,sl:= [(0,vValS l),(5,vValS l),(6,int .i64 l.length),(7,int .i64 i)],bx:= [],rt:= []}) (fun E=>l.length- (E.num 7).toNat) _ (Gh.kb _ [0,5,6,7] [] []) ⟨0,by omega,anyT_zero _ _,by simp⟩ ?_
 rintro E1 ⟨i,hi,hall,rfl⟩
 simp
 refine ⟨fun h=>⟨h,.of (valOkS_ok _) ?_⟩,fun h=> ?_⟩
 ·simp
  refine ⟨fun hp=> ?_,fun hp=> .of _ (Gh.kb _ [0,5,6,7] [] []) ⟨i+1,by omega,by rw[anyT_succ _ dVal h,hall,hp];rfl, ?_⟩ ?_⟩
  ·have:l.any (fun v=> !valOk v)=true:=List.any_eq_true.2 ⟨_,getD_mem dVal h,by rw[hp];rfl⟩
   simp only[valsOk,this,Bool.not_true,Bool.and_false]
  ·simp[wrapS (show i<9223372036854775807 by omega)]
  ·simp[wrapS (show i<9223372036854775807 by omega)];omega
 ·have:i=l.length:=by omega
  subst this
  rw[anyT_all] at hall
  simp only[valsOk,hall,within]
  grind
def stmtOk (s:GStmt):Bool:=wordOk s.fTable&& ((decide (s.fKind=1)&& (s.fKey.isEmpty&&valsOk s.fRow.fVals&&noDdl s.fDdl))||(decide (s.fKind=2)&& (valsOk s.fKey&&valsOk s.fRow.fVals&&noDdl s.fDdl))||(decide (s.fKind=3)&& (valsOk s.fKey&&s.fRow.fVals.isEmpty&&noDdl s.fDdl))||(decide (s.fKind=4)&& (s.fKey.isEmpty&&s.fRow.fVals.isEmpty&&noDdl s.fDdl))||(decide (s.fKind=5)&& (s.fKey.isEmpty&&s.fRow.fVals.isEmpty&&ddlOk s.fDdl&&s.fDdl.fTable.toList==s.fTable.toList)))
theorem ddlOk_word {d:GDdl} (h:ddlOk d=true):wordOk d.fTable=true:=by
 unfold ddlOk at h
 cases hw:wordOk d.fTable with
 |true=>rfl
 |false=>rw[hw] at h;simp at h
theorem stmtOkS_ok (s:GStmt) (hs:okStmt s):VC Tryz.prog 183 [vStmt s] [(false,[(.s,.sc (.bool (stmtOk s)))])]:=by
 obtain ⟨_,hn,hk,hr,hd,_⟩:=hs
 refine vc_of_ew good hm [0,1,2,3,4,17,19,20,34,50,63,74] Tryz.func183 rfl (by kernel_rfl) (by kernel_rfl) rfl ?_
 simp[Tryz.f183]
 refine .of (wordOkS_ok _ hn) ?_
 simp[beqI]
 refine ⟨fun h=>by grind[stmtOk],fun hw=>⟨fun k1=> .of (fun h=>⟨h,l04Vals_ok _ hr.1.1⟩) ?_,fun k1=>⟨fun k2=> .of (l04Vals_ok _ hk.1) ?_,fun k2=>⟨fun k3=> .of (l04Vals_ok _ hk.1) ?_,fun k3=>⟨fun k4=> ?_,fun k4=>⟨fun k5=> ?_,fun k5=>by grind[stmtOk]⟩⟩⟩⟩⟩⟩
 ·simp
  refine .of (fun h=>⟨h,l04NoDdl_ok _⟩) ?_
  simp
  grind[stmtOk]
 ·simp
  refine .of (fun h=>⟨h,l04Vals_ok _ hr.1.1⟩) ?_
  simp
  refine .of (fun h=>⟨h,l04NoDdl_ok _⟩) ?_
  simp
  grind[stmtOk]
 ·simp
  refine .of (fun h=>⟨h,l04NoDdl_ok _⟩) ?_
  simp
  grind[stmtOk]
 ·refine .of (fun h=>⟨h,l04NoDdl_ok _⟩) ?_
  simp
  grind[stmtOk]
 ·refine .of (fun h=>⟨h,ddlOkS_ok _ hd⟩) ?_
  simp
  grind[stmtOk]
theorem stmtOkI_ok (s:GStmt) (hs:okStmt s) (h1:s.fDdl.fCols.length≤1048576) (h2:s.fDdl.fKeys.length≤1048576):VC Tryz.prog 95 [vStmt s] [(false,[(.s,.sc (.bool (stmtOk s)))])]:=by
 obtain ⟨_,hn,hk,hr,hd,_⟩:=hs
 refine vc_of_ew good hm [0,1,2,5,40,42,43,55,66,78] Tryz.func95 rfl (by kernel_rfl) (by kernel_rfl) rfl ?_
 simp[Tryz.f95,beqI]
 refine ⟨fun k5=> .of (ddlOkI_ok _ hd h1 h2) ?_,fun k5=> .of (wordOkI_ok _ hn) ?_⟩
 ·simp
  have hw:s.fTable.toList=s.fDdl.fTable.toList→ddlOk s.fDdl=true→wordOk s.fTable=true:=fun e h=>by
   rw[ba_eq e]
   exact ddlOk_word h
  have he:(s.fRow.fVals.length:Int)=0↔s.fRow.fVals= []:=by simp
  grind[stmtOk]
 ·simp[beqI]
  refine .of (fun h=>⟨h,equalDdl_ok s.fDdl dDdl hd⟩) ?_
  rw[eqDdl_nil]
  simp[beqI]
  refine ⟨fun h=>by grind[stmtOk],fun hw hnd=>⟨fun k1=> .of (fun h=>⟨h,areVals_ok _ hr.1.1⟩) ?_,fun k1=>⟨fun k2=> .of (areVals_ok _ hk.1) ?_,fun k2=>⟨fun k3=> .of (areVals_ok _ hk.1) ?_,fun k3=>⟨fun k4=> ?_,fun k4=>by grind[stmtOk]⟩⟩⟩⟩⟩
  ·simp
   grind[stmtOk]
  ·simp
   refine .of (fun h=>⟨h,areVals_ok _ hr.1.1⟩) ?_
   simp
   grind[stmtOk]
  ·simp
   have he:(s.fRow.fVals.length:Int)=0↔s.fRow.fVals= []:=by simp
   grind[stmtOk]
  ·have he:(s.fRow.fVals.length:Int)=0↔s.fRow.fVals= []:=by simp
   grind[stmtOk]
end Go.Proofs.YteeolohhmfjafaaGreat
namespace Go.Proofs.YteeolohhmfjafaaGreat
open Go Go.Proofs Go.Sm
attribute [local simp] ti eStr eInt eByte eVal vVal vValS vRow eCol vCol vColS vStrS cDdl vDdl vStmt ePart vPart vPartS eBatch cBatch vBatch eTable cTable vTable vTableS vCat vByteS vPack
set_option linter.unusedVariables false
set_option linter.unusedSimpArgs false
set_option maxRecDepth 8000
end Go.Proofs.YteeolohhmfjafaaGreat
namespace Go.Proofs.YteeolohhmfjafaaGreat
open Go Go.Proofs Go.Sm
attribute [local simp] ti eStr eInt eByte eVal vVal vValS vRow eCol vCol vColS vStrS cDdl vDdl vStmt ePart vPart vPartS eBatch cBatch vBatch eTable cTable vTable vTableS vCat vByteS vPack
set_option linter.unusedVariables false
set_option linter.unusedSimpArgs false
set_option maxRecDepth 8000
end Go.Proofs.YteeolohhmfjafaaGreat
