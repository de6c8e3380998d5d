import Derived.Test.YteeolohhmfjafaaGreatG4
import Derived.Test.YteeolohhmfjafaaGreatProg
import Derived.KernelRfl
set_option maxHeartbeats 8000000
set_option maxRecDepth 8000
namespace Go.Proofs.YteeolohhmfjafaaGreat
open Go Go.Proofs Go.Sm
def ti:TT
 |2=> {ok:=true,desc:= .int .i64,sz:=1,by_:=8,zv:= .int .i64 0,z:= [.sc (.int .i64 0)]}
 |3=> {ok:=true,desc:= .int .i64,sz:=1,by_:=8,zv:= .int .i64 0,z:= [.sc (.int .i64 0)]}
 |4=> {ok:=true,desc:= .bool,sz:=1,by_:=1,zv:= .bool false,z:= [.sc (.bool false)]}
 |5=> {ok:=true,desc:= .int .u8,sz:=1,by_:=1,zv:= .int .u8 0,z:= [.sc (.int .u8 0)]}
 |9=> {ok:=true,desc:= .string,sz:=1,by_:=16,zv:= .string ⟨#[]⟩,z:= [.sc (.string ⟨#[]⟩)]}
 |21=> {ok:=true,desc:= .int .i32,sz:=1,by_:=4,zv:= .int .i32 0,z:= [.sc (.int .i32 0)]}
 |22=> {ok:=true,desc:= .slice 308,sz:=1,by_:=24,zv:= .slice none 0 0,z:= [.ls [.sc (.string ⟨#[]⟩),.ls [.sc (.string ⟨#[]⟩),.sc (.int .i64 0),.sc (.bool false),.sc (.bool false),.sc (.int .i64 0),.sc (.int .i64 0),.sc (.string ⟨#[]⟩)] [],.ls [.sc (.string ⟨#[]⟩)] []] []],ms:= [.o 308 (fun _=> [.s,.o 367 (fun _=> [.s,.s,.s,.s,.s,.s,.s]),.o 9 (fun _=> [.s])])]}
 |24=> {ok:=true,desc:= .struct #[fld "Tables" 22 0 0 ""],sz:=1,by_:=24,zv:= .agg #[.slice none 0 0],z:= [.ls [.sc (.string ⟨#[]⟩),.ls [.sc (.string ⟨#[]⟩),.sc (.int .i64 0),.sc (.bool false),.sc (.bool false),.sc (.int .i64 0),.sc (.int .i64 0),.sc (.string ⟨#[]⟩)] [],.ls [.sc (.string ⟨#[]⟩)] []] []],ms:= [.o 308 (fun _=> [.s,.o 367 (fun _=> [.s,.s,.s,.s,.s,.s,.s]),.o 9 (fun _=> [.s])])]}
 |25=> {ok:=true,desc:= .slice 224,sz:=1,by_:=24,zv:= .slice none 0 0,z:= [.ls [.ls [.ls [.sc (.int .i64 0),.sc (.int .i64 0),.sc (.string ⟨#[]⟩)] []] []] []],ms:= [.o 224 (fun _=> [.o 141 (fun _=> [.o 311 (fun _=> [.s,.s,.s])])])]}
 |27=> {ok:=true,desc:= .struct #[fld "Cat" 24 0 0 "",fld "Data" 25 1 24 ""],sz:=2,by_:=48,zv:= .agg #[.slice none 0 0,.slice none 0 0],z:= [.ls [.sc (.string ⟨#[]⟩),.ls [.sc (.string ⟨#[]⟩),.sc (.int .i64 0),.sc (.bool false),.sc (.bool false),.sc (.int .i64 0),.sc (.int .i64 0),.sc (.string ⟨#[]⟩)] [],.ls [.sc (.string ⟨#[]⟩)] []] [],.ls [.ls [.ls [.sc (.int .i64 0),.sc (.int .i64 0),.sc (.string ⟨#[]⟩)] []] []] []],ms:= [.o 308 (fun _=> [.s,.o 367 (fun _=> [.s,.s,.s,.s,.s,.s,.s]),.o 9 (fun _=> [.s])]),.o 224 (fun _=> [.o 141 (fun _=> [.o 311 (fun _=> [.s,.s,.s])])])]}
 |28=> {ok:=true,desc:= .slice 146,sz:=1,by_:=24,zv:= .slice none 0 0,z:= [.ls [.sc (.int .i64 0),.sc (.string ⟨#[]⟩),.ls [.sc (.int .i64 0),.sc (.int .i64 0),.sc (.string ⟨#[]⟩)] [],.ls [.sc (.int .i64 0),.sc (.int .i64 0),.sc (.string ⟨#[]⟩)] [],.sc (.int .i64 0),.sc (.string ⟨#[]⟩),.ls [.sc (.string ⟨#[]⟩),.sc (.int .i64 0),.sc (.bool false),.sc (.bool false),.sc (.int .i64 0),.sc (.int .i64 0),.sc (.string ⟨#[]⟩)] [],.ls [.sc (.string ⟨#[]⟩)] [],.sc (.string ⟨#[]⟩),.sc (.string ⟨#[]⟩)] []],ms:= [.o 146 (fun _=> [.s,.s,.o 311 (fun _=> [.s,.s,.s]),.o 311 (fun _=> [.s,.s,.s]),.s,.s,.o 367 (fun _=> [.s,.s,.s,.s,.s,.s,.s]),.o 9 (fun _=> [.s]),.s,.s])]}
 |31=> {ok:=true,desc:= .slice 150,sz:=1,by_:=24,zv:= .slice none 0 0,z:= [.ls [.sc (.int .i64 0),.sc (.string ⟨#[]⟩),.ls [.sc (.int .i64 0),.sc (.int .i64 0),.sc (.string ⟨#[]⟩)] [],.ls [.sc (.int .i64 0),.sc (.int .i64 0),.sc (.string ⟨#[]⟩)] [],.sc (.int .i64 0),.sc (.string ⟨#[]⟩),.ls [.sc (.string ⟨#[]⟩),.sc (.int .i64 0),.sc (.bool false),.sc (.bool false),.sc (.int .i64 0),.sc (.int .i64 0),.sc (.string ⟨#[]⟩)] [],.ls [.sc (.string ⟨#[]⟩)] [],.sc (.string ⟨#[]⟩),.sc (.string ⟨#[]⟩),.ls [.sc (.string ⟨#[]⟩)] [],.ls [.sc (.string ⟨#[]⟩)] []] []],ms:= [.o 150 (fun _=> [.s,.s,.o 234 (fun _=> [.s,.s,.s]),.o 234 (fun _=> [.s,.s,.s]),.s,.s,.o 236 (fun _=> [.s,.s,.s,.s,.s,.s,.s]),.o 9 (fun _=> [.s]),.s,.s,.o 9 (fun _=> [.s]),.o 9 (fun _=> [.s])])]}
 |34=> {ok:=true,desc:= .slice 201,sz:=1,by_:=24,zv:= .slice none 0 0,z:= [.ls [.sc (.string ⟨#[]⟩),.ls [.sc (.string ⟨#[]⟩),.sc (.int .i64 0),.sc (.bool false),.sc (.bool false),.sc (.int .i64 0),.sc (.int .i64 0),.sc (.string ⟨#[]⟩)] [],.ls [.sc (.string ⟨#[]⟩)] []] []],ms:= [.o 201 (fun _=> [.s,.o 236 (fun _=> [.s,.s,.s,.s,.s,.s,.s]),.o 9 (fun _=> [.s])])]}
 |36=> {ok:=true,desc:= .struct #[fld "Tables" 34 0 0 ""],sz:=1,by_:=24,zv:= .agg #[.slice none 0 0],z:= [.ls [.sc (.string ⟨#[]⟩),.ls [.sc (.string ⟨#[]⟩),.sc (.int .i64 0),.sc (.bool false),.sc (.bool false),.sc (.int .i64 0),.sc (.int .i64 0),.sc (.string ⟨#[]⟩)] [],.ls [.sc (.string ⟨#[]⟩)] []] []],ms:= [.o 201 (fun _=> [.s,.o 236 (fun _=> [.s,.s,.s,.s,.s,.s,.s]),.o 9 (fun _=> [.s])])]}
 |37=> {ok:=true,desc:= .slice 205,sz:=1,by_:=24,zv:= .slice none 0 0,z:= [.ls [.ls [.ls [.sc (.int .i64 0),.sc (.int .i64 0),.sc (.string ⟨#[]⟩)] []] []] []],ms:= [.o 205 (fun _=> [.o 120 (fun _=> [.o 234 (fun _=> [.s,.s,.s])])])]}
 |39=> {ok:=true,desc:= .struct #[fld "Cat" 36 0 0 "",fld "Data" 37 1 24 ""],sz:=2,by_:=48,zv:= .agg #[.slice none 0 0,.slice none 0 0],z:= [.ls [.sc (.string ⟨#[]⟩),.ls [.sc (.string ⟨#[]⟩),.sc (.int .i64 0),.sc (.bool false),.sc (.bool false),.sc (.int .i64 0),.sc (.int .i64 0),.sc (.string ⟨#[]⟩)] [],.ls [.sc (.string ⟨#[]⟩)] []] [],.ls [.ls [.ls [.sc (.int .i64 0),.sc (.int .i64 0),.sc (.string ⟨#[]⟩)] []] []] []],ms:= [.o 201 (fun _=> [.s,.o 236 (fun _=> [.s,.s,.s,.s,.s,.s,.s]),.o 9 (fun _=> [.s])]),.o 205 (fun _=> [.o 120 (fun _=> [.o 234 (fun _=> [.s,.s,.s])])])]}
 |41=> {ok:=true,desc:= .slice 126,sz:=1,by_:=24,zv:= .slice none 0 0,z:= [.ls [.sc (.int .i64 0),.sc (.string ⟨#[]⟩),.ls [.sc (.int .i64 0),.sc (.int .i64 0),.sc (.string ⟨#[]⟩)] [],.ls [.sc (.int .i64 0),.sc (.int .i64 0),.sc (.string ⟨#[]⟩)] [],.sc (.int .i64 0),.sc (.string ⟨#[]⟩),.ls [.sc (.string ⟨#[]⟩),.sc (.int .i64 0),.sc (.bool false),.sc (.bool false),.sc (.int .i64 0),.sc (.int .i64 0),.sc (.string ⟨#[]⟩)] [],.ls [.sc (.string ⟨#[]⟩)] [],.sc (.string ⟨#[]⟩),.sc (.string ⟨#[]⟩)] []],ms:= [.o 126 (fun _=> [.s,.s,.o 234 (fun _=> [.s,.s,.s]),.o 234 (fun _=> [.s,.s,.s]),.s,.s,.o 236 (fun _=> [.s,.s,.s,.s,.s,.s,.s]),.o 9 (fun _=> [.s]),.s,.s])]}
 |50=> {ok:=true,desc:= .slice 171,sz:=1,by_:=24,zv:= .slice none 0 0,z:= [.ls [.sc (.int .i64 0),.sc (.int .i64 0),.sc (.int .i64 0),.sc (.string ⟨#[]⟩),.ls [.sc (.int .i64 0),.sc (.int .i64 0),.sc (.string ⟨#[]⟩)] [],.ls [.sc (.int .i64 0),.sc (.int .i64 0),.sc (.string ⟨#[]⟩)] [],.sc (.int .i64 0),.sc (.string ⟨#[]⟩),.ls [.sc (.string ⟨#[]⟩),.sc (.int .i64 0),.sc (.bool false),.sc (.bool false),.sc (.int .i64 0),.sc (.int .i64 0),.sc (.string ⟨#[]⟩)] [],.ls [.sc (.string ⟨#[]⟩)] [],.sc (.string ⟨#[]⟩),.sc (.string ⟨#[]⟩)] []],ms:= [.o 171 (fun _=> [.s,.s,.s,.s,.o 311 (fun _=> [.s,.s,.s]),.o 311 (fun _=> [.s,.s,.s]),.s,.s,.o 367 (fun _=> [.s,.s,.s,.s,.s,.s,.s]),.o 9 (fun _=> [.s]),.s,.s])]}
 |52=> {ok:=true,desc:= .slice 62,sz:=1,by_:=24,zv:= .slice none 0 0,z:= [.ls [.sc (.int .i64 0),.sc (.int .i64 0),.ls [.sc (.int .i64 0),.sc (.string ⟨#[]⟩),.ls [.sc (.int .i64 0),.sc (.int .i64 0),.sc (.string ⟨#[]⟩)] [],.ls [.sc (.int .i64 0),.sc (.int .i64 0),.sc (.string ⟨#[]⟩)] [],.sc (.int .i64 0),.sc (.string ⟨#[]⟩),.ls [.sc (.string ⟨#[]⟩),.sc (.int .i64 0),.sc (.bool false),.sc (.bool false),.sc (.int .i64 0),.sc (.int .i64 0),.sc (.string ⟨#[]⟩)] [],.ls [.sc (.string ⟨#[]⟩)] [],.sc (.string ⟨#[]⟩),.sc (.string ⟨#[]⟩),.ls [.sc (.string ⟨#[]⟩)] [],.ls [.sc (.string ⟨#[]⟩)] []] []] []],ms:= [.o 62 (fun _=> [.s,.s,.o 150 (fun _=> [.s,.s,.o 234 (fun _=> [.s,.s,.s]),.o 234 (fun _=> [.s,.s,.s]),.s,.s,.o 236 (fun _=> [.s,.s,.s,.s,.s,.s,.s]),.o 9 (fun _=> [.s]),.s,.s,.o 9 (fun _=> [.s]),.o 9 (fun _=> [.s])])])]}
 |54=> {ok:=true,desc:= .slice 128,sz:=1,by_:=24,zv:= .slice none 0 0,z:= [.ls [.sc (.int .i64 0),.sc (.int .i64 0),.sc (.int .i64 0),.sc (.string ⟨#[]⟩),.ls [.sc (.int .i64 0),.sc (.int .i64 0),.sc (.string ⟨#[]⟩)] [],.ls [.sc (.int .i64 0),.sc (.int .i64 0),.sc (.string ⟨#[]⟩)] [],.sc (.int .i64 0),.sc (.string ⟨#[]⟩),.ls [.sc (.string ⟨#[]⟩),.sc (.int .i64 0),.sc (.bool false),.sc (.bool false),.sc (.int .i64 0),.sc (.int .i64 0),.sc (.string ⟨#[]⟩)] [],.ls [.sc (.string ⟨#[]⟩)] [],.sc (.string ⟨#[]⟩),.sc (.string ⟨#[]⟩)] []],ms:= [.o 128 (fun _=> [.s,.s,.s,.s,.o 234 (fun _=> [.s,.s,.s]),.o 234 (fun _=> [.s,.s,.s]),.s,.s,.o 236 (fun _=> [.s,.s,.s,.s,.s,.s,.s]),.o 9 (fun _=> [.s]),.s,.s])]}
 |62=> {ok:=true,desc:= .struct #[fld "Lsn" 3 0 0 "",fld "Prev" 3 1 8 "",fld "Parts" 31 2 16 ""],sz:=3,by_:=40,zv:= .agg #[.int .i64 0,.int .i64 0,.slice none 0 0],z:= [.sc (.int .i64 0),.sc (.int .i64 0),.ls [.sc (.int .i64 0),.sc (.string ⟨#[]⟩),.ls [.sc (.int .i64 0),.sc (.int .i64 0),.sc (.string ⟨#[]⟩)] [],.ls [.sc (.int .i64 0),.sc (.int .i64 0),.sc (.string ⟨#[]⟩)] [],.sc (.int .i64 0),.sc (.string ⟨#[]⟩),.ls [.sc (.string ⟨#[]⟩),.sc (.int .i64 0),.sc (.bool false),.sc (.bool false),.sc (.int .i64 0),.sc (.int .i64 0),.sc (.string ⟨#[]⟩)] [],.ls [.sc (.string ⟨#[]⟩)] [],.sc (.string ⟨#[]⟩),.sc (.string ⟨#[]⟩),.ls [.sc (.string ⟨#[]⟩)] [],.ls [.sc (.string ⟨#[]⟩)] []] []],ms:= [.s,.s,.o 150 (fun _=> [.s,.s,.o 234 (fun _=> [.s,.s,.s]),.o 234 (fun _=> [.s,.s,.s]),.s,.s,.o 236 (fun _=> [.s,.s,.s,.s,.s,.s,.s]),.o 9 (fun _=> [.s]),.s,.s,.o 9 (fun _=> [.s]),.o 9 (fun _=> [.s])])]}
 |68=> {ok:=true,desc:= .slice 277,sz:=1,by_:=24,zv:= .slice none 0 0,z:= [.ls [.sc (.int .i64 0),.sc (.string ⟨#[]⟩),.ls [.sc (.int .i64 0),.sc (.int .i64 0),.sc (.string ⟨#[]⟩)] [],.ls [.sc (.int .i64 0),.sc (.int .i64 0),.sc (.string ⟨#[]⟩)] [],.sc (.int .i64 0),.sc (.string ⟨#[]⟩),.ls [.sc (.string ⟨#[]⟩),.sc (.int .i64 0),.sc (.bool false),.sc (.bool false),.sc (.int .i64 0),.sc (.int .i64 0),.sc (.string ⟨#[]⟩)] [],.ls [.sc (.string ⟨#[]⟩)] [],.sc (.string ⟨#[]⟩),.sc (.string ⟨#[]⟩),.ls [.sc (.string ⟨#[]⟩)] [],.ls [.sc (.string ⟨#[]⟩)] []] []],ms:= [.o 277 (fun _=> [.s,.s,.o 311 (fun _=> [.s,.s,.s]),.o 311 (fun _=> [.s,.s,.s]),.s,.s,.o 367 (fun _=> [.s,.s,.s,.s,.s,.s,.s]),.o 9 (fun _=> [.s]),.s,.s,.o 9 (fun _=> [.s]),.o 9 (fun _=> [.s])])]}
 |70=> {ok:=true,desc:= .struct #[fld "Lsn" 3 0 0 "",fld "Prev" 3 1 8 "",fld "Parts" 68 2 16 ""],sz:=3,by_:=40,zv:= .agg #[.int .i64 0,.int .i64 0,.slice none 0 0],z:= [.sc (.int .i64 0),.sc (.int .i64 0),.ls [.sc (.int .i64 0),.sc (.string ⟨#[]⟩),.ls [.sc (.int .i64 0),.sc (.int .i64 0),.sc (.string ⟨#[]⟩)] [],.ls [.sc (.int .i64 0),.sc (.int .i64 0),.sc (.string ⟨#[]⟩)] [],.sc (.int .i64 0),.sc (.string ⟨#[]⟩),.ls [.sc (.string ⟨#[]⟩),.sc (.int .i64 0),.sc (.bool false),.sc (.bool false),.sc (.int .i64 0),.sc (.int .i64 0),.sc (.string ⟨#[]⟩)] [],.ls [.sc (.string ⟨#[]⟩)] [],.sc (.string ⟨#[]⟩),.sc (.string ⟨#[]⟩),.ls [.sc (.string ⟨#[]⟩)] [],.ls [.sc (.string ⟨#[]⟩)] []] []],ms:= [.s,.s,.o 277 (fun _=> [.s,.s,.o 311 (fun _=> [.s,.s,.s]),.o 311 (fun _=> [.s,.s,.s]),.s,.s,.o 367 (fun _=> [.s,.s,.s,.s,.s,.s,.s]),.o 9 (fun _=> [.s]),.s,.s,.o 9 (fun _=> [.s]),.o 9 (fun _=> [.s])])]}
 |72=> {ok:=true,desc:= .slice 5,sz:=1,by_:=24,zv:= .slice none 0 0,z:= [.ls [.sc (.int .u8 0)] []],ms:= [.o 5 (fun _=> [.s])]}
 |74=> {ok:=true,desc:= .struct #[fld "Bytes" 72 0 0 ""],sz:=1,by_:=24,zv:= .agg #[.slice none 0 0],z:= [.ls [.sc (.int .u8 0)] []],ms:= [.o 5 (fun _=> [.s])]}
 |81=> {ok:=true,desc:= .slice 74,sz:=1,by_:=24,zv:= .slice none 0 0,z:= [.ls [.ls [.sc (.int .u8 0)] []] []],ms:= [.o 74 (fun _=> [.o 5 (fun _=> [.s])])]}
 |87=> {ok:=true,desc:= .struct #[fld "Base" 3 0 0 "",fld "Db" 27 1 8 "",fld "Recs" 50 3 56 ""],sz:=4,by_:=80,zv:= .agg #[.int .i64 0,.slice none 0 0,.slice none 0 0,.slice none 0 0],z:= [.sc (.int .i64 0),.ls [.sc (.string ⟨#[]⟩),.ls [.sc (.string ⟨#[]⟩),.sc (.int .i64 0),.sc (.bool false),.sc (.bool false),.sc (.int .i64 0),.sc (.int .i64 0),.sc (.string ⟨#[]⟩)] [],.ls [.sc (.string ⟨#[]⟩)] []] [],.ls [.ls [.ls [.sc (.int .i64 0),.sc (.int .i64 0),.sc (.string ⟨#[]⟩)] []] []] [],.ls [.sc (.int .i64 0),.sc (.int .i64 0),.sc (.int .i64 0),.sc (.string ⟨#[]⟩),.ls [.sc (.int .i64 0),.sc (.int .i64 0),.sc (.string ⟨#[]⟩)] [],.ls [.sc (.int .i64 0),.sc (.int .i64 0),.sc (.string ⟨#[]⟩)] [],.sc (.int .i64 0),.sc (.string ⟨#[]⟩),.ls [.sc (.string ⟨#[]⟩),.sc (.int .i64 0),.sc (.bool false),.sc (.bool false),.sc (.int .i64 0),.sc (.int .i64 0),.sc (.string ⟨#[]⟩)] [],.ls [.sc (.string ⟨#[]⟩)] [],.sc (.string ⟨#[]⟩),.sc (.string ⟨#[]⟩)] []],ms:= [.s,.o 308 (fun _=> [.s,.o 367 (fun _=> [.s,.s,.s,.s,.s,.s,.s]),.o 9 (fun _=> [.s])]),.o 224 (fun _=> [.o 141 (fun _=> [.o 311 (fun _=> [.s,.s,.s])])]),.o 171 (fun _=> [.s,.s,.s,.s,.o 311 (fun _=> [.s,.s,.s]),.o 311 (fun _=> [.s,.s,.s]),.s,.s,.o 367 (fun _=> [.s,.s,.s,.s,.s,.s,.s]),.o 9 (fun _=> [.s]),.s,.s])]}
 |92=> {ok:=true,desc:= .struct #[fld "Base" 3 0 0 "",fld "Db" 39 1 8 "",fld "Recs" 54 3 56 ""],sz:=4,by_:=80,zv:= .agg #[.int .i64 0,.slice none 0 0,.slice none 0 0,.slice none 0 0],z:= [.sc (.int .i64 0),.ls [.sc (.string ⟨#[]⟩),.ls [.sc (.string ⟨#[]⟩),.sc (.int .i64 0),.sc (.bool false),.sc (.bool false),.sc (.int .i64 0),.sc (.int .i64 0),.sc (.string ⟨#[]⟩)] [],.ls [.sc (.string ⟨#[]⟩)] []] [],.ls [.ls [.ls [.sc (.int .i64 0),.sc (.int .i64 0),.sc (.string ⟨#[]⟩)] []] []] [],.ls [.sc (.int .i64 0),.sc (.int .i64 0),.sc (.int .i64 0),.sc (.string ⟨#[]⟩),.ls [.sc (.int .i64 0),.sc (.int .i64 0),.sc (.string ⟨#[]⟩)] [],.ls [.sc (.int .i64 0),.sc (.int .i64 0),.sc (.string ⟨#[]⟩)] [],.sc (.int .i64 0),.sc (.string ⟨#[]⟩),.ls [.sc (.string ⟨#[]⟩),.sc (.int .i64 0),.sc (.bool false),.sc (.bool false),.sc (.int .i64 0),.sc (.int .i64 0),.sc (.string ⟨#[]⟩)] [],.ls [.sc (.string ⟨#[]⟩)] [],.sc (.string ⟨#[]⟩),.sc (.string ⟨#[]⟩)] []],ms:= [.s,.o 201 (fun _=> [.s,.o 236 (fun _=> [.s,.s,.s,.s,.s,.s,.s]),.o 9 (fun _=> [.s])]),.o 205 (fun _=> [.o 120 (fun _=> [.o 234 (fun _=> [.s,.s,.s])])]),.o 128 (fun _=> [.s,.s,.s,.s,.o 234 (fun _=> [.s,.s,.s]),.o 234 (fun _=> [.s,.s,.s]),.s,.s,.o 236 (fun _=> [.s,.s,.s,.s,.s,.s,.s]),.o 9 (fun _=> [.s]),.s,.s])]}
 |98=> {ok:=true,desc:= .struct #[fld "Db" 27 0 0 "",fld "At" 3 2 48 "",fld "Halt" 3 3 56 ""],sz:=4,by_:=64,zv:= .agg #[.slice none 0 0,.slice none 0 0,.int .i64 0,.int .i64 0],z:= [.ls [.sc (.string ⟨#[]⟩),.ls [.sc (.string ⟨#[]⟩),.sc (.int .i64 0),.sc (.bool false),.sc (.bool false),.sc (.int .i64 0),.sc (.int .i64 0),.sc (.string ⟨#[]⟩)] [],.ls [.sc (.string ⟨#[]⟩)] []] [],.ls [.ls [.ls [.sc (.int .i64 0),.sc (.int .i64 0),.sc (.string ⟨#[]⟩)] []] []] [],.sc (.int .i64 0),.sc (.int .i64 0)],ms:= [.o 308 (fun _=> [.s,.o 367 (fun _=> [.s,.s,.s,.s,.s,.s,.s]),.o 9 (fun _=> [.s])]),.o 224 (fun _=> [.o 141 (fun _=> [.o 311 (fun _=> [.s,.s,.s])])]),.s,.s]}
 |100=> {ok:=true,desc:= .struct #[fld "Lsn" 3 0 0 "",fld "Db" 27 1 8 ""],sz:=3,by_:=56,zv:= .agg #[.int .i64 0,.slice none 0 0,.slice none 0 0],z:= [.sc (.int .i64 0),.ls [.sc (.string ⟨#[]⟩),.ls [.sc (.string ⟨#[]⟩),.sc (.int .i64 0),.sc (.bool false),.sc (.bool false),.sc (.int .i64 0),.sc (.int .i64 0),.sc (.string ⟨#[]⟩)] [],.ls [.sc (.string ⟨#[]⟩)] []] [],.ls [.ls [.ls [.sc (.int .i64 0),.sc (.int .i64 0),.sc (.string ⟨#[]⟩)] []] []] []],ms:= [.s,.o 308 (fun _=> [.s,.o 367 (fun _=> [.s,.s,.s,.s,.s,.s,.s]),.o 9 (fun _=> [.s])]),.o 224 (fun _=> [.o 141 (fun _=> [.o 311 (fun _=> [.s,.s,.s])])])]}
 |104=> {ok:=true,desc:= .struct #[fld "Db" 39 0 0 "",fld "At" 3 2 48 "",fld "Halt" 3 3 56 ""],sz:=4,by_:=64,zv:= .agg #[.slice none 0 0,.slice none 0 0,.int .i64 0,.int .i64 0],z:= [.ls [.sc (.string ⟨#[]⟩),.ls [.sc (.string ⟨#[]⟩),.sc (.int .i64 0),.sc (.bool false),.sc (.bool false),.sc (.int .i64 0),.sc (.int .i64 0),.sc (.string ⟨#[]⟩)] [],.ls [.sc (.string ⟨#[]⟩)] []] [],.ls [.ls [.ls [.sc (.int .i64 0),.sc (.int .i64 0),.sc (.string ⟨#[]⟩)] []] []] [],.sc (.int .i64 0),.sc (.int .i64 0)],ms:= [.o 201 (fun _=> [.s,.o 236 (fun _=> [.s,.s,.s,.s,.s,.s,.s]),.o 9 (fun _=> [.s])]),.o 205 (fun _=> [.o 120 (fun _=> [.o 234 (fun _=> [.s,.s,.s])])]),.s,.s]}
 |109=> {ok:=true,desc:= .struct #[fld "Lsn" 3 0 0 "",fld "Db" 39 1 8 ""],sz:=3,by_:=56,zv:= .agg #[.int .i64 0,.slice none 0 0,.slice none 0 0],z:= [.sc (.int .i64 0),.ls [.sc (.string ⟨#[]⟩),.ls [.sc (.string ⟨#[]⟩),.sc (.int .i64 0),.sc (.bool false),.sc (.bool false),.sc (.int .i64 0),.sc (.int .i64 0),.sc (.string ⟨#[]⟩)] [],.ls [.sc (.string ⟨#[]⟩)] []] [],.ls [.ls [.ls [.sc (.int .i64 0),.sc (.int .i64 0),.sc (.string ⟨#[]⟩)] []] []] []],ms:= [.s,.o 201 (fun _=> [.s,.o 236 (fun _=> [.s,.s,.s,.s,.s,.s,.s]),.o 9 (fun _=> [.s])]),.o 205 (fun _=> [.o 120 (fun _=> [.o 234 (fun _=> [.s,.s,.s])])])]}
 |118=> {ok:=true,desc:= .slice 234,sz:=1,by_:=24,zv:= .slice none 0 0,z:= [.ls [.sc (.int .i64 0),.sc (.int .i64 0),.sc (.string ⟨#[]⟩)] []],ms:= [.o 234 (fun _=> [.s,.s,.s])]}
 |120=> {ok:=true,desc:= .struct #[fld "Vals" 118 0 0 ""],sz:=1,by_:=24,zv:= .agg #[.slice none 0 0],z:= [.ls [.sc (.int .i64 0),.sc (.int .i64 0),.sc (.string ⟨#[]⟩)] []],ms:= [.o 234 (fun _=> [.s,.s,.s])]}
 |121=> {ok:=true,desc:= .slice 236,sz:=1,by_:=24,zv:= .slice none 0 0,z:= [.ls [.sc (.string ⟨#[]⟩),.sc (.int .i64 0),.sc (.bool false),.sc (.bool false),.sc (.int .i64 0),.sc (.int .i64 0),.sc (.string ⟨#[]⟩)] []],ms:= [.o 236 (fun _=> [.s,.s,.s,.s,.s,.s,.s])]}
 |122=> {ok:=true,desc:= .slice 9,sz:=1,by_:=24,zv:= .slice none 0 0,z:= [.ls [.sc (.string ⟨#[]⟩)] []],ms:= [.o 9 (fun _=> [.s])]}
 |124=> {ok:=true,desc:= .struct #[fld "Kind" 3 0 0 "",fld "Table" 9 1 8 "",fld "Cols" 121 2 24 "",fld "Keys" 122 3 48 "",fld "Name" 9 4 72 "",fld "To" 9 5 88 ""],sz:=6,by_:=104,zv:= .agg #[.int .i64 0,.string ⟨#[]⟩,.slice none 0 0,.slice none 0 0,.string ⟨#[]⟩,.string ⟨#[]⟩],z:= [.sc (.int .i64 0),.sc (.string ⟨#[]⟩),.ls [.sc (.string ⟨#[]⟩),.sc (.int .i64 0),.sc (.bool false),.sc (.bool false),.sc (.int .i64 0),.sc (.int .i64 0),.sc (.string ⟨#[]⟩)] [],.ls [.sc (.string ⟨#[]⟩)] [],.sc (.string ⟨#[]⟩),.sc (.string ⟨#[]⟩)],ms:= [.s,.s,.o 236 (fun _=> [.s,.s,.s,.s,.s,.s,.s]),.o 9 (fun _=> [.s]),.s,.s]}
 |126=> {ok:=true,desc:= .struct #[fld "Kind" 3 0 0 "",fld "Table" 9 1 8 "",fld "Key" 118 2 24 "",fld "Row" 120 3 48 "",fld "Ddl" 124 4 72 ""],sz:=10,by_:=176,zv:= .agg #[.int .i64 0,.string ⟨#[]⟩,.slice none 0 0,.slice none 0 0,.int .i64 0,.string ⟨#[]⟩,.slice none 0 0,.slice none 0 0,.string ⟨#[]⟩,.string ⟨#[]⟩],z:= [.sc (.int .i64 0),.sc (.string ⟨#[]⟩),.ls [.sc (.int .i64 0),.sc (.int .i64 0),.sc (.string ⟨#[]⟩)] [],.ls [.sc (.int .i64 0),.sc (.int .i64 0),.sc (.string ⟨#[]⟩)] [],.sc (.int .i64 0),.sc (.string ⟨#[]⟩),.ls [.sc (.string ⟨#[]⟩),.sc (.int .i64 0),.sc (.bool false),.sc (.bool false),.sc (.int .i64 0),.sc (.int .i64 0),.sc (.string ⟨#[]⟩)] [],.ls [.sc (.string ⟨#[]⟩)] [],.sc (.string ⟨#[]⟩),.sc (.string ⟨#[]⟩)],ms:= [.s,.s,.o 234 (fun _=> [.s,.s,.s]),.o 234 (fun _=> [.s,.s,.s]),.s,.s,.o 236 (fun _=> [.s,.s,.s,.s,.s,.s,.s]),.o 9 (fun _=> [.s]),.s,.s]}
 |128=> {ok:=true,desc:= .struct #[fld "Kind" 3 0 0 "",fld "Xid" 3 1 8 "",fld "Stmt" 126 2 16 ""],sz:=12,by_:=192,zv:= .agg #[.int .i64 0,.int .i64 0,.int .i64 0,.string ⟨#[]⟩,.slice none 0 0,.slice none 0 0,.int .i64 0,.string ⟨#[]⟩,.slice none 0 0,.slice none 0 0,.string ⟨#[]⟩,.string ⟨#[]⟩],z:= [.sc (.int .i64 0),.sc (.int .i64 0),.sc (.int .i64 0),.sc (.string ⟨#[]⟩),.ls [.sc (.int .i64 0),.sc (.int .i64 0),.sc (.string ⟨#[]⟩)] [],.ls [.sc (.int .i64 0),.sc (.int .i64 0),.sc (.string ⟨#[]⟩)] [],.sc (.int .i64 0),.sc (.string ⟨#[]⟩),.ls [.sc (.string ⟨#[]⟩),.sc (.int .i64 0),.sc (.bool false),.sc (.bool false),.sc (.int .i64 0),.sc (.int .i64 0),.sc (.string ⟨#[]⟩)] [],.ls [.sc (.string ⟨#[]⟩)] [],.sc (.string ⟨#[]⟩),.sc (.string ⟨#[]⟩)],ms:= [.s,.s,.s,.s,.o 234 (fun _=> [.s,.s,.s]),.o 234 (fun _=> [.s,.s,.s]),.s,.s,.o 236 (fun _=> [.s,.s,.s,.s,.s,.s,.s]),.o 9 (fun _=> [.s]),.s,.s]}
 |139=> {ok:=true,desc:= .slice 311,sz:=1,by_:=24,zv:= .slice none 0 0,z:= [.ls [.sc (.int .i64 0),.sc (.int .i64 0),.sc (.string ⟨#[]⟩)] []],ms:= [.o 311 (fun _=> [.s,.s,.s])]}
 |141=> {ok:=true,desc:= .struct #[fld "Vals" 139 0 0 ""],sz:=1,by_:=24,zv:= .agg #[.slice none 0 0],z:= [.ls [.sc (.int .i64 0),.sc (.int .i64 0),.sc (.string ⟨#[]⟩)] []],ms:= [.o 311 (fun _=> [.s,.s,.s])]}
 |142=> {ok:=true,desc:= .slice 367,sz:=1,by_:=24,zv:= .slice none 0 0,z:= [.ls [.sc (.string ⟨#[]⟩),.sc (.int .i64 0),.sc (.bool false),.sc (.bool false),.sc (.int .i64 0),.sc (.int .i64 0),.sc (.string ⟨#[]⟩)] []],ms:= [.o 367 (fun _=> [.s,.s,.s,.s,.s,.s,.s])]}
 |144=> {ok:=true,desc:= .struct #[fld "Kind" 3 0 0 "",fld "Table" 9 1 8 "",fld "Cols" 142 2 24 "",fld "Keys" 122 3 48 "",fld "Name" 9 4 72 "",fld "To" 9 5 88 ""],sz:=6,by_:=104,zv:= .agg #[.int .i64 0,.string ⟨#[]⟩,.slice none 0 0,.slice none 0 0,.string ⟨#[]⟩,.string ⟨#[]⟩],z:= [.sc (.int .i64 0),.sc (.string ⟨#[]⟩),.ls [.sc (.string ⟨#[]⟩),.sc (.int .i64 0),.sc (.bool false),.sc (.bool false),.sc (.int .i64 0),.sc (.int .i64 0),.sc (.string ⟨#[]⟩)] [],.ls [.sc (.string ⟨#[]⟩)] [],.sc (.string ⟨#[]⟩),.sc (.string ⟨#[]⟩)],ms:= [.s,.s,.o 367 (fun _=> [.s,.s,.s,.s,.s,.s,.s]),.o 9 (fun _=> [.s]),.s,.s]}
 |146=> {ok:=true,desc:= .struct #[fld "Kind" 3 0 0 "",fld "Table" 9 1 8 "",fld "Key" 139 2 24 "",fld "Row" 141 3 48 "",fld "Ddl" 144 4 72 ""],sz:=10,by_:=176,zv:= .agg #[.int .i64 0,.string ⟨#[]⟩,.slice none 0 0,.slice none 0 0,.int .i64 0,.string ⟨#[]⟩,.slice none 0 0,.slice none 0 0,.string ⟨#[]⟩,.string ⟨#[]⟩],z:= [.sc (.int .i64 0),.sc (.string ⟨#[]⟩),.ls [.sc (.int .i64 0),.sc (.int .i64 0),.sc (.string ⟨#[]⟩)] [],.ls [.sc (.int .i64 0),.sc (.int .i64 0),.sc (.string ⟨#[]⟩)] [],.sc (.int .i64 0),.sc (.string ⟨#[]⟩),.ls [.sc (.string ⟨#[]⟩),.sc (.int .i64 0),.sc (.bool false),.sc (.bool false),.sc (.int .i64 0),.sc (.int .i64 0),.sc (.string ⟨#[]⟩)] [],.ls [.sc (.string ⟨#[]⟩)] [],.sc (.string ⟨#[]⟩),.sc (.string ⟨#[]⟩)],ms:= [.s,.s,.o 311 (fun _=> [.s,.s,.s]),.o 311 (fun _=> [.s,.s,.s]),.s,.s,.o 367 (fun _=> [.s,.s,.s,.s,.s,.s,.s]),.o 9 (fun _=> [.s]),.s,.s]}
 |150=> {ok:=true,desc:= .struct #[fld "Stmt" 126 0 0 "",fld "Cols" 122 10 176 "",fld "Keys" 122 11 200 ""],sz:=12,by_:=224,zv:= .agg #[.int .i64 0,.string ⟨#[]⟩,.slice none 0 0,.slice none 0 0,.int .i64 0,.string ⟨#[]⟩,.slice none 0 0,.slice none 0 0,.string ⟨#[]⟩,.string ⟨#[]⟩,.slice none 0 0,.slice none 0 0],z:= [.sc (.int .i64 0),.sc (.string ⟨#[]⟩),.ls [.sc (.int .i64 0),.sc (.int .i64 0),.sc (.string ⟨#[]⟩)] [],.ls [.sc (.int .i64 0),.sc (.int .i64 0),.sc (.string ⟨#[]⟩)] [],.sc (.int .i64 0),.sc (.string ⟨#[]⟩),.ls [.sc (.string ⟨#[]⟩),.sc (.int .i64 0),.sc (.bool false),.sc (.bool false),.sc (.int .i64 0),.sc (.int .i64 0),.sc (.string ⟨#[]⟩)] [],.ls [.sc (.string ⟨#[]⟩)] [],.sc (.string ⟨#[]⟩),.sc (.string ⟨#[]⟩),.ls [.sc (.string ⟨#[]⟩)] [],.ls [.sc (.string ⟨#[]⟩)] []],ms:= [.s,.s,.o 234 (fun _=> [.s,.s,.s]),.o 234 (fun _=> [.s,.s,.s]),.s,.s,.o 236 (fun _=> [.s,.s,.s,.s,.s,.s,.s]),.o 9 (fun _=> [.s]),.s,.s,.o 9 (fun _=> [.s]),.o 9 (fun _=> [.s])]}
 |171=> {ok:=true,desc:= .struct #[fld "Kind" 3 0 0 "",fld "Xid" 3 1 8 "",fld "Stmt" 146 2 16 ""],sz:=12,by_:=192,zv:= .agg #[.int .i64 0,.int .i64 0,.int .i64 0,.string ⟨#[]⟩,.slice none 0 0,.slice none 0 0,.int .i64 0,.string ⟨#[]⟩,.slice none 0 0,.slice none 0 0,.string ⟨#[]⟩,.string ⟨#[]⟩],z:= [.sc (.int .i64 0),.sc (.int .i64 0),.sc (.int .i64 0),.sc (.string ⟨#[]⟩),.ls [.sc (.int .i64 0),.sc (.int .i64 0),.sc (.string ⟨#[]⟩)] [],.ls [.sc (.int .i64 0),.sc (.int .i64 0),.sc (.string ⟨#[]⟩)] [],.sc (.int .i64 0),.sc (.string ⟨#[]⟩),.ls [.sc (.string ⟨#[]⟩),.sc (.int .i64 0),.sc (.bool false),.sc (.bool false),.sc (.int .i64 0),.sc (.int .i64 0),.sc (.string ⟨#[]⟩)] [],.ls [.sc (.string ⟨#[]⟩)] [],.sc (.string ⟨#[]⟩),.sc (.string ⟨#[]⟩)],ms:= [.s,.s,.s,.s,.o 311 (fun _=> [.s,.s,.s]),.o 311 (fun _=> [.s,.s,.s]),.s,.s,.o 367 (fun _=> [.s,.s,.s,.s,.s,.s,.s]),.o 9 (fun _=> [.s]),.s,.s]}
 |172=> {ok:=true,desc:= .slice 3,sz:=1,by_:=24,zv:= .slice none 0 0,z:= [.ls [.sc (.int .i64 0)] []],ms:= [.o 3 (fun _=> [.s])]}
 |201=> {ok:=true,desc:= .struct #[fld "Name" 9 0 0 "",fld "Cols" 121 1 16 "",fld "Keys" 122 2 40 ""],sz:=3,by_:=64,zv:= .agg #[.string ⟨#[]⟩,.slice none 0 0,.slice none 0 0],z:= [.sc (.string ⟨#[]⟩),.ls [.sc (.string ⟨#[]⟩),.sc (.int .i64 0),.sc (.bool false),.sc (.bool false),.sc (.int .i64 0),.sc (.int .i64 0),.sc (.string ⟨#[]⟩)] [],.ls [.sc (.string ⟨#[]⟩)] []],ms:= [.s,.o 236 (fun _=> [.s,.s,.s,.s,.s,.s,.s]),.o 9 (fun _=> [.s])]}
 |203=> {ok:=true,desc:= .slice 120,sz:=1,by_:=24,zv:= .slice none 0 0,z:= [.ls [.ls [.sc (.int .i64 0),.sc (.int .i64 0),.sc (.string ⟨#[]⟩)] []] []],ms:= [.o 120 (fun _=> [.o 234 (fun _=> [.s,.s,.s])])]}
 |205=> {ok:=true,desc:= .struct #[fld "Rows" 203 0 0 ""],sz:=1,by_:=24,zv:= .agg #[.slice none 0 0],z:= [.ls [.ls [.sc (.int .i64 0),.sc (.int .i64 0),.sc (.string ⟨#[]⟩)] []] []],ms:= [.o 120 (fun _=> [.o 234 (fun _=> [.s,.s,.s])])]}
 |222=> {ok:=true,desc:= .slice 141,sz:=1,by_:=24,zv:= .slice none 0 0,z:= [.ls [.ls [.sc (.int .i64 0),.sc (.int .i64 0),.sc (.string ⟨#[]⟩)] []] []],ms:= [.o 141 (fun _=> [.o 311 (fun _=> [.s,.s,.s])])]}
 |224=> {ok:=true,desc:= .struct #[fld "Rows" 222 0 0 ""],sz:=1,by_:=24,zv:= .agg #[.slice none 0 0],z:= [.ls [.ls [.sc (.int .i64 0),.sc (.int .i64 0),.sc (.string ⟨#[]⟩)] []] []],ms:= [.o 141 (fun _=> [.o 311 (fun _=> [.s,.s,.s])])]}
 |234=> {ok:=true,desc:= .struct #[fld "Ty" 3 0 0 "",fld "N" 3 1 8 "",fld "S" 9 2 16 ""],sz:=3,by_:=32,zv:= .agg #[.int .i64 0,.int .i64 0,.string ⟨#[]⟩],z:= [.sc (.int .i64 0),.sc (.int .i64 0),.sc (.string ⟨#[]⟩)],eqb:=true}
 |236=> {ok:=true,desc:= .struct #[fld "Name" 9 0 0 "",fld "Ty" 3 1 16 "",fld "Not" 4 2 24 "",fld "Has" 4 3 25 "",fld "Def" 234 4 32 ""],sz:=7,by_:=64,zv:= .agg #[.string ⟨#[]⟩,.int .i64 0,.bool false,.bool false,.int .i64 0,.int .i64 0,.string ⟨#[]⟩],z:= [.sc (.string ⟨#[]⟩),.sc (.int .i64 0),.sc (.bool false),.sc (.bool false),.sc (.int .i64 0),.sc (.int .i64 0),.sc (.string ⟨#[]⟩)],eqb:=true}
 |277=> {ok:=true,desc:= .struct #[fld "Stmt" 146 0 0 "",fld "Cols" 122 10 176 "",fld "Keys" 122 11 200 ""],sz:=12,by_:=224,zv:= .agg #[.int .i64 0,.string ⟨#[]⟩,.slice none 0 0,.slice none 0 0,.int .i64 0,.string ⟨#[]⟩,.slice none 0 0,.slice none 0 0,.string ⟨#[]⟩,.string ⟨#[]⟩,.slice none 0 0,.slice none 0 0],z:= [.sc (.int .i64 0),.sc (.string ⟨#[]⟩),.ls [.sc (.int .i64 0),.sc (.int .i64 0),.sc (.string ⟨#[]⟩)] [],.ls [.sc (.int .i64 0),.sc (.int .i64 0),.sc (.string ⟨#[]⟩)] [],.sc (.int .i64 0),.sc (.string ⟨#[]⟩),.ls [.sc (.string ⟨#[]⟩),.sc (.int .i64 0),.sc (.bool false),.sc (.bool false),.sc (.int .i64 0),.sc (.int .i64 0),.sc (.string ⟨#[]⟩)] [],.ls [.sc (.string ⟨#[]⟩)] [],.sc (.string ⟨#[]⟩),.sc (.string ⟨#[]⟩),.ls [.sc (.string ⟨#[]⟩)] [],.ls [.sc (.string ⟨#[]⟩)] []],ms:= [.s,.s,.o 311 (fun _=> [.s,.s,.s]),.o 311 (fun _=> [.s,.s,.s]),.s,.s,.o 367 (fun _=> [.s,.s,.s,.s,.s,.s,.s]),.o 9 (fun _=> [.s]),.s,.s,.o 9 (fun _=> [.s]),.o 9 (fun _=> [.s])]}
 |308=> {ok:=true,desc:= .struct #[fld "Name" 9 0 0 "",fld "Cols" 142 1 16 "",fld "Keys" 122 2 40 ""],sz:=3,by_:=64,zv:= .agg #[.string ⟨#[]⟩,.slice none 0 0,.slice none 0 0],z:= [.sc (.string ⟨#[]⟩),.ls [.sc (.string ⟨#[]⟩),.sc (.int .i64 0),.sc (.bool false),.sc (.bool false),.sc (.int .i64 0),.sc (.int .i64 0),.sc (.string ⟨#[]⟩)] [],.ls [.sc (.string ⟨#[]⟩)] []],ms:= [.s,.o 367 (fun _=> [.s,.s,.s,.s,.s,.s,.s]),.o 9 (fun _=> [.s])]}
 |311=> {ok:=true,desc:= .struct #[fld "Ty" 3 0 0 "",fld "N" 3 1 8 "",fld "S" 9 2 16 ""],sz:=3,by_:=32,zv:= .agg #[.int .i64 0,.int .i64 0,.string ⟨#[]⟩],z:= [.sc (.int .i64 0),.sc (.int .i64 0),.sc (.string ⟨#[]⟩)]}
 |367=> {ok:=true,desc:= .struct #[fld "Name" 9 0 0 "",fld "Ty" 3 1 16 "",fld "Not" 4 2 24 "",fld "Has" 4 3 25 "",fld "Def" 311 4 32 ""],sz:=7,by_:=64,zv:= .agg #[.string ⟨#[]⟩,.int .i64 0,.bool false,.bool false,.int .i64 0,.int .i64 0,.string ⟨#[]⟩],z:= [.sc (.string ⟨#[]⟩),.sc (.int .i64 0),.sc (.bool false),.sc (.bool false),.sc (.int .i64 0),.sc (.int .i64 0),.sc (.string ⟨#[]⟩)]}
 |394=> {ok:=true,desc:= .int .u64,sz:=1,by_:=8,zv:= .int .u64 0,z:= [.sc (.int .u64 0)]}
 |415=> {ok:=true,desc:= .int .u32,sz:=1,by_:=4,zv:= .int .u32 0,z:= [.sc (.int .u32 0)]}
 |417=> {ok:=true,desc:= .int .u64,sz:=1,by_:=8,zv:= .int .u64 0,z:= [.sc (.int .u64 0)]}
 |_=> {}
def ck:Nat→List CK
 |2=> [.int .i64]
 |3=> [.int .i64]
 |4=> [.bool]
 |5=> [.int .u8]
 |9=> [.str]
 |21=> [.int .i32]
 |22=> [.sl 308]
 |24=> [.sl 308]
 |25=> [.sl 224]
 |27=> [.sl 308,.sl 224]
 |28=> [.sl 146]
 |31=> [.sl 150]
 |34=> [.sl 201]
 |36=> [.sl 201]
 |37=> [.sl 205]
 |39=> [.sl 201,.sl 205]
 |41=> [.sl 126]
 |50=> [.sl 171]
 |52=> [.sl 62]
 |54=> [.sl 128]
 |62=> [.int .i64,.int .i64,.sl 150]
 |68=> [.sl 277]
 |70=> [.int .i64,.int .i64,.sl 277]
 |72=> [.sl 5]
 |74=> [.sl 5]
 |81=> [.sl 74]
 |87=> [.int .i64,.sl 308,.sl 224,.sl 171]
 |92=> [.int .i64,.sl 201,.sl 205,.sl 128]
 |98=> [.sl 308,.sl 224,.int .i64,.int .i64]
 |100=> [.int .i64,.sl 308,.sl 224]
 |104=> [.sl 201,.sl 205,.int .i64,.int .i64]
 |109=> [.int .i64,.sl 201,.sl 205]
 |118=> [.sl 234]
 |120=> [.sl 234]
 |121=> [.sl 236]
 |122=> [.sl 9]
 |124=> [.int .i64,.str,.sl 236,.sl 9,.str,.str]
 |126=> [.int .i64,.str,.sl 234,.sl 234,.int .i64,.str,.sl 236,.sl 9,.str,.str]
 |128=> [.int .i64,.int .i64,.int .i64,.str,.sl 234,.sl 234,.int .i64,.str,.sl 236,.sl 9,.str,.str]
 |139=> [.sl 311]
 |141=> [.sl 311]
 |142=> [.sl 367]
 |144=> [.int .i64,.str,.sl 367,.sl 9,.str,.str]
 |146=> [.int .i64,.str,.sl 311,.sl 311,.int .i64,.str,.sl 367,.sl 9,.str,.str]
 |150=> [.int .i64,.str,.sl 234,.sl 234,.int .i64,.str,.sl 236,.sl 9,.str,.str,.sl 9,.sl 9]
 |171=> [.int .i64,.int .i64,.int .i64,.str,.sl 311,.sl 311,.int .i64,.str,.sl 367,.sl 9,.str,.str]
 |172=> [.sl 3]
 |201=> [.str,.sl 236,.sl 9]
 |203=> [.sl 120]
 |205=> [.sl 120]
 |222=> [.sl 141]
 |224=> [.sl 141]
 |234=> [.int .i64,.int .i64,.str]
 |236=> [.str,.int .i64,.bool,.bool,.int .i64,.int .i64,.str]
 |277=> [.int .i64,.str,.sl 311,.sl 311,.int .i64,.str,.sl 367,.sl 9,.str,.str,.sl 9,.sl 9]
 |308=> [.str,.sl 367,.sl 9]
 |311=> [.int .i64,.int .i64,.str]
 |367=> [.str,.int .i64,.bool,.bool,.int .i64,.int .i64,.str]
 |394=> [.int .u64]
 |415=> [.int .u32]
 |417=> [.int .u64]
 |_=> []
theorem good2:(ti 2).good Tryz.prog 2:=good_sc (v:= .int .i64 0) rfl rfl rfl rfl (by decide) rfl (by intro _ _ h;cases h) (by kernel_rfl) (by kernel_rfl) (fun _=>rfl)
theorem good3:(ti 3).good Tryz.prog 3:=good_sc (v:= .int .i64 0) rfl rfl rfl rfl (by decide) rfl (by intro _ _ h;cases h) (by kernel_rfl) (by kernel_rfl) (fun _=>rfl)
theorem good4:(ti 4).good Tryz.prog 4:=good_sc (v:= .bool false) rfl rfl rfl rfl (by decide) rfl (by intro _ _ h;cases h) (by kernel_rfl) (by kernel_rfl) (fun _=>rfl)
theorem good5:(ti 5).good Tryz.prog 5:=good_sc (v:= .int .u8 0) rfl rfl rfl rfl (by decide) rfl (by intro _ _ h;cases h) (by kernel_rfl) (by kernel_rfl) (fun _=>rfl)
theorem good9:(ti 9).good Tryz.prog 9:=good_sc (v:= .string ⟨#[]⟩) rfl rfl rfl rfl (by decide) rfl (by intro _ _ h;cases h) (by kernel_rfl) (by kernel_rfl) (fun _=>rfl)
theorem good21:(ti 21).good Tryz.prog 21:=good_sc (v:= .int .i32 0) rfl rfl rfl rfl (by decide) rfl (by intro _ _ h;cases h) (by kernel_rfl) (by kernel_rfl) (fun _=>rfl)
theorem good22:(ti 22).good Tryz.prog 22:=good_sl (zz:= [.sc (.string ⟨#[]⟩),.ls [.sc (.string ⟨#[]⟩),.sc (.int .i64 0),.sc (.bool false),.sc (.bool false),.sc (.int .i64 0),.sc (.int .i64 0),.sc (.string ⟨#[]⟩)] [],.ls [.sc (.string ⟨#[]⟩)] []]) rfl rfl rfl rfl (by decide) (by kernel_rfl) (by kernel_rfl)
theorem good24:(ti 24).good Tryz.prog 24:=good_st (fs:= #[fld "Tables" 22 0 0 ""]) (cs:= #[.slice none 0 0]) rfl rfl rfl rfl (by decide) (by decide) (zOk_ok rfl) (by kernel_rfl) (by kernel_rfl) (by kernel_rfl)
theorem good25:(ti 25).good Tryz.prog 25:=good_sl (zz:= [.ls [.ls [.sc (.int .i64 0),.sc (.int .i64 0),.sc (.string ⟨#[]⟩)] []] []]) rfl rfl rfl rfl (by decide) (by kernel_rfl) (by kernel_rfl)
theorem good27:(ti 27).good Tryz.prog 27:=good_st (fs:= #[fld "Cat" 24 0 0 "",fld "Data" 25 1 24 ""]) (cs:= #[.slice none 0 0,.slice none 0 0]) rfl rfl rfl rfl (by decide) (by decide) (zOk_ok rfl) (by kernel_rfl) (by kernel_rfl) (by kernel_rfl)
theorem good28:(ti 28).good Tryz.prog 28:=good_sl (zz:= [.sc (.int .i64 0),.sc (.string ⟨#[]⟩),.ls [.sc (.int .i64 0),.sc (.int .i64 0),.sc (.string ⟨#[]⟩)] [],.ls [.sc (.int .i64 0),.sc (.int .i64 0),.sc (.string ⟨#[]⟩)] [],.sc (.int .i64 0),.sc (.string ⟨#[]⟩),.ls [.sc (.string ⟨#[]⟩),.sc (.int .i64 0),.sc (.bool false),.sc (.bool false),.sc (.int .i64 0),.sc (.int .i64 0),.sc (.string ⟨#[]⟩)] [],.ls [.sc (.string ⟨#[]⟩)] [],.sc (.string ⟨#[]⟩),.sc (.string ⟨#[]⟩)]) rfl rfl rfl rfl (by decide) (by kernel_rfl) (by kernel_rfl)
theorem good31:(ti 31).good Tryz.prog 31:=good_sl (zz:= [.sc (.int .i64 0),.sc (.string ⟨#[]⟩),.ls [.sc (.int .i64 0),.sc (.int .i64 0),.sc (.string ⟨#[]⟩)] [],.ls [.sc (.int .i64 0),.sc (.int .i64 0),.sc (.string ⟨#[]⟩)] [],.sc (.int .i64 0),.sc (.string ⟨#[]⟩),.ls [.sc (.string ⟨#[]⟩),.sc (.int .i64 0),.sc (.bool false),.sc (.bool false),.sc (.int .i64 0),.sc (.int .i64 0),.sc (.string ⟨#[]⟩)] [],.ls [.sc (.string ⟨#[]⟩)] [],.sc (.string ⟨#[]⟩),.sc (.string ⟨#[]⟩),.ls [.sc (.string ⟨#[]⟩)] [],.ls [.sc (.string ⟨#[]⟩)] []]) rfl rfl rfl rfl (by decide) (by kernel_rfl) (by kernel_rfl)
theorem good34:(ti 34).good Tryz.prog 34:=good_sl (zz:= [.sc (.string ⟨#[]⟩),.ls [.sc (.string ⟨#[]⟩),.sc (.int .i64 0),.sc (.bool false),.sc (.bool false),.sc (.int .i64 0),.sc (.int .i64 0),.sc (.string ⟨#[]⟩)] [],.ls [.sc (.string ⟨#[]⟩)] []]) rfl rfl rfl rfl (by decide) (by kernel_rfl) (by kernel_rfl)
theorem good36:(ti 36).good Tryz.prog 36:=good_st (fs:= #[fld "Tables" 34 0 0 ""]) (cs:= #[.slice none 0 0]) rfl rfl rfl rfl (by decide) (by decide) (zOk_ok rfl) (by kernel_rfl) (by kernel_rfl) (by kernel_rfl)
theorem good37:(ti 37).good Tryz.prog 37:=good_sl (zz:= [.ls [.ls [.sc (.int .i64 0),.sc (.int .i64 0),.sc (.string ⟨#[]⟩)] []] []]) rfl rfl rfl rfl (by decide) (by kernel_rfl) (by kernel_rfl)
theorem good39:(ti 39).good Tryz.prog 39:=good_st (fs:= #[fld "Cat" 36 0 0 "",fld "Data" 37 1 24 ""]) (cs:= #[.slice none 0 0,.slice none 0 0]) rfl rfl rfl rfl (by decide) (by decide) (zOk_ok rfl) (by kernel_rfl) (by kernel_rfl) (by kernel_rfl)
theorem good41:(ti 41).good Tryz.prog 41:=good_sl (zz:= [.sc (.int .i64 0),.sc (.string ⟨#[]⟩),.ls [.sc (.int .i64 0),.sc (.int .i64 0),.sc (.string ⟨#[]⟩)] [],.ls [.sc (.int .i64 0),.sc (.int .i64 0),.sc (.string ⟨#[]⟩)] [],.sc (.int .i64 0),.sc (.string ⟨#[]⟩),.ls [.sc (.string ⟨#[]⟩),.sc (.int .i64 0),.sc (.bool false),.sc (.bool false),.sc (.int .i64 0),.sc (.int .i64 0),.sc (.string ⟨#[]⟩)] [],.ls [.sc (.string ⟨#[]⟩)] [],.sc (.string ⟨#[]⟩),.sc (.string ⟨#[]⟩)]) rfl rfl rfl rfl (by decide) (by kernel_rfl) (by kernel_rfl)
theorem good50:(ti 50).good Tryz.prog 50:=good_sl (zz:= [.sc (.int .i64 0),.sc (.int .i64 0),.sc (.int .i64 0),.sc (.string ⟨#[]⟩),.ls [.sc (.int .i64 0),.sc (.int .i64 0),.sc (.string ⟨#[]⟩)] [],.ls [.sc (.int .i64 0),.sc (.int .i64 0),.sc (.string ⟨#[]⟩)] [],.sc (.int .i64 0),.sc (.string ⟨#[]⟩),.ls [.sc (.string ⟨#[]⟩),.sc (.int .i64 0),.sc (.bool false),.sc (.bool false),.sc (.int .i64 0),.sc (.int .i64 0),.sc (.string ⟨#[]⟩)] [],.ls [.sc (.string ⟨#[]⟩)] [],.sc (.string ⟨#[]⟩),.sc (.string ⟨#[]⟩)]) rfl rfl rfl rfl (by decide) (by kernel_rfl) (by kernel_rfl)
theorem good52:(ti 52).good Tryz.prog 52:=good_sl (zz:= [.sc (.int .i64 0),.sc (.int .i64 0),.ls [.sc (.int .i64 0),.sc (.string ⟨#[]⟩),.ls [.sc (.int .i64 0),.sc (.int .i64 0),.sc (.string ⟨#[]⟩)] [],.ls [.sc (.int .i64 0),.sc (.int .i64 0),.sc (.string ⟨#[]⟩)] [],.sc (.int .i64 0),.sc (.string ⟨#[]⟩),.ls [.sc (.string ⟨#[]⟩),.sc (.int .i64 0),.sc (.bool false),.sc (.bool false),.sc (.int .i64 0),.sc (.int .i64 0),.sc (.string ⟨#[]⟩)] [],.ls [.sc (.string ⟨#[]⟩)] [],.sc (.string ⟨#[]⟩),.sc (.string ⟨#[]⟩),.ls [.sc (.string ⟨#[]⟩)] [],.ls [.sc (.string ⟨#[]⟩)] []] []]) rfl rfl rfl rfl (by decide) (by kernel_rfl) (by kernel_rfl)
theorem good54:(ti 54).good Tryz.prog 54:=good_sl (zz:= [.sc (.int .i64 0),.sc (.int .i64 0),.sc (.int .i64 0),.sc (.string ⟨#[]⟩),.ls [.sc (.int .i64 0),.sc (.int .i64 0),.sc (.string ⟨#[]⟩)] [],.ls [.sc (.int .i64 0),.sc (.int .i64 0),.sc (.string ⟨#[]⟩)] [],.sc (.int .i64 0),.sc (.string ⟨#[]⟩),.ls [.sc (.string ⟨#[]⟩),.sc (.int .i64 0),.sc (.bool false),.sc (.bool false),.sc (.int .i64 0),.sc (.int .i64 0),.sc (.string ⟨#[]⟩)] [],.ls [.sc (.string ⟨#[]⟩)] [],.sc (.string ⟨#[]⟩),.sc (.string ⟨#[]⟩)]) rfl rfl rfl rfl (by decide) (by kernel_rfl) (by kernel_rfl)
theorem good62:(ti 62).good Tryz.prog 62:=good_st (fs:= #[fld "Lsn" 3 0 0 "",fld "Prev" 3 1 8 "",fld "Parts" 31 2 16 ""]) (cs:= #[.int .i64 0,.int .i64 0,.slice none 0 0]) rfl rfl rfl rfl (by decide) (by decide) (zOk_ok rfl) (by kernel_rfl) (by kernel_rfl) (by kernel_rfl)
theorem good68:(ti 68).good Tryz.prog 68:=good_sl (zz:= [.sc (.int .i64 0),.sc (.string ⟨#[]⟩),.ls [.sc (.int .i64 0),.sc (.int .i64 0),.sc (.string ⟨#[]⟩)] [],.ls [.sc (.int .i64 0),.sc (.int .i64 0),.sc (.string ⟨#[]⟩)] [],.sc (.int .i64 0),.sc (.string ⟨#[]⟩),.ls [.sc (.string ⟨#[]⟩),.sc (.int .i64 0),.sc (.bool false),.sc (.bool false),.sc (.int .i64 0),.sc (.int .i64 0),.sc (.string ⟨#[]⟩)] [],.ls [.sc (.string ⟨#[]⟩)] [],.sc (.string ⟨#[]⟩),.sc (.string ⟨#[]⟩),.ls [.sc (.string ⟨#[]⟩)] [],.ls [.sc (.string ⟨#[]⟩)] []]) rfl rfl rfl rfl (by decide) (by kernel_rfl) (by kernel_rfl)
theorem good70:(ti 70).good Tryz.prog 70:=good_st (fs:= #[fld "Lsn" 3 0 0 "",fld "Prev" 3 1 8 "",fld "Parts" 68 2 16 ""]) (cs:= #[.int .i64 0,.int .i64 0,.slice none 0 0]) rfl rfl rfl rfl (by decide) (by decide) (zOk_ok rfl) (by kernel_rfl) (by kernel_rfl) (by kernel_rfl)
theorem good72:(ti 72).good Tryz.prog 72:=good_sl (zz:= [.sc (.int .u8 0)]) rfl rfl rfl rfl (by decide) (by kernel_rfl) (by kernel_rfl)
theorem good74:(ti 74).good Tryz.prog 74:=good_st (fs:= #[fld "Bytes" 72 0 0 ""]) (cs:= #[.slice none 0 0]) rfl rfl rfl rfl (by decide) (by decide) (zOk_ok rfl) (by kernel_rfl) (by kernel_rfl) (by kernel_rfl)
theorem good81:(ti 81).good Tryz.prog 81:=good_sl (zz:= [.ls [.sc (.int .u8 0)] []]) rfl rfl rfl rfl (by decide) (by kernel_rfl) (by kernel_rfl)
theorem good87:(ti 87).good Tryz.prog 87:=good_st (fs:= #[fld "Base" 3 0 0 "",fld "Db" 27 1 8 "",fld "Recs" 50 3 56 ""]) (cs:= #[.int .i64 0,.slice none 0 0,.slice none 0 0,.slice none 0 0]) rfl rfl rfl rfl (by decide) (by decide) (zOk_ok rfl) (by kernel_rfl) (by kernel_rfl) (by kernel_rfl)
theorem good92:(ti 92).good Tryz.prog 92:=good_st (fs:= #[fld "Base" 3 0 0 "",fld "Db" 39 1 8 "",fld "Recs" 54 3 56 ""]) (cs:= #[.int .i64 0,.slice none 0 0,.slice none 0 0,.slice none 0 0]) rfl rfl rfl rfl (by decide) (by decide) (zOk_ok rfl) (by kernel_rfl) (by kernel_rfl) (by kernel_rfl)
theorem good98:(ti 98).good Tryz.prog 98:=good_st (fs:= #[fld "Db" 27 0 0 "",fld "At" 3 2 48 "",fld "Halt" 3 3 56 ""]) (cs:= #[.slice none 0 0,.slice none 0 0,.int .i64 0,.int .i64 0]) rfl rfl rfl rfl (by decide) (by decide) (zOk_ok rfl) (by kernel_rfl) (by kernel_rfl) (by kernel_rfl)
theorem good100:(ti 100).good Tryz.prog 100:=good_st (fs:= #[fld "Lsn" 3 0 0 "",fld "Db" 27 1 8 ""]) (cs:= #[.int .i64 0,.slice none 0 0,.slice none 0 0]) rfl rfl rfl rfl (by decide) (by decide) (zOk_ok rfl) (by kernel_rfl) (by kernel_rfl) (by kernel_rfl)
theorem good104:(ti 104).good Tryz.prog 104:=good_st (fs:= #[fld "Db" 39 0 0 "",fld "At" 3 2 48 "",fld "Halt" 3 3 56 ""]) (cs:= #[.slice none 0 0,.slice none 0 0,.int .i64 0,.int .i64 0]) rfl rfl rfl rfl (by decide) (by decide) (zOk_ok rfl) (by kernel_rfl) (by kernel_rfl) (by kernel_rfl)
theorem good109:(ti 109).good Tryz.prog 109:=good_st (fs:= #[fld "Lsn" 3 0 0 "",fld "Db" 39 1 8 ""]) (cs:= #[.int .i64 0,.slice none 0 0,.slice none 0 0]) rfl rfl rfl rfl (by decide) (by decide) (zOk_ok rfl) (by kernel_rfl) (by kernel_rfl) (by kernel_rfl)
theorem good118:(ti 118).good Tryz.prog 118:=good_sl (zz:= [.sc (.int .i64 0),.sc (.int .i64 0),.sc (.string ⟨#[]⟩)]) rfl rfl rfl rfl (by decide) (by kernel_rfl) (by kernel_rfl)
theorem good120:(ti 120).good Tryz.prog 120:=good_st (fs:= #[fld "Vals" 118 0 0 ""]) (cs:= #[.slice none 0 0]) rfl rfl rfl rfl (by decide) (by decide) (zOk_ok rfl) (by kernel_rfl) (by kernel_rfl) (by kernel_rfl)
theorem good121:(ti 121).good Tryz.prog 121:=good_sl (zz:= [.sc (.string ⟨#[]⟩),.sc (.int .i64 0),.sc (.bool false),.sc (.bool false),.sc (.int .i64 0),.sc (.int .i64 0),.sc (.string ⟨#[]⟩)]) rfl rfl rfl rfl (by decide) (by kernel_rfl) (by kernel_rfl)
theorem good122:(ti 122).good Tryz.prog 122:=good_sl (zz:= [.sc (.string ⟨#[]⟩)]) rfl rfl rfl rfl (by decide) (by kernel_rfl) (by kernel_rfl)
theorem good124:(ti 124).good Tryz.prog 124:=good_st (fs:= #[fld "Kind" 3 0 0 "",fld "Table" 9 1 8 "",fld "Cols" 121 2 24 "",fld "Keys" 122 3 48 "",fld "Name" 9 4 72 "",fld "To" 9 5 88 ""]) (cs:= #[.int .i64 0,.string ⟨#[]⟩,.slice none 0 0,.slice none 0 0,.string ⟨#[]⟩,.string ⟨#[]⟩]) rfl rfl rfl rfl (by decide) (by decide) (zOk_ok rfl) (by kernel_rfl) (by kernel_rfl) (by kernel_rfl)
theorem good126:(ti 126).good Tryz.prog 126:=good_st (fs:= #[fld "Kind" 3 0 0 "",fld "Table" 9 1 8 "",fld "Key" 118 2 24 "",fld "Row" 120 3 48 "",fld "Ddl" 124 4 72 ""]) (cs:= #[.int .i64 0,.string ⟨#[]⟩,.slice none 0 0,.slice none 0 0,.int .i64 0,.string ⟨#[]⟩,.slice none 0 0,.slice none 0 0,.string ⟨#[]⟩,.string ⟨#[]⟩]) rfl rfl rfl rfl (by decide) (by decide) (zOk_ok rfl) (by kernel_rfl) (by kernel_rfl) (by kernel_rfl)
theorem good128:(ti 128).good Tryz.prog 128:=good_st (fs:= #[fld "Kind" 3 0 0 "",fld "Xid" 3 1 8 "",fld "Stmt" 126 2 16 ""]) (cs:= #[.int .i64 0,.int .i64 0,.int .i64 0,.string ⟨#[]⟩,.slice none 0 0,.slice none 0 0,.int .i64 0,.string ⟨#[]⟩,.slice none 0 0,.slice none 0 0,.string ⟨#[]⟩,.string ⟨#[]⟩]) rfl rfl rfl rfl (by decide) (by decide) (zOk_ok rfl) (by kernel_rfl) (by kernel_rfl) (by kernel_rfl)
theorem good139:(ti 139).good Tryz.prog 139:=good_sl (zz:= [.sc (.int .i64 0),.sc (.int .i64 0),.sc (.string ⟨#[]⟩)]) rfl rfl rfl rfl (by decide) (by kernel_rfl) (by kernel_rfl)
theorem good141:(ti 141).good Tryz.prog 141:=good_st (fs:= #[fld "Vals" 139 0 0 ""]) (cs:= #[.slice none 0 0]) rfl rfl rfl rfl (by decide) (by decide) (zOk_ok rfl) (by kernel_rfl) (by kernel_rfl) (by kernel_rfl)
theorem good142:(ti 142).good Tryz.prog 142:=good_sl (zz:= [.sc (.string ⟨#[]⟩),.sc (.int .i64 0),.sc (.bool false),.sc (.bool false),.sc (.int .i64 0),.sc (.int .i64 0),.sc (.string ⟨#[]⟩)]) rfl rfl rfl rfl (by decide) (by kernel_rfl) (by kernel_rfl)
theorem good144:(ti 144).good Tryz.prog 144:=good_st (fs:= #[fld "Kind" 3 0 0 "",fld "Table" 9 1 8 "",fld "Cols" 142 2 24 "",fld "Keys" 122 3 48 "",fld "Name" 9 4 72 "",fld "To" 9 5 88 ""]) (cs:= #[.int .i64 0,.string ⟨#[]⟩,.slice none 0 0,.slice none 0 0,.string ⟨#[]⟩,.string ⟨#[]⟩]) rfl rfl rfl rfl (by decide) (by decide) (zOk_ok rfl) (by kernel_rfl) (by kernel_rfl) (by kernel_rfl)
theorem good146:(ti 146).good Tryz.prog 146:=good_st (fs:= #[fld "Kind" 3 0 0 "",fld "Table" 9 1 8 "",fld "Key" 139 2 24 "",fld "Row" 141 3 48 "",fld "Ddl" 144 4 72 ""]) (cs:= #[.int .i64 0,.string ⟨#[]⟩,.slice none 0 0,.slice none 0 0,.int .i64 0,.string ⟨#[]⟩,.slice none 0 0,.slice none 0 0,.string ⟨#[]⟩,.string ⟨#[]⟩]) rfl rfl rfl rfl (by decide) (by decide) (zOk_ok rfl) (by kernel_rfl) (by kernel_rfl) (by kernel_rfl)
theorem good150:(ti 150).good Tryz.prog 150:=good_st (fs:= #[fld "Stmt" 126 0 0 "",fld "Cols" 122 10 176 "",fld "Keys" 122 11 200 ""]) (cs:= #[.int .i64 0,.string ⟨#[]⟩,.slice none 0 0,.slice none 0 0,.int .i64 0,.string ⟨#[]⟩,.slice none 0 0,.slice none 0 0,.string ⟨#[]⟩,.string ⟨#[]⟩,.slice none 0 0,.slice none 0 0]) rfl rfl rfl rfl (by decide) (by decide) (zOk_ok rfl) (by kernel_rfl) (by kernel_rfl) (by kernel_rfl)
theorem good171:(ti 171).good Tryz.prog 171:=good_st (fs:= #[fld "Kind" 3 0 0 "",fld "Xid" 3 1 8 "",fld "Stmt" 146 2 16 ""]) (cs:= #[.int .i64 0,.int .i64 0,.int .i64 0,.string ⟨#[]⟩,.slice none 0 0,.slice none 0 0,.int .i64 0,.string ⟨#[]⟩,.slice none 0 0,.slice none 0 0,.string ⟨#[]⟩,.string ⟨#[]⟩]) rfl rfl rfl rfl (by decide) (by decide) (zOk_ok rfl) (by kernel_rfl) (by kernel_rfl) (by kernel_rfl)
theorem good172:(ti 172).good Tryz.prog 172:=good_sl (zz:= [.sc (.int .i64 0)]) rfl rfl rfl rfl (by decide) (by kernel_rfl) (by kernel_rfl)
theorem good201:(ti 201).good Tryz.prog 201:=good_st (fs:= #[fld "Name" 9 0 0 "",fld "Cols" 121 1 16 "",fld "Keys" 122 2 40 ""]) (cs:= #[.string ⟨#[]⟩,.slice none 0 0,.slice none 0 0]) rfl rfl rfl rfl (by decide) (by decide) (zOk_ok rfl) (by kernel_rfl) (by kernel_rfl) (by kernel_rfl)
theorem good203:(ti 203).good Tryz.prog 203:=good_sl (zz:= [.ls [.sc (.int .i64 0),.sc (.int .i64 0),.sc (.string ⟨#[]⟩)] []]) rfl rfl rfl rfl (by decide) (by kernel_rfl) (by kernel_rfl)
theorem good205:(ti 205).good Tryz.prog 205:=good_st (fs:= #[fld "Rows" 203 0 0 ""]) (cs:= #[.slice none 0 0]) rfl rfl rfl rfl (by decide) (by decide) (zOk_ok rfl) (by kernel_rfl) (by kernel_rfl) (by kernel_rfl)
theorem good222:(ti 222).good Tryz.prog 222:=good_sl (zz:= [.ls [.sc (.int .i64 0),.sc (.int .i64 0),.sc (.string ⟨#[]⟩)] []]) rfl rfl rfl rfl (by decide) (by kernel_rfl) (by kernel_rfl)
theorem good224:(ti 224).good Tryz.prog 224:=good_st (fs:= #[fld "Rows" 222 0 0 ""]) (cs:= #[.slice none 0 0]) rfl rfl rfl rfl (by decide) (by decide) (zOk_ok rfl) (by kernel_rfl) (by kernel_rfl) (by kernel_rfl)
theorem good234:(ti 234).good Tryz.prog 234:=good_st (fs:= #[fld "Ty" 3 0 0 "",fld "N" 3 1 8 "",fld "S" 9 2 16 ""]) (cs:= #[.int .i64 0,.int .i64 0,.string ⟨#[]⟩]) rfl rfl rfl rfl (by decide) (by decide) (zOk_ok rfl) (by kernel_rfl) (by kernel_rfl) (by kernel_rfl)
theorem good236:(ti 236).good Tryz.prog 236:=good_st (fs:= #[fld "Name" 9 0 0 "",fld "Ty" 3 1 16 "",fld "Not" 4 2 24 "",fld "Has" 4 3 25 "",fld "Def" 234 4 32 ""]) (cs:= #[.string ⟨#[]⟩,.int .i64 0,.bool false,.bool false,.int .i64 0,.int .i64 0,.string ⟨#[]⟩]) rfl rfl rfl rfl (by decide) (by decide) (zOk_ok rfl) (by kernel_rfl) (by kernel_rfl) (by kernel_rfl)
theorem good277:(ti 277).good Tryz.prog 277:=good_st (fs:= #[fld "Stmt" 146 0 0 "",fld "Cols" 122 10 176 "",fld "Keys" 122 11 200 ""]) (cs:= #[.int .i64 0,.string ⟨#[]⟩,.slice none 0 0,.slice none 0 0,.int .i64 0,.string ⟨#[]⟩,.slice none 0 0,.slice none 0 0,.string ⟨#[]⟩,.string ⟨#[]⟩,.slice none 0 0,.slice none 0 0]) rfl rfl rfl rfl (by decide) (by decide) (zOk_ok rfl) (by kernel_rfl) (by kernel_rfl) (by kernel_rfl)
theorem good308:(ti 308).good Tryz.prog 308:=good_st (fs:= #[fld "Name" 9 0 0 "",fld "Cols" 142 1 16 "",fld "Keys" 122 2 40 ""]) (cs:= #[.string ⟨#[]⟩,.slice none 0 0,.slice none 0 0]) rfl rfl rfl rfl (by decide) (by decide) (zOk_ok rfl) (by kernel_rfl) (by kernel_rfl) (by kernel_rfl)
theorem good311:(ti 311).good Tryz.prog 311:=good_st (fs:= #[fld "Ty" 3 0 0 "",fld "N" 3 1 8 "",fld "S" 9 2 16 ""]) (cs:= #[.int .i64 0,.int .i64 0,.string ⟨#[]⟩]) rfl rfl rfl rfl (by decide) (by decide) (zOk_ok rfl) (by kernel_rfl) (by kernel_rfl) (by kernel_rfl)
theorem good367:(ti 367).good Tryz.prog 367:=good_st (fs:= #[fld "Name" 9 0 0 "",fld "Ty" 3 1 16 "",fld "Not" 4 2 24 "",fld "Has" 4 3 25 "",fld "Def" 311 4 32 ""]) (cs:= #[.string ⟨#[]⟩,.int .i64 0,.bool false,.bool false,.int .i64 0,.int .i64 0,.string ⟨#[]⟩]) rfl rfl rfl rfl (by decide) (by decide) (zOk_ok rfl) (by kernel_rfl) (by kernel_rfl) (by kernel_rfl)
theorem good394:(ti 394).good Tryz.prog 394:=good_sc (v:= .int .u64 0) rfl rfl rfl rfl (by decide) rfl (by intro _ _ h;cases h) (by kernel_rfl) (by kernel_rfl) (fun _=>rfl)
theorem good415:(ti 415).good Tryz.prog 415:=good_sc (v:= .int .u32 0) rfl rfl rfl rfl (by decide) rfl (by intro _ _ h;cases h) (by kernel_rfl) (by kernel_rfl) (fun _=>rfl)
theorem good417:(ti 417).good Tryz.prog 417:=good_sc (v:= .int .u64 0) rfl rfl rfl rfl (by decide) rfl (by intro _ _ h;cases h) (by kernel_rfl) (by kernel_rfl) (fun _=>rfl)
theorem eq3:eqAt Tryz.prog (ti 3) 3 1:=eqAt_int (n:=0) rfl rfl (by kernel_rfl)
theorem eq9:eqAt Tryz.prog (ti 9) 9 1:=eqAt_str (s:=⟨#[]⟩) rfl rfl (by kernel_rfl)
theorem eq234:eqAt Tryz.prog (ti 234) 234 2:=eqAt_st (fs:= [fld "Ty" 3 0 0 "",fld "N" 3 1 8 "",fld "S" 9 2 16 ""]) (by kernel_rfl) (by kernel_rfl) (by kernel_rfl) rfl ⟨by decide,rfl,good3,rfl,rfl,eqAt_up eq3 (by decide),⟨by decide,rfl,good3,rfl,rfl,eqAt_up eq3 (by decide),⟨by decide,rfl,good9,rfl,rfl,eqAt_up eq9 (by decide),rfl⟩⟩⟩
theorem eq4:eqAt Tryz.prog (ti 4) 4 1:=eqAt_bool (s:=false) rfl rfl (by kernel_rfl)
theorem eq236:eqAt Tryz.prog (ti 236) 236 3:=eqAt_st (fs:= [fld "Name" 9 0 0 "",fld "Ty" 3 1 16 "",fld "Not" 4 2 24 "",fld "Has" 4 3 25 "",fld "Def" 234 4 32 ""]) (by kernel_rfl) (by kernel_rfl) (by kernel_rfl) rfl ⟨by decide,rfl,good9,rfl,rfl,eqAt_up eq9 (by decide),⟨by decide,rfl,good3,rfl,rfl,eqAt_up eq3 (by decide),⟨by decide,rfl,good4,rfl,rfl,eqAt_up eq4 (by decide),⟨by decide,rfl,good4,rfl,rfl,eqAt_up eq4 (by decide),⟨by decide,rfl,good234,rfl,rfl,eqAt_up eq234 (by decide),rfl⟩⟩⟩⟩⟩
theorem good': ∀t,(ti t).ok=true→(ti t).good Tryz.prog t:=by
 intro t h
 unfold ti at h
 split at h
 ·exact good2
 ·exact good3
 ·exact good4
 ·exact good5
 ·exact good9
 ·exact good21
 ·exact good22
 ·exact good24
 ·exact good25
 ·exact good27
 ·exact good28
 ·exact good31
 ·exact good34
 ·exact good36
 ·exact good37
 ·exact good39
 ·exact good41
 ·exact good50
 ·exact good52
 ·exact good54
 ·exact good62
 ·exact good68
 ·exact good70
 ·exact good72
 ·exact good74
 ·exact good81
 ·exact good87
 ·exact good92
 ·exact good98
 ·exact good100
 ·exact good104
 ·exact good109
 ·exact good118
 ·exact good120
 ·exact good121
 ·exact good122
 ·exact good124
 ·exact good126
 ·exact good128
 ·exact good139
 ·exact good141
 ·exact good142
 ·exact good144
 ·exact good146
 ·exact good150
 ·exact good171
 ·exact good172
 ·exact good201
 ·exact good203
 ·exact good205
 ·exact good222
 ·exact good224
 ·exact good234
 ·exact good236
 ·exact good277
 ·exact good308
 ·exact good311
 ·exact good367
 ·exact good394
 ·exact good415
 ·exact good417
 ·cases h
theorem gooe: ∀t,(ti t).eqb=true→eqAt Tryz.prog (ti t) t 5000∧Tryz.prog.eqGuardType Tryz.prog.depth t=false:=by
 intro t h
 have h0:=h
 unfold ti at h
 split at h
 ·cases h
 ·cases h
 ·cases h
 ·cases h
 ·cases h
 ·cases h
 ·cases h
 ·cases h
 ·cases h
 ·cases h
 ·cases h
 ·cases h
 ·cases h
 ·cases h
 ·cases h
 ·cases h
 ·cases h
 ·cases h
 ·cases h
 ·cases h
 ·cases h
 ·cases h
 ·cases h
 ·cases h
 ·cases h
 ·cases h
 ·cases h
 ·cases h
 ·cases h
 ·cases h
 ·cases h
 ·cases h
 ·cases h
 ·cases h
 ·cases h
 ·cases h
 ·cases h
 ·cases h
 ·cases h
 ·cases h
 ·cases h
 ·cases h
 ·cases h
 ·cases h
 ·cases h
 ·cases h
 ·cases h
 ·cases h
 ·cases h
 ·cases h
 ·cases h
 ·cases h
 ·exact ⟨eqAt_up eq234 (by decide),by kernel_rfl⟩
 ·exact ⟨eqAt_up eq236 (by decide),by kernel_rfl⟩
 ·cases h
 ·cases h
 ·cases h
 ·cases h
 ·cases h
 ·cases h
 ·cases h
 ·cases h
theorem good:TGood Tryz.prog ti:=⟨good',gooe⟩
theorem cg2:ckOk ti ck 2:=by simp[ckOk,ti,ck]
theorem cg3:ckOk ti ck 3:=by simp[ckOk,ti,ck]
theorem cg4:ckOk ti ck 4:=by simp[ckOk,ti,ck]
theorem cg5:ckOk ti ck 5:=by simp[ckOk,ti,ck]
theorem cg9:ckOk ti ck 9:=by simp[ckOk,ti,ck]
theorem cg21:ckOk ti ck 21:=by simp[ckOk,ti,ck]
theorem cg22:ckOk ti ck 22:=by simp[ckOk,ti,ck]
theorem cg24:ckOk ti ck 24:=by simp[ckOk,ti,ck,contig]
theorem cg25:ckOk ti ck 25:=by simp[ckOk,ti,ck]
theorem cg27:ckOk ti ck 27:=by simp[ckOk,ti,ck,contig]
theorem cg28:ckOk ti ck 28:=by simp[ckOk,ti,ck]
theorem cg31:ckOk ti ck 31:=by simp[ckOk,ti,ck]
theorem cg34:ckOk ti ck 34:=by simp[ckOk,ti,ck]
theorem cg36:ckOk ti ck 36:=by simp[ckOk,ti,ck,contig]
theorem cg37:ckOk ti ck 37:=by simp[ckOk,ti,ck]
theorem cg39:ckOk ti ck 39:=by simp[ckOk,ti,ck,contig]
theorem cg41:ckOk ti ck 41:=by simp[ckOk,ti,ck]
theorem cg50:ckOk ti ck 50:=by simp[ckOk,ti,ck]
theorem cg52:ckOk ti ck 52:=by simp[ckOk,ti,ck]
theorem cg54:ckOk ti ck 54:=by simp[ckOk,ti,ck]
theorem cg62:ckOk ti ck 62:=by simp[ckOk,ti,ck,contig]
theorem cg68:ckOk ti ck 68:=by simp[ckOk,ti,ck]
theorem cg70:ckOk ti ck 70:=by simp[ckOk,ti,ck,contig]
theorem cg72:ckOk ti ck 72:=by simp[ckOk,ti,ck]
theorem cg74:ckOk ti ck 74:=by simp[ckOk,ti,ck,contig]
theorem cg81:ckOk ti ck 81:=by simp[ckOk,ti,ck]
theorem cg87:ckOk ti ck 87:=by simp[ckOk,ti,ck,contig]
theorem cg92:ckOk ti ck 92:=by simp[ckOk,ti,ck,contig]
theorem cg98:ckOk ti ck 98:=by simp[ckOk,ti,ck,contig]
theorem cg100:ckOk ti ck 100:=by simp[ckOk,ti,ck,contig]
theorem cg104:ckOk ti ck 104:=by simp[ckOk,ti,ck,contig]
theorem cg109:ckOk ti ck 109:=by simp[ckOk,ti,ck,contig]
theorem cg118:ckOk ti ck 118:=by simp[ckOk,ti,ck]
theorem cg120:ckOk ti ck 120:=by simp[ckOk,ti,ck,contig]
theorem cg121:ckOk ti ck 121:=by simp[ckOk,ti,ck]
theorem cg122:ckOk ti ck 122:=by simp[ckOk,ti,ck]
theorem cg124:ckOk ti ck 124:=by simp[ckOk,ti,ck,contig]
theorem cg126:ckOk ti ck 126:=by simp[ckOk,ti,ck,contig]
theorem cg128:ckOk ti ck 128:=by simp[ckOk,ti,ck,contig]
theorem cg139:ckOk ti ck 139:=by simp[ckOk,ti,ck]
theorem cg141:ckOk ti ck 141:=by simp[ckOk,ti,ck,contig]
theorem cg142:ckOk ti ck 142:=by simp[ckOk,ti,ck]
theorem cg144:ckOk ti ck 144:=by simp[ckOk,ti,ck,contig]
theorem cg146:ckOk ti ck 146:=by simp[ckOk,ti,ck,contig]
theorem cg150:ckOk ti ck 150:=by simp[ckOk,ti,ck,contig]
theorem cg171:ckOk ti ck 171:=by simp[ckOk,ti,ck,contig]
theorem cg172:ckOk ti ck 172:=by simp[ckOk,ti,ck]
theorem cg201:ckOk ti ck 201:=by simp[ckOk,ti,ck,contig]
theorem cg203:ckOk ti ck 203:=by simp[ckOk,ti,ck]
theorem cg205:ckOk ti ck 205:=by simp[ckOk,ti,ck,contig]
theorem cg222:ckOk ti ck 222:=by simp[ckOk,ti,ck]
theorem cg224:ckOk ti ck 224:=by simp[ckOk,ti,ck,contig]
theorem cg234:ckOk ti ck 234:=by simp[ckOk,ti,ck,contig]
theorem cg236:ckOk ti ck 236:=by simp[ckOk,ti,ck,contig]
theorem cg277:ckOk ti ck 277:=by simp[ckOk,ti,ck,contig]
theorem cg308:ckOk ti ck 308:=by simp[ckOk,ti,ck,contig]
theorem cg311:ckOk ti ck 311:=by simp[ckOk,ti,ck,contig]
theorem cg367:ckOk ti ck 367:=by simp[ckOk,ti,ck,contig]
theorem cg394:ckOk ti ck 394:=by simp[ckOk,ti,ck]
theorem cg415:ckOk ti ck 415:=by simp[ckOk,ti,ck]
theorem cg417:ckOk ti ck 417:=by simp[ckOk,ti,ck]
theorem cgood:CGood ti ck:=by
 intro t h
 unfold ti at h
 split at h
 ·exact cg2
 ·exact cg3
 ·exact cg4
 ·exact cg5
 ·exact cg9
 ·exact cg21
 ·exact cg22
 ·exact cg24
 ·exact cg25
 ·exact cg27
 ·exact cg28
 ·exact cg31
 ·exact cg34
 ·exact cg36
 ·exact cg37
 ·exact cg39
 ·exact cg41
 ·exact cg50
 ·exact cg52
 ·exact cg54
 ·exact cg62
 ·exact cg68
 ·exact cg70
 ·exact cg72
 ·exact cg74
 ·exact cg81
 ·exact cg87
 ·exact cg92
 ·exact cg98
 ·exact cg100
 ·exact cg104
 ·exact cg109
 ·exact cg118
 ·exact cg120
 ·exact cg121
 ·exact cg122
 ·exact cg124
 ·exact cg126
 ·exact cg128
 ·exact cg139
 ·exact cg141
 ·exact cg142
 ·exact cg144
 ·exact cg146
 ·exact cg150
 ·exact cg171
 ·exact cg172
 ·exact cg201
 ·exact cg203
 ·exact cg205
 ·exact cg222
 ·exact cg224
 ·exact cg234
 ·exact cg236
 ·exact cg277
 ·exact cg308
 ·exact cg311
 ·exact cg367
 ·exact cg394
 ·exact cg415
 ·exact cg417
 ·cases h
theorem hm:Tryz.prog.follows .mixedOrders=true:=by kernel_rfl
end Go.Proofs.YteeolohhmfjafaaGreat
