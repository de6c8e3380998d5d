import Derived.Test.YtanlbohhmoifcaaGreatG4
import Derived.Test.YtanlbohhmoifcaaGreatProg
import Derived.KernelRfl
set_option maxHeartbeats 8000000
set_option maxRecDepth 8000
namespace Go.Proofs.YtanlbohhmoifcaaGreat
open Go Go.Proofs Go.Sm
def ti:TT
 |2=> {ok:=true,desc:= .int .i64,sz:=1,by_:=8,zv:= .int .i64 0,z:= [.sc (.int .i64 0)]}
 |3=> {ok:=true,desc:= .int .i64,sz:=1,by_:=8,zv:= .int .i64 0,z:= [.sc (.int .i64 0)]}
 |4=> {ok:=true,desc:= .bool,sz:=1,by_:=1,zv:= .bool false,z:= [.sc (.bool false)]}
 |5=> {ok:=true,desc:= .int .u8,sz:=1,by_:=1,zv:= .int .u8 0,z:= [.sc (.int .u8 0)]}
 |9=> {ok:=true,desc:= .string,sz:=1,by_:=16,zv:= .string ⟨#[]⟩,z:= [.sc (.string ⟨#[]⟩)]}
 |21=> {ok:=true,desc:= .int .i32,sz:=1,by_:=4,zv:= .int .i32 0,z:= [.sc (.int .i32 0)]}
 |22=> {ok:=true,desc:= .slice 104,sz:=1,by_:=24,zv:= .slice none 0 0,z:= [.ls [.sc (.int .i64 0),.sc (.int .i64 0),.sc (.int .i64 0),.sc (.string ⟨#[]⟩),.ls [.sc (.int .i64 0),.sc (.int .i64 0),.sc (.string ⟨#[]⟩)] [],.ls [.sc (.int .i64 0),.sc (.int .i64 0),.sc (.string ⟨#[]⟩)] [],.sc (.int .i64 0),.sc (.string ⟨#[]⟩),.ls [.sc (.string ⟨#[]⟩),.sc (.int .i64 0),.sc (.bool false),.sc (.bool false),.sc (.int .i64 0),.sc (.int .i64 0),.sc (.string ⟨#[]⟩)] [],.ls [.sc (.string ⟨#[]⟩)] [],.sc (.string ⟨#[]⟩),.sc (.string ⟨#[]⟩)] []],ms:= [.o 104 (fun _=> [.s,.s,.s,.s,.o 164 (fun _=> [.s,.s,.s]),.o 164 (fun _=> [.s,.s,.s]),.s,.s,.o 196 (fun _=> [.s,.s,.s,.s,.s,.s,.s]),.o 9 (fun _=> [.s]),.s,.s])]}
 |25=> {ok:=true,desc:= .slice 106,sz:=1,by_:=24,zv:= .slice none 0 0,z:= [.ls [.sc (.int .i64 0),.sc (.int .i64 0),.sc (.int .i64 0),.sc (.string ⟨#[]⟩),.ls [.sc (.int .i64 0),.sc (.int .i64 0),.sc (.string ⟨#[]⟩)] [],.ls [.sc (.int .i64 0),.sc (.int .i64 0),.sc (.string ⟨#[]⟩)] [],.sc (.int .i64 0),.sc (.string ⟨#[]⟩),.ls [.sc (.string ⟨#[]⟩),.sc (.int .i64 0),.sc (.bool false),.sc (.bool false),.sc (.int .i64 0),.sc (.int .i64 0),.sc (.string ⟨#[]⟩)] [],.ls [.sc (.string ⟨#[]⟩)] [],.sc (.string ⟨#[]⟩),.sc (.string ⟨#[]⟩)] []],ms:= [.o 106 (fun _=> [.s,.s,.s,.s,.o 152 (fun _=> [.s,.s,.s]),.o 152 (fun _=> [.s,.s,.s]),.s,.s,.o 154 (fun _=> [.s,.s,.s,.s,.s,.s,.s]),.o 9 (fun _=> [.s]),.s,.s])]}
 |29=> {ok:=true,desc:= .slice 3,sz:=1,by_:=24,zv:= .slice none 0 0,z:= [.ls [.sc (.int .i64 0)] []],ms:= [.o 3 (fun _=> [.s])]}
 |34=> {ok:=true,desc:= .slice 116,sz:=1,by_:=24,zv:= .slice none 0 0,z:= [.ls [.sc (.string ⟨#[]⟩),.sc (.int .i64 0)] []],ms:= [.o 116 (fun _=> [.s,.s])]}
 |37=> {ok:=true,desc:= .slice 119,sz:=1,by_:=24,zv:= .slice none 0 0,z:= [.ls [.sc (.string ⟨#[]⟩),.sc (.int .i64 0)] []],ms:= [.o 119 (fun _=> [.s,.s])]}
 |45=> {ok:=true,desc:= .slice 164,sz:=1,by_:=24,zv:= .slice none 0 0,z:= [.ls [.sc (.int .i64 0),.sc (.int .i64 0),.sc (.string ⟨#[]⟩)] []],ms:= [.o 164 (fun _=> [.s,.s,.s])]}
 |47=> {ok:=true,desc:= .struct #[fld "Vals" 45 0 0 ""],sz:=1,by_:=24,zv:= .agg #[.slice none 0 0],z:= [.ls [.sc (.int .i64 0),.sc (.int .i64 0),.sc (.string ⟨#[]⟩)] []],ms:= [.o 164 (fun _=> [.s,.s,.s])]}
 |48=> {ok:=true,desc:= .slice 196,sz:=1,by_:=24,zv:= .slice none 0 0,z:= [.ls [.sc (.string ⟨#[]⟩),.sc (.int .i64 0),.sc (.bool false),.sc (.bool false),.sc (.int .i64 0),.sc (.int .i64 0),.sc (.string ⟨#[]⟩)] []],ms:= [.o 196 (fun _=> [.s,.s,.s,.s,.s,.s,.s])]}
 |49=> {ok:=true,desc:= .slice 9,sz:=1,by_:=24,zv:= .slice none 0 0,z:= [.ls [.sc (.string ⟨#[]⟩)] []],ms:= [.o 9 (fun _=> [.s])]}
 |51=> {ok:=true,desc:= .struct #[fld "Kind" 3 0 0 "",fld "Table" 9 1 8 "",fld "Cols" 48 2 24 "",fld "Keys" 49 3 48 "",fld "Name" 9 4 72 "",fld "To" 9 5 88 ""],sz:=6,by_:=104,zv:= .agg #[.int .i64 0,.string ⟨#[]⟩,.slice none 0 0,.slice none 0 0,.string ⟨#[]⟩,.string ⟨#[]⟩],z:= [.sc (.int .i64 0),.sc (.string ⟨#[]⟩),.ls [.sc (.string ⟨#[]⟩),.sc (.int .i64 0),.sc (.bool false),.sc (.bool false),.sc (.int .i64 0),.sc (.int .i64 0),.sc (.string ⟨#[]⟩)] [],.ls [.sc (.string ⟨#[]⟩)] [],.sc (.string ⟨#[]⟩),.sc (.string ⟨#[]⟩)],ms:= [.s,.s,.o 196 (fun _=> [.s,.s,.s,.s,.s,.s,.s]),.o 9 (fun _=> [.s]),.s,.s]}
 |53=> {ok:=true,desc:= .struct #[fld "Kind" 3 0 0 "",fld "Table" 9 1 8 "",fld "Key" 45 2 24 "",fld "Row" 47 3 48 "",fld "Ddl" 51 4 72 ""],sz:=10,by_:=176,zv:= .agg #[.int .i64 0,.string ⟨#[]⟩,.slice none 0 0,.slice none 0 0,.int .i64 0,.string ⟨#[]⟩,.slice none 0 0,.slice none 0 0,.string ⟨#[]⟩,.string ⟨#[]⟩],z:= [.sc (.int .i64 0),.sc (.string ⟨#[]⟩),.ls [.sc (.int .i64 0),.sc (.int .i64 0),.sc (.string ⟨#[]⟩)] [],.ls [.sc (.int .i64 0),.sc (.int .i64 0),.sc (.string ⟨#[]⟩)] [],.sc (.int .i64 0),.sc (.string ⟨#[]⟩),.ls [.sc (.string ⟨#[]⟩),.sc (.int .i64 0),.sc (.bool false),.sc (.bool false),.sc (.int .i64 0),.sc (.int .i64 0),.sc (.string ⟨#[]⟩)] [],.ls [.sc (.string ⟨#[]⟩)] [],.sc (.string ⟨#[]⟩),.sc (.string ⟨#[]⟩)],ms:= [.s,.s,.o 164 (fun _=> [.s,.s,.s]),.o 164 (fun _=> [.s,.s,.s]),.s,.s,.o 196 (fun _=> [.s,.s,.s,.s,.s,.s,.s]),.o 9 (fun _=> [.s]),.s,.s]}
 |56=> {ok:=true,desc:= .slice 152,sz:=1,by_:=24,zv:= .slice none 0 0,z:= [.ls [.sc (.int .i64 0),.sc (.int .i64 0),.sc (.string ⟨#[]⟩)] []],ms:= [.o 152 (fun _=> [.s,.s,.s])]}
 |58=> {ok:=true,desc:= .struct #[fld "Vals" 56 0 0 ""],sz:=1,by_:=24,zv:= .agg #[.slice none 0 0],z:= [.ls [.sc (.int .i64 0),.sc (.int .i64 0),.sc (.string ⟨#[]⟩)] []],ms:= [.o 152 (fun _=> [.s,.s,.s])]}
 |59=> {ok:=true,desc:= .slice 154,sz:=1,by_:=24,zv:= .slice none 0 0,z:= [.ls [.sc (.string ⟨#[]⟩),.sc (.int .i64 0),.sc (.bool false),.sc (.bool false),.sc (.int .i64 0),.sc (.int .i64 0),.sc (.string ⟨#[]⟩)] []],ms:= [.o 154 (fun _=> [.s,.s,.s,.s,.s,.s,.s])]}
 |61=> {ok:=true,desc:= .struct #[fld "Kind" 3 0 0 "",fld "Table" 9 1 8 "",fld "Cols" 59 2 24 "",fld "Keys" 49 3 48 "",fld "Name" 9 4 72 "",fld "To" 9 5 88 ""],sz:=6,by_:=104,zv:= .agg #[.int .i64 0,.string ⟨#[]⟩,.slice none 0 0,.slice none 0 0,.string ⟨#[]⟩,.string ⟨#[]⟩],z:= [.sc (.int .i64 0),.sc (.string ⟨#[]⟩),.ls [.sc (.string ⟨#[]⟩),.sc (.int .i64 0),.sc (.bool false),.sc (.bool false),.sc (.int .i64 0),.sc (.int .i64 0),.sc (.string ⟨#[]⟩)] [],.ls [.sc (.string ⟨#[]⟩)] [],.sc (.string ⟨#[]⟩),.sc (.string ⟨#[]⟩)],ms:= [.s,.s,.o 154 (fun _=> [.s,.s,.s,.s,.s,.s,.s]),.o 9 (fun _=> [.s]),.s,.s]}
 |63=> {ok:=true,desc:= .struct #[fld "Kind" 3 0 0 "",fld "Table" 9 1 8 "",fld "Key" 56 2 24 "",fld "Row" 58 3 48 "",fld "Ddl" 61 4 72 ""],sz:=10,by_:=176,zv:= .agg #[.int .i64 0,.string ⟨#[]⟩,.slice none 0 0,.slice none 0 0,.int .i64 0,.string ⟨#[]⟩,.slice none 0 0,.slice none 0 0,.string ⟨#[]⟩,.string ⟨#[]⟩],z:= [.sc (.int .i64 0),.sc (.string ⟨#[]⟩),.ls [.sc (.int .i64 0),.sc (.int .i64 0),.sc (.string ⟨#[]⟩)] [],.ls [.sc (.int .i64 0),.sc (.int .i64 0),.sc (.string ⟨#[]⟩)] [],.sc (.int .i64 0),.sc (.string ⟨#[]⟩),.ls [.sc (.string ⟨#[]⟩),.sc (.int .i64 0),.sc (.bool false),.sc (.bool false),.sc (.int .i64 0),.sc (.int .i64 0),.sc (.string ⟨#[]⟩)] [],.ls [.sc (.string ⟨#[]⟩)] [],.sc (.string ⟨#[]⟩),.sc (.string ⟨#[]⟩)],ms:= [.s,.s,.o 152 (fun _=> [.s,.s,.s]),.o 152 (fun _=> [.s,.s,.s]),.s,.s,.o 154 (fun _=> [.s,.s,.s,.s,.s,.s,.s]),.o 9 (fun _=> [.s]),.s,.s]}
 |68=> {ok:=true,desc:= .slice 202,sz:=1,by_:=24,zv:= .slice none 0 0,z:= [.ls [.sc (.string ⟨#[]⟩),.ls [.sc (.string ⟨#[]⟩),.sc (.int .i64 0),.sc (.bool false),.sc (.bool false),.sc (.int .i64 0),.sc (.int .i64 0),.sc (.string ⟨#[]⟩)] [],.ls [.sc (.string ⟨#[]⟩)] []] []],ms:= [.o 202 (fun _=> [.s,.o 154 (fun _=> [.s,.s,.s,.s,.s,.s,.s]),.o 9 (fun _=> [.s])])]}
 |70=> {ok:=true,desc:= .struct #[fld "Tables" 68 0 0 ""],sz:=1,by_:=24,zv:= .agg #[.slice none 0 0],z:= [.ls [.sc (.string ⟨#[]⟩),.ls [.sc (.string ⟨#[]⟩),.sc (.int .i64 0),.sc (.bool false),.sc (.bool false),.sc (.int .i64 0),.sc (.int .i64 0),.sc (.string ⟨#[]⟩)] [],.ls [.sc (.string ⟨#[]⟩)] []] []],ms:= [.o 202 (fun _=> [.s,.o 154 (fun _=> [.s,.s,.s,.s,.s,.s,.s]),.o 9 (fun _=> [.s])])]}
 |71=> {ok:=true,desc:= .slice 179,sz:=1,by_:=24,zv:= .slice none 0 0,z:= [.ls [.ls [.ls [.sc (.int .i64 0),.sc (.int .i64 0),.sc (.string ⟨#[]⟩)] []] []] []],ms:= [.o 179 (fun _=> [.o 58 (fun _=> [.o 152 (fun _=> [.s,.s,.s])])])]}
 |73=> {ok:=true,desc:= .struct #[fld "Cat" 70 0 0 "",fld "Data" 71 1 24 ""],sz:=2,by_:=48,zv:= .agg #[.slice none 0 0,.slice none 0 0],z:= [.ls [.sc (.string ⟨#[]⟩),.ls [.sc (.string ⟨#[]⟩),.sc (.int .i64 0),.sc (.bool false),.sc (.bool false),.sc (.int .i64 0),.sc (.int .i64 0),.sc (.string ⟨#[]⟩)] [],.ls [.sc (.string ⟨#[]⟩)] []] [],.ls [.ls [.ls [.sc (.int .i64 0),.sc (.int .i64 0),.sc (.string ⟨#[]⟩)] []] []] []],ms:= [.o 202 (fun _=> [.s,.o 154 (fun _=> [.s,.s,.s,.s,.s,.s,.s]),.o 9 (fun _=> [.s])]),.o 179 (fun _=> [.o 58 (fun _=> [.o 152 (fun _=> [.s,.s,.s])])])]}
 |79=> {ok:=true,desc:= .struct #[fld "Lsn" 3 0 0 "",fld "Db" 73 1 8 ""],sz:=3,by_:=56,zv:= .agg #[.int .i64 0,.slice none 0 0,.slice none 0 0],z:= [.sc (.int .i64 0),.ls [.sc (.string ⟨#[]⟩),.ls [.sc (.string ⟨#[]⟩),.sc (.int .i64 0),.sc (.bool false),.sc (.bool false),.sc (.int .i64 0),.sc (.int .i64 0),.sc (.string ⟨#[]⟩)] [],.ls [.sc (.string ⟨#[]⟩)] []] [],.ls [.ls [.ls [.sc (.int .i64 0),.sc (.int .i64 0),.sc (.string ⟨#[]⟩)] []] []] []],ms:= [.s,.o 202 (fun _=> [.s,.o 154 (fun _=> [.s,.s,.s,.s,.s,.s,.s]),.o 9 (fun _=> [.s])]),.o 179 (fun _=> [.o 58 (fun _=> [.o 152 (fun _=> [.s,.s,.s])])])]}
 |85=> {ok:=true,desc:= .struct #[fld "Base" 3 0 0 "",fld "Db" 73 1 8 "",fld "Recs" 25 3 56 ""],sz:=4,by_:=80,zv:= .agg #[.int .i64 0,.slice none 0 0,.slice none 0 0,.slice none 0 0],z:= [.sc (.int .i64 0),.ls [.sc (.string ⟨#[]⟩),.ls [.sc (.string ⟨#[]⟩),.sc (.int .i64 0),.sc (.bool false),.sc (.bool false),.sc (.int .i64 0),.sc (.int .i64 0),.sc (.string ⟨#[]⟩)] [],.ls [.sc (.string ⟨#[]⟩)] []] [],.ls [.ls [.ls [.sc (.int .i64 0),.sc (.int .i64 0),.sc (.string ⟨#[]⟩)] []] []] [],.ls [.sc (.int .i64 0),.sc (.int .i64 0),.sc (.int .i64 0),.sc (.string ⟨#[]⟩),.ls [.sc (.int .i64 0),.sc (.int .i64 0),.sc (.string ⟨#[]⟩)] [],.ls [.sc (.int .i64 0),.sc (.int .i64 0),.sc (.string ⟨#[]⟩)] [],.sc (.int .i64 0),.sc (.string ⟨#[]⟩),.ls [.sc (.string ⟨#[]⟩),.sc (.int .i64 0),.sc (.bool false),.sc (.bool false),.sc (.int .i64 0),.sc (.int .i64 0),.sc (.string ⟨#[]⟩)] [],.ls [.sc (.string ⟨#[]⟩)] [],.sc (.string ⟨#[]⟩),.sc (.string ⟨#[]⟩)] []],ms:= [.s,.o 202 (fun _=> [.s,.o 154 (fun _=> [.s,.s,.s,.s,.s,.s,.s]),.o 9 (fun _=> [.s])]),.o 179 (fun _=> [.o 58 (fun _=> [.o 152 (fun _=> [.s,.s,.s])])]),.o 106 (fun _=> [.s,.s,.s,.s,.o 152 (fun _=> [.s,.s,.s]),.o 152 (fun _=> [.s,.s,.s]),.s,.s,.o 154 (fun _=> [.s,.s,.s,.s,.s,.s,.s]),.o 9 (fun _=> [.s]),.s,.s])]}
 |90=> {ok:=true,desc:= .slice 224,sz:=1,by_:=24,zv:= .slice none 0 0,z:= [.ls [.sc (.string ⟨#[]⟩),.ls [.sc (.string ⟨#[]⟩),.sc (.int .i64 0),.sc (.bool false),.sc (.bool false),.sc (.int .i64 0),.sc (.int .i64 0),.sc (.string ⟨#[]⟩)] [],.ls [.sc (.string ⟨#[]⟩)] []] []],ms:= [.o 224 (fun _=> [.s,.o 196 (fun _=> [.s,.s,.s,.s,.s,.s,.s]),.o 9 (fun _=> [.s])])]}
 |92=> {ok:=true,desc:= .struct #[fld "Tables" 90 0 0 ""],sz:=1,by_:=24,zv:= .agg #[.slice none 0 0],z:= [.ls [.sc (.string ⟨#[]⟩),.ls [.sc (.string ⟨#[]⟩),.sc (.int .i64 0),.sc (.bool false),.sc (.bool false),.sc (.int .i64 0),.sc (.int .i64 0),.sc (.string ⟨#[]⟩)] [],.ls [.sc (.string ⟨#[]⟩)] []] []],ms:= [.o 224 (fun _=> [.s,.o 196 (fun _=> [.s,.s,.s,.s,.s,.s,.s]),.o 9 (fun _=> [.s])])]}
 |93=> {ok:=true,desc:= .slice 210,sz:=1,by_:=24,zv:= .slice none 0 0,z:= [.ls [.ls [.ls [.sc (.int .i64 0),.sc (.int .i64 0),.sc (.string ⟨#[]⟩)] []] []] []],ms:= [.o 210 (fun _=> [.o 47 (fun _=> [.o 164 (fun _=> [.s,.s,.s])])])]}
 |95=> {ok:=true,desc:= .struct #[fld "Cat" 92 0 0 "",fld "Data" 93 1 24 ""],sz:=2,by_:=48,zv:= .agg #[.slice none 0 0,.slice none 0 0],z:= [.ls [.sc (.string ⟨#[]⟩),.ls [.sc (.string ⟨#[]⟩),.sc (.int .i64 0),.sc (.bool false),.sc (.bool false),.sc (.int .i64 0),.sc (.int .i64 0),.sc (.string ⟨#[]⟩)] [],.ls [.sc (.string ⟨#[]⟩)] []] [],.ls [.ls [.ls [.sc (.int .i64 0),.sc (.int .i64 0),.sc (.string ⟨#[]⟩)] []] []] []],ms:= [.o 224 (fun _=> [.s,.o 196 (fun _=> [.s,.s,.s,.s,.s,.s,.s]),.o 9 (fun _=> [.s])]),.o 210 (fun _=> [.o 47 (fun _=> [.o 164 (fun _=> [.s,.s,.s])])])]}
 |97=> {ok:=true,desc:= .struct #[fld "Base" 3 0 0 "",fld "Db" 95 1 8 "",fld "Recs" 22 3 56 ""],sz:=4,by_:=80,zv:= .agg #[.int .i64 0,.slice none 0 0,.slice none 0 0,.slice none 0 0],z:= [.sc (.int .i64 0),.ls [.sc (.string ⟨#[]⟩),.ls [.sc (.string ⟨#[]⟩),.sc (.int .i64 0),.sc (.bool false),.sc (.bool false),.sc (.int .i64 0),.sc (.int .i64 0),.sc (.string ⟨#[]⟩)] [],.ls [.sc (.string ⟨#[]⟩)] []] [],.ls [.ls [.ls [.sc (.int .i64 0),.sc (.int .i64 0),.sc (.string ⟨#[]⟩)] []] []] [],.ls [.sc (.int .i64 0),.sc (.int .i64 0),.sc (.int .i64 0),.sc (.string ⟨#[]⟩),.ls [.sc (.int .i64 0),.sc (.int .i64 0),.sc (.string ⟨#[]⟩)] [],.ls [.sc (.int .i64 0),.sc (.int .i64 0),.sc (.string ⟨#[]⟩)] [],.sc (.int .i64 0),.sc (.string ⟨#[]⟩),.ls [.sc (.string ⟨#[]⟩),.sc (.int .i64 0),.sc (.bool false),.sc (.bool false),.sc (.int .i64 0),.sc (.int .i64 0),.sc (.string ⟨#[]⟩)] [],.ls [.sc (.string ⟨#[]⟩)] [],.sc (.string ⟨#[]⟩),.sc (.string ⟨#[]⟩)] []],ms:= [.s,.o 224 (fun _=> [.s,.o 196 (fun _=> [.s,.s,.s,.s,.s,.s,.s]),.o 9 (fun _=> [.s])]),.o 210 (fun _=> [.o 47 (fun _=> [.o 164 (fun _=> [.s,.s,.s])])]),.o 104 (fun _=> [.s,.s,.s,.s,.o 164 (fun _=> [.s,.s,.s]),.o 164 (fun _=> [.s,.s,.s]),.s,.s,.o 196 (fun _=> [.s,.s,.s,.s,.s,.s,.s]),.o 9 (fun _=> [.s]),.s,.s])]}
 |104=> {ok:=true,desc:= .struct #[fld "Kind" 3 0 0 "",fld "Xid" 3 1 8 "",fld "Stmt" 53 2 16 ""],sz:=12,by_:=192,zv:= .agg #[.int .i64 0,.int .i64 0,.int .i64 0,.string ⟨#[]⟩,.slice none 0 0,.slice none 0 0,.int .i64 0,.string ⟨#[]⟩,.slice none 0 0,.slice none 0 0,.string ⟨#[]⟩,.string ⟨#[]⟩],z:= [.sc (.int .i64 0),.sc (.int .i64 0),.sc (.int .i64 0),.sc (.string ⟨#[]⟩),.ls [.sc (.int .i64 0),.sc (.int .i64 0),.sc (.string ⟨#[]⟩)] [],.ls [.sc (.int .i64 0),.sc (.int .i64 0),.sc (.string ⟨#[]⟩)] [],.sc (.int .i64 0),.sc (.string ⟨#[]⟩),.ls [.sc (.string ⟨#[]⟩),.sc (.int .i64 0),.sc (.bool false),.sc (.bool false),.sc (.int .i64 0),.sc (.int .i64 0),.sc (.string ⟨#[]⟩)] [],.ls [.sc (.string ⟨#[]⟩)] [],.sc (.string ⟨#[]⟩),.sc (.string ⟨#[]⟩)],ms:= [.s,.s,.s,.s,.o 164 (fun _=> [.s,.s,.s]),.o 164 (fun _=> [.s,.s,.s]),.s,.s,.o 196 (fun _=> [.s,.s,.s,.s,.s,.s,.s]),.o 9 (fun _=> [.s]),.s,.s]}
 |106=> {ok:=true,desc:= .struct #[fld "Kind" 3 0 0 "",fld "Xid" 3 1 8 "",fld "Stmt" 63 2 16 ""],sz:=12,by_:=192,zv:= .agg #[.int .i64 0,.int .i64 0,.int .i64 0,.string ⟨#[]⟩,.slice none 0 0,.slice none 0 0,.int .i64 0,.string ⟨#[]⟩,.slice none 0 0,.slice none 0 0,.string ⟨#[]⟩,.string ⟨#[]⟩],z:= [.sc (.int .i64 0),.sc (.int .i64 0),.sc (.int .i64 0),.sc (.string ⟨#[]⟩),.ls [.sc (.int .i64 0),.sc (.int .i64 0),.sc (.string ⟨#[]⟩)] [],.ls [.sc (.int .i64 0),.sc (.int .i64 0),.sc (.string ⟨#[]⟩)] [],.sc (.int .i64 0),.sc (.string ⟨#[]⟩),.ls [.sc (.string ⟨#[]⟩),.sc (.int .i64 0),.sc (.bool false),.sc (.bool false),.sc (.int .i64 0),.sc (.int .i64 0),.sc (.string ⟨#[]⟩)] [],.ls [.sc (.string ⟨#[]⟩)] [],.sc (.string ⟨#[]⟩),.sc (.string ⟨#[]⟩)],ms:= [.s,.s,.s,.s,.o 152 (fun _=> [.s,.s,.s]),.o 152 (fun _=> [.s,.s,.s]),.s,.s,.o 154 (fun _=> [.s,.s,.s,.s,.s,.s,.s]),.o 9 (fun _=> [.s]),.s,.s]}
 |116=> {ok:=true,desc:= .struct #[fld "Name" 9 0 0 "",fld "At" 3 1 16 ""],sz:=2,by_:=24,zv:= .agg #[.string ⟨#[]⟩,.int .i64 0],z:= [.sc (.string ⟨#[]⟩),.sc (.int .i64 0)]}
 |119=> {ok:=true,desc:= .struct #[fld "Name" 9 0 0 "",fld "At" 3 1 16 ""],sz:=2,by_:=24,zv:= .agg #[.string ⟨#[]⟩,.int .i64 0],z:= [.sc (.string ⟨#[]⟩),.sc (.int .i64 0)],eqb:=true}
 |150=> {ok:=true,desc:= .slice 5,sz:=1,by_:=24,zv:= .slice none 0 0,z:= [.ls [.sc (.int .u8 0)] []],ms:= [.o 5 (fun _=> [.s])]}
 |152=> {ok:=true,desc:= .struct #[fld "Ty" 3 0 0 "",fld "N" 3 1 8 "",fld "S" 9 2 16 ""],sz:=3,by_:=32,zv:= .agg #[.int .i64 0,.int .i64 0,.string ⟨#[]⟩],z:= [.sc (.int .i64 0),.sc (.int .i64 0),.sc (.string ⟨#[]⟩)],eqb:=true}
 |154=> {ok:=true,desc:= .struct #[fld "Name" 9 0 0 "",fld "Ty" 3 1 16 "",fld "Not" 4 2 24 "",fld "Has" 4 3 25 "",fld "Def" 152 4 32 ""],sz:=7,by_:=64,zv:= .agg #[.string ⟨#[]⟩,.int .i64 0,.bool false,.bool false,.int .i64 0,.int .i64 0,.string ⟨#[]⟩],z:= [.sc (.string ⟨#[]⟩),.sc (.int .i64 0),.sc (.bool false),.sc (.bool false),.sc (.int .i64 0),.sc (.int .i64 0),.sc (.string ⟨#[]⟩)],eqb:=true}
 |164=> {ok:=true,desc:= .struct #[fld "Ty" 3 0 0 "",fld "N" 3 1 8 "",fld "S" 9 2 16 ""],sz:=3,by_:=32,zv:= .agg #[.int .i64 0,.int .i64 0,.string ⟨#[]⟩],z:= [.sc (.int .i64 0),.sc (.int .i64 0),.sc (.string ⟨#[]⟩)]}
 |174=> {ok:=true,desc:= .slice 63,sz:=1,by_:=24,zv:= .slice none 0 0,z:= [.ls [.sc (.int .i64 0),.sc (.string ⟨#[]⟩),.ls [.sc (.int .i64 0),.sc (.int .i64 0),.sc (.string ⟨#[]⟩)] [],.ls [.sc (.int .i64 0),.sc (.int .i64 0),.sc (.string ⟨#[]⟩)] [],.sc (.int .i64 0),.sc (.string ⟨#[]⟩),.ls [.sc (.string ⟨#[]⟩),.sc (.int .i64 0),.sc (.bool false),.sc (.bool false),.sc (.int .i64 0),.sc (.int .i64 0),.sc (.string ⟨#[]⟩)] [],.ls [.sc (.string ⟨#[]⟩)] [],.sc (.string ⟨#[]⟩),.sc (.string ⟨#[]⟩)] []],ms:= [.o 63 (fun _=> [.s,.s,.o 152 (fun _=> [.s,.s,.s]),.o 152 (fun _=> [.s,.s,.s]),.s,.s,.o 154 (fun _=> [.s,.s,.s,.s,.s,.s,.s]),.o 9 (fun _=> [.s]),.s,.s])]}
 |177=> {ok:=true,desc:= .slice 58,sz:=1,by_:=24,zv:= .slice none 0 0,z:= [.ls [.ls [.sc (.int .i64 0),.sc (.int .i64 0),.sc (.string ⟨#[]⟩)] []] []],ms:= [.o 58 (fun _=> [.o 152 (fun _=> [.s,.s,.s])])]}
 |179=> {ok:=true,desc:= .struct #[fld "Rows" 177 0 0 ""],sz:=1,by_:=24,zv:= .agg #[.slice none 0 0],z:= [.ls [.ls [.sc (.int .i64 0),.sc (.int .i64 0),.sc (.string ⟨#[]⟩)] []] []],ms:= [.o 58 (fun _=> [.o 152 (fun _=> [.s,.s,.s])])]}
 |196=> {ok:=true,desc:= .struct #[fld "Name" 9 0 0 "",fld "Ty" 3 1 16 "",fld "Not" 4 2 24 "",fld "Has" 4 3 25 "",fld "Def" 164 4 32 ""],sz:=7,by_:=64,zv:= .agg #[.string ⟨#[]⟩,.int .i64 0,.bool false,.bool false,.int .i64 0,.int .i64 0,.string ⟨#[]⟩],z:= [.sc (.string ⟨#[]⟩),.sc (.int .i64 0),.sc (.bool false),.sc (.bool false),.sc (.int .i64 0),.sc (.int .i64 0),.sc (.string ⟨#[]⟩)]}
 |202=> {ok:=true,desc:= .struct #[fld "Name" 9 0 0 "",fld "Cols" 59 1 16 "",fld "Keys" 49 2 40 ""],sz:=3,by_:=64,zv:= .agg #[.string ⟨#[]⟩,.slice none 0 0,.slice none 0 0],z:= [.sc (.string ⟨#[]⟩),.ls [.sc (.string ⟨#[]⟩),.sc (.int .i64 0),.sc (.bool false),.sc (.bool false),.sc (.int .i64 0),.sc (.int .i64 0),.sc (.string ⟨#[]⟩)] [],.ls [.sc (.string ⟨#[]⟩)] []],ms:= [.s,.o 154 (fun _=> [.s,.s,.s,.s,.s,.s,.s]),.o 9 (fun _=> [.s])]}
 |208=> {ok:=true,desc:= .slice 47,sz:=1,by_:=24,zv:= .slice none 0 0,z:= [.ls [.ls [.sc (.int .i64 0),.sc (.int .i64 0),.sc (.string ⟨#[]⟩)] []] []],ms:= [.o 47 (fun _=> [.o 164 (fun _=> [.s,.s,.s])])]}
 |210=> {ok:=true,desc:= .struct #[fld "Rows" 208 0 0 ""],sz:=1,by_:=24,zv:= .agg #[.slice none 0 0],z:= [.ls [.ls [.sc (.int .i64 0),.sc (.int .i64 0),.sc (.string ⟨#[]⟩)] []] []],ms:= [.o 47 (fun _=> [.o 164 (fun _=> [.s,.s,.s])])]}
 |224=> {ok:=true,desc:= .struct #[fld "Name" 9 0 0 "",fld "Cols" 48 1 16 "",fld "Keys" 49 2 40 ""],sz:=3,by_:=64,zv:= .agg #[.string ⟨#[]⟩,.slice none 0 0,.slice none 0 0],z:= [.sc (.string ⟨#[]⟩),.ls [.sc (.string ⟨#[]⟩),.sc (.int .i64 0),.sc (.bool false),.sc (.bool false),.sc (.int .i64 0),.sc (.int .i64 0),.sc (.string ⟨#[]⟩)] [],.ls [.sc (.string ⟨#[]⟩)] []],ms:= [.s,.o 196 (fun _=> [.s,.s,.s,.s,.s,.s,.s]),.o 9 (fun _=> [.s])]}
 |283=> {ok:=true,desc:= .int .u32,sz:=1,by_:=4,zv:= .int .u32 0,z:= [.sc (.int .u32 0)]}
 |_=> {}
def ck:Nat→List CK
 |2=> [.int .i64]
 |3=> [.int .i64]
 |4=> [.bool]
 |5=> [.int .u8]
 |9=> [.str]
 |21=> [.int .i32]
 |22=> [.sl 104]
 |25=> [.sl 106]
 |29=> [.sl 3]
 |34=> [.sl 116]
 |37=> [.sl 119]
 |45=> [.sl 164]
 |47=> [.sl 164]
 |48=> [.sl 196]
 |49=> [.sl 9]
 |51=> [.int .i64,.str,.sl 196,.sl 9,.str,.str]
 |53=> [.int .i64,.str,.sl 164,.sl 164,.int .i64,.str,.sl 196,.sl 9,.str,.str]
 |56=> [.sl 152]
 |58=> [.sl 152]
 |59=> [.sl 154]
 |61=> [.int .i64,.str,.sl 154,.sl 9,.str,.str]
 |63=> [.int .i64,.str,.sl 152,.sl 152,.int .i64,.str,.sl 154,.sl 9,.str,.str]
 |68=> [.sl 202]
 |70=> [.sl 202]
 |71=> [.sl 179]
 |73=> [.sl 202,.sl 179]
 |79=> [.int .i64,.sl 202,.sl 179]
 |85=> [.int .i64,.sl 202,.sl 179,.sl 106]
 |90=> [.sl 224]
 |92=> [.sl 224]
 |93=> [.sl 210]
 |95=> [.sl 224,.sl 210]
 |97=> [.int .i64,.sl 224,.sl 210,.sl 104]
 |104=> [.int .i64,.int .i64,.int .i64,.str,.sl 164,.sl 164,.int .i64,.str,.sl 196,.sl 9,.str,.str]
 |106=> [.int .i64,.int .i64,.int .i64,.str,.sl 152,.sl 152,.int .i64,.str,.sl 154,.sl 9,.str,.str]
 |116=> [.str,.int .i64]
 |119=> [.str,.int .i64]
 |150=> [.sl 5]
 |152=> [.int .i64,.int .i64,.str]
 |154=> [.str,.int .i64,.bool,.bool,.int .i64,.int .i64,.str]
 |164=> [.int .i64,.int .i64,.str]
 |174=> [.sl 63]
 |177=> [.sl 58]
 |179=> [.sl 58]
 |196=> [.str,.int .i64,.bool,.bool,.int .i64,.int .i64,.str]
 |202=> [.str,.sl 154,.sl 9]
 |208=> [.sl 47]
 |210=> [.sl 47]
 |224=> [.str,.sl 196,.sl 9]
 |283=> [.int .u32]
 |_=> []
theorem good2:(ti 2).good Tryz.prog 2:=good_sc (v:= .int .i64 0) rfl rfl rfl rfl (by decide) rfl (by intro _ _ h;cases h) (by kernel_rfl) (by kernel_rfl) (fun _=>rfl)
theorem good3:(ti 3).good Tryz.prog 3:=good_sc (v:= .int .i64 0) rfl rfl rfl rfl (by decide) rfl (by intro _ _ h;cases h) (by kernel_rfl) (by kernel_rfl) (fun _=>rfl)
theorem good4:(ti 4).good Tryz.prog 4:=good_sc (v:= .bool false) rfl rfl rfl rfl (by decide) rfl (by intro _ _ h;cases h) (by kernel_rfl) (by kernel_rfl) (fun _=>rfl)
theorem good5:(ti 5).good Tryz.prog 5:=good_sc (v:= .int .u8 0) rfl rfl rfl rfl (by decide) rfl (by intro _ _ h;cases h) (by kernel_rfl) (by kernel_rfl) (fun _=>rfl)
theorem good9:(ti 9).good Tryz.prog 9:=good_sc (v:= .string ⟨#[]⟩) rfl rfl rfl rfl (by decide) rfl (by intro _ _ h;cases h) (by kernel_rfl) (by kernel_rfl) (fun _=>rfl)
theorem good21:(ti 21).good Tryz.prog 21:=good_sc (v:= .int .i32 0) rfl rfl rfl rfl (by decide) rfl (by intro _ _ h;cases h) (by kernel_rfl) (by kernel_rfl) (fun _=>rfl)
theorem good22:(ti 22).good Tryz.prog 22:=good_sl (zz:= [.sc (.int .i64 0),.sc (.int .i64 0),.sc (.int .i64 0),.sc (.string ⟨#[]⟩),.ls [.sc (.int .i64 0),.sc (.int .i64 0),.sc (.string ⟨#[]⟩)] [],.ls [.sc (.int .i64 0),.sc (.int .i64 0),.sc (.string ⟨#[]⟩)] [],.sc (.int .i64 0),.sc (.string ⟨#[]⟩),.ls [.sc (.string ⟨#[]⟩),.sc (.int .i64 0),.sc (.bool false),.sc (.bool false),.sc (.int .i64 0),.sc (.int .i64 0),.sc (.string ⟨#[]⟩)] [],.ls [.sc (.string ⟨#[]⟩)] [],.sc (.string ⟨#[]⟩),.sc (.string ⟨#[]⟩)]) rfl rfl rfl rfl (by decide) (by kernel_rfl) (by kernel_rfl)
theorem good25:(ti 25).good Tryz.prog 25:=good_sl (zz:= [.sc (.int .i64 0),.sc (.int .i64 0),.sc (.int .i64 0),.sc (.string ⟨#[]⟩),.ls [.sc (.int .i64 0),.sc (.int .i64 0),.sc (.string ⟨#[]⟩)] [],.ls [.sc (.int .i64 0),.sc (.int .i64 0),.sc (.string ⟨#[]⟩)] [],.sc (.int .i64 0),.sc (.string ⟨#[]⟩),.ls [.sc (.string ⟨#[]⟩),.sc (.int .i64 0),.sc (.bool false),.sc (.bool false),.sc (.int .i64 0),.sc (.int .i64 0),.sc (.string ⟨#[]⟩)] [],.ls [.sc (.string ⟨#[]⟩)] [],.sc (.string ⟨#[]⟩),.sc (.string ⟨#[]⟩)]) rfl rfl rfl rfl (by decide) (by kernel_rfl) (by kernel_rfl)
theorem good29:(ti 29).good Tryz.prog 29:=good_sl (zz:= [.sc (.int .i64 0)]) rfl rfl rfl rfl (by decide) (by kernel_rfl) (by kernel_rfl)
theorem good34:(ti 34).good Tryz.prog 34:=good_sl (zz:= [.sc (.string ⟨#[]⟩),.sc (.int .i64 0)]) rfl rfl rfl rfl (by decide) (by kernel_rfl) (by kernel_rfl)
theorem good37:(ti 37).good Tryz.prog 37:=good_sl (zz:= [.sc (.string ⟨#[]⟩),.sc (.int .i64 0)]) rfl rfl rfl rfl (by decide) (by kernel_rfl) (by kernel_rfl)
theorem good45:(ti 45).good Tryz.prog 45:=good_sl (zz:= [.sc (.int .i64 0),.sc (.int .i64 0),.sc (.string ⟨#[]⟩)]) rfl rfl rfl rfl (by decide) (by kernel_rfl) (by kernel_rfl)
theorem good47:(ti 47).good Tryz.prog 47:=good_st (fs:= #[fld "Vals" 45 0 0 ""]) (cs:= #[.slice none 0 0]) rfl rfl rfl rfl (by decide) (by decide) (zOk_ok rfl) (by kernel_rfl) (by kernel_rfl) (by kernel_rfl)
theorem good48:(ti 48).good Tryz.prog 48:=good_sl (zz:= [.sc (.string ⟨#[]⟩),.sc (.int .i64 0),.sc (.bool false),.sc (.bool false),.sc (.int .i64 0),.sc (.int .i64 0),.sc (.string ⟨#[]⟩)]) rfl rfl rfl rfl (by decide) (by kernel_rfl) (by kernel_rfl)
theorem good49:(ti 49).good Tryz.prog 49:=good_sl (zz:= [.sc (.string ⟨#[]⟩)]) rfl rfl rfl rfl (by decide) (by kernel_rfl) (by kernel_rfl)
theorem good51:(ti 51).good Tryz.prog 51:=good_st (fs:= #[fld "Kind" 3 0 0 "",fld "Table" 9 1 8 "",fld "Cols" 48 2 24 "",fld "Keys" 49 3 48 "",fld "Name" 9 4 72 "",fld "To" 9 5 88 ""]) (cs:= #[.int .i64 0,.string ⟨#[]⟩,.slice none 0 0,.slice none 0 0,.string ⟨#[]⟩,.string ⟨#[]⟩]) rfl rfl rfl rfl (by decide) (by decide) (zOk_ok rfl) (by kernel_rfl) (by kernel_rfl) (by kernel_rfl)
theorem good53:(ti 53).good Tryz.prog 53:=good_st (fs:= #[fld "Kind" 3 0 0 "",fld "Table" 9 1 8 "",fld "Key" 45 2 24 "",fld "Row" 47 3 48 "",fld "Ddl" 51 4 72 ""]) (cs:= #[.int .i64 0,.string ⟨#[]⟩,.slice none 0 0,.slice none 0 0,.int .i64 0,.string ⟨#[]⟩,.slice none 0 0,.slice none 0 0,.string ⟨#[]⟩,.string ⟨#[]⟩]) rfl rfl rfl rfl (by decide) (by decide) (zOk_ok rfl) (by kernel_rfl) (by kernel_rfl) (by kernel_rfl)
theorem good56:(ti 56).good Tryz.prog 56:=good_sl (zz:= [.sc (.int .i64 0),.sc (.int .i64 0),.sc (.string ⟨#[]⟩)]) rfl rfl rfl rfl (by decide) (by kernel_rfl) (by kernel_rfl)
theorem good58:(ti 58).good Tryz.prog 58:=good_st (fs:= #[fld "Vals" 56 0 0 ""]) (cs:= #[.slice none 0 0]) rfl rfl rfl rfl (by decide) (by decide) (zOk_ok rfl) (by kernel_rfl) (by kernel_rfl) (by kernel_rfl)
theorem good59:(ti 59).good Tryz.prog 59:=good_sl (zz:= [.sc (.string ⟨#[]⟩),.sc (.int .i64 0),.sc (.bool false),.sc (.bool false),.sc (.int .i64 0),.sc (.int .i64 0),.sc (.string ⟨#[]⟩)]) rfl rfl rfl rfl (by decide) (by kernel_rfl) (by kernel_rfl)
theorem good61:(ti 61).good Tryz.prog 61:=good_st (fs:= #[fld "Kind" 3 0 0 "",fld "Table" 9 1 8 "",fld "Cols" 59 2 24 "",fld "Keys" 49 3 48 "",fld "Name" 9 4 72 "",fld "To" 9 5 88 ""]) (cs:= #[.int .i64 0,.string ⟨#[]⟩,.slice none 0 0,.slice none 0 0,.string ⟨#[]⟩,.string ⟨#[]⟩]) rfl rfl rfl rfl (by decide) (by decide) (zOk_ok rfl) (by kernel_rfl) (by kernel_rfl) (by kernel_rfl)
theorem good63:(ti 63).good Tryz.prog 63:=good_st (fs:= #[fld "Kind" 3 0 0 "",fld "Table" 9 1 8 "",fld "Key" 56 2 24 "",fld "Row" 58 3 48 "",fld "Ddl" 61 4 72 ""]) (cs:= #[.int .i64 0,.string ⟨#[]⟩,.slice none 0 0,.slice none 0 0,.int .i64 0,.string ⟨#[]⟩,.slice none 0 0,.slice none 0 0,.string ⟨#[]⟩,.string ⟨#[]⟩]) rfl rfl rfl rfl (by decide) (by decide) (zOk_ok rfl) (by kernel_rfl) (by kernel_rfl) (by kernel_rfl)
theorem good68:(ti 68).good Tryz.prog 68:=good_sl (zz:= [.sc (.string ⟨#[]⟩),.ls [.sc (.string ⟨#[]⟩),.sc (.int .i64 0),.sc (.bool false),.sc (.bool false),.sc (.int .i64 0),.sc (.int .i64 0),.sc (.string ⟨#[]⟩)] [],.ls [.sc (.string ⟨#[]⟩)] []]) rfl rfl rfl rfl (by decide) (by kernel_rfl) (by kernel_rfl)
theorem good70:(ti 70).good Tryz.prog 70:=good_st (fs:= #[fld "Tables" 68 0 0 ""]) (cs:= #[.slice none 0 0]) rfl rfl rfl rfl (by decide) (by decide) (zOk_ok rfl) (by kernel_rfl) (by kernel_rfl) (by kernel_rfl)
theorem good71:(ti 71).good Tryz.prog 71:=good_sl (zz:= [.ls [.ls [.sc (.int .i64 0),.sc (.int .i64 0),.sc (.string ⟨#[]⟩)] []] []]) rfl rfl rfl rfl (by decide) (by kernel_rfl) (by kernel_rfl)
theorem good73:(ti 73).good Tryz.prog 73:=good_st (fs:= #[fld "Cat" 70 0 0 "",fld "Data" 71 1 24 ""]) (cs:= #[.slice none 0 0,.slice none 0 0]) rfl rfl rfl rfl (by decide) (by decide) (zOk_ok rfl) (by kernel_rfl) (by kernel_rfl) (by kernel_rfl)
theorem good79:(ti 79).good Tryz.prog 79:=good_st (fs:= #[fld "Lsn" 3 0 0 "",fld "Db" 73 1 8 ""]) (cs:= #[.int .i64 0,.slice none 0 0,.slice none 0 0]) rfl rfl rfl rfl (by decide) (by decide) (zOk_ok rfl) (by kernel_rfl) (by kernel_rfl) (by kernel_rfl)
theorem good85:(ti 85).good Tryz.prog 85:=good_st (fs:= #[fld "Base" 3 0 0 "",fld "Db" 73 1 8 "",fld "Recs" 25 3 56 ""]) (cs:= #[.int .i64 0,.slice none 0 0,.slice none 0 0,.slice none 0 0]) rfl rfl rfl rfl (by decide) (by decide) (zOk_ok rfl) (by kernel_rfl) (by kernel_rfl) (by kernel_rfl)
theorem good90:(ti 90).good Tryz.prog 90:=good_sl (zz:= [.sc (.string ⟨#[]⟩),.ls [.sc (.string ⟨#[]⟩),.sc (.int .i64 0),.sc (.bool false),.sc (.bool false),.sc (.int .i64 0),.sc (.int .i64 0),.sc (.string ⟨#[]⟩)] [],.ls [.sc (.string ⟨#[]⟩)] []]) rfl rfl rfl rfl (by decide) (by kernel_rfl) (by kernel_rfl)
theorem good92:(ti 92).good Tryz.prog 92:=good_st (fs:= #[fld "Tables" 90 0 0 ""]) (cs:= #[.slice none 0 0]) rfl rfl rfl rfl (by decide) (by decide) (zOk_ok rfl) (by kernel_rfl) (by kernel_rfl) (by kernel_rfl)
theorem good93:(ti 93).good Tryz.prog 93:=good_sl (zz:= [.ls [.ls [.sc (.int .i64 0),.sc (.int .i64 0),.sc (.string ⟨#[]⟩)] []] []]) rfl rfl rfl rfl (by decide) (by kernel_rfl) (by kernel_rfl)
theorem good95:(ti 95).good Tryz.prog 95:=good_st (fs:= #[fld "Cat" 92 0 0 "",fld "Data" 93 1 24 ""]) (cs:= #[.slice none 0 0,.slice none 0 0]) rfl rfl rfl rfl (by decide) (by decide) (zOk_ok rfl) (by kernel_rfl) (by kernel_rfl) (by kernel_rfl)
theorem good97:(ti 97).good Tryz.prog 97:=good_st (fs:= #[fld "Base" 3 0 0 "",fld "Db" 95 1 8 "",fld "Recs" 22 3 56 ""]) (cs:= #[.int .i64 0,.slice none 0 0,.slice none 0 0,.slice none 0 0]) rfl rfl rfl rfl (by decide) (by decide) (zOk_ok rfl) (by kernel_rfl) (by kernel_rfl) (by kernel_rfl)
theorem good104:(ti 104).good Tryz.prog 104:=good_st (fs:= #[fld "Kind" 3 0 0 "",fld "Xid" 3 1 8 "",fld "Stmt" 53 2 16 ""]) (cs:= #[.int .i64 0,.int .i64 0,.int .i64 0,.string ⟨#[]⟩,.slice none 0 0,.slice none 0 0,.int .i64 0,.string ⟨#[]⟩,.slice none 0 0,.slice none 0 0,.string ⟨#[]⟩,.string ⟨#[]⟩]) rfl rfl rfl rfl (by decide) (by decide) (zOk_ok rfl) (by kernel_rfl) (by kernel_rfl) (by kernel_rfl)
theorem good106:(ti 106).good Tryz.prog 106:=good_st (fs:= #[fld "Kind" 3 0 0 "",fld "Xid" 3 1 8 "",fld "Stmt" 63 2 16 ""]) (cs:= #[.int .i64 0,.int .i64 0,.int .i64 0,.string ⟨#[]⟩,.slice none 0 0,.slice none 0 0,.int .i64 0,.string ⟨#[]⟩,.slice none 0 0,.slice none 0 0,.string ⟨#[]⟩,.string ⟨#[]⟩]) rfl rfl rfl rfl (by decide) (by decide) (zOk_ok rfl) (by kernel_rfl) (by kernel_rfl) (by kernel_rfl)
theorem good116:(ti 116).good Tryz.prog 116:=good_st (fs:= #[fld "Name" 9 0 0 "",fld "At" 3 1 16 ""]) (cs:= #[.string ⟨#[]⟩,.int .i64 0]) rfl rfl rfl rfl (by decide) (by decide) (zOk_ok rfl) (by kernel_rfl) (by kernel_rfl) (by kernel_rfl)
theorem good119:(ti 119).good Tryz.prog 119:=good_st (fs:= #[fld "Name" 9 0 0 "",fld "At" 3 1 16 ""]) (cs:= #[.string ⟨#[]⟩,.int .i64 0]) rfl rfl rfl rfl (by decide) (by decide) (zOk_ok rfl) (by kernel_rfl) (by kernel_rfl) (by kernel_rfl)
theorem good150:(ti 150).good Tryz.prog 150:=good_sl (zz:= [.sc (.int .u8 0)]) rfl rfl rfl rfl (by decide) (by kernel_rfl) (by kernel_rfl)
theorem good152:(ti 152).good Tryz.prog 152:=good_st (fs:= #[fld "Ty" 3 0 0 "",fld "N" 3 1 8 "",fld "S" 9 2 16 ""]) (cs:= #[.int .i64 0,.int .i64 0,.string ⟨#[]⟩]) rfl rfl rfl rfl (by decide) (by decide) (zOk_ok rfl) (by kernel_rfl) (by kernel_rfl) (by kernel_rfl)
theorem good154:(ti 154).good Tryz.prog 154:=good_st (fs:= #[fld "Name" 9 0 0 "",fld "Ty" 3 1 16 "",fld "Not" 4 2 24 "",fld "Has" 4 3 25 "",fld "Def" 152 4 32 ""]) (cs:= #[.string ⟨#[]⟩,.int .i64 0,.bool false,.bool false,.int .i64 0,.int .i64 0,.string ⟨#[]⟩]) rfl rfl rfl rfl (by decide) (by decide) (zOk_ok rfl) (by kernel_rfl) (by kernel_rfl) (by kernel_rfl)
theorem good164:(ti 164).good Tryz.prog 164:=good_st (fs:= #[fld "Ty" 3 0 0 "",fld "N" 3 1 8 "",fld "S" 9 2 16 ""]) (cs:= #[.int .i64 0,.int .i64 0,.string ⟨#[]⟩]) rfl rfl rfl rfl (by decide) (by decide) (zOk_ok rfl) (by kernel_rfl) (by kernel_rfl) (by kernel_rfl)
theorem good174:(ti 174).good Tryz.prog 174:=good_sl (zz:= [.sc (.int .i64 0),.sc (.string ⟨#[]⟩),.ls [.sc (.int .i64 0),.sc (.int .i64 0),.sc (.string ⟨#[]⟩)] [],.ls [.sc (.int .i64 0),.sc (.int .i64 0),.sc (.string ⟨#[]⟩)] [],.sc (.int .i64 0),.sc (.string ⟨#[]⟩),.ls [.sc (.string ⟨#[]⟩),.sc (.int .i64 0),.sc (.bool false),.sc (.bool false),.sc (.int .i64 0),.sc (.int .i64 0),.sc (.string ⟨#[]⟩)] [],.ls [.sc (.string ⟨#[]⟩)] [],.sc (.string ⟨#[]⟩),.sc (.string ⟨#[]⟩)]) rfl rfl rfl rfl (by decide) (by kernel_rfl) (by kernel_rfl)
theorem good177:(ti 177).good Tryz.prog 177:=good_sl (zz:= [.ls [.sc (.int .i64 0),.sc (.int .i64 0),.sc (.string ⟨#[]⟩)] []]) rfl rfl rfl rfl (by decide) (by kernel_rfl) (by kernel_rfl)
theorem good179:(ti 179).good Tryz.prog 179:=good_st (fs:= #[fld "Rows" 177 0 0 ""]) (cs:= #[.slice none 0 0]) rfl rfl rfl rfl (by decide) (by decide) (zOk_ok rfl) (by kernel_rfl) (by kernel_rfl) (by kernel_rfl)
theorem good196:(ti 196).good Tryz.prog 196:=good_st (fs:= #[fld "Name" 9 0 0 "",fld "Ty" 3 1 16 "",fld "Not" 4 2 24 "",fld "Has" 4 3 25 "",fld "Def" 164 4 32 ""]) (cs:= #[.string ⟨#[]⟩,.int .i64 0,.bool false,.bool false,.int .i64 0,.int .i64 0,.string ⟨#[]⟩]) rfl rfl rfl rfl (by decide) (by decide) (zOk_ok rfl) (by kernel_rfl) (by kernel_rfl) (by kernel_rfl)
theorem good202:(ti 202).good Tryz.prog 202:=good_st (fs:= #[fld "Name" 9 0 0 "",fld "Cols" 59 1 16 "",fld "Keys" 49 2 40 ""]) (cs:= #[.string ⟨#[]⟩,.slice none 0 0,.slice none 0 0]) rfl rfl rfl rfl (by decide) (by decide) (zOk_ok rfl) (by kernel_rfl) (by kernel_rfl) (by kernel_rfl)
theorem good208:(ti 208).good Tryz.prog 208:=good_sl (zz:= [.ls [.sc (.int .i64 0),.sc (.int .i64 0),.sc (.string ⟨#[]⟩)] []]) rfl rfl rfl rfl (by decide) (by kernel_rfl) (by kernel_rfl)
theorem good210:(ti 210).good Tryz.prog 210:=good_st (fs:= #[fld "Rows" 208 0 0 ""]) (cs:= #[.slice none 0 0]) rfl rfl rfl rfl (by decide) (by decide) (zOk_ok rfl) (by kernel_rfl) (by kernel_rfl) (by kernel_rfl)
theorem good224:(ti 224).good Tryz.prog 224:=good_st (fs:= #[fld "Name" 9 0 0 "",fld "Cols" 48 1 16 "",fld "Keys" 49 2 40 ""]) (cs:= #[.string ⟨#[]⟩,.slice none 0 0,.slice none 0 0]) rfl rfl rfl rfl (by decide) (by decide) (zOk_ok rfl) (by kernel_rfl) (by kernel_rfl) (by kernel_rfl)
theorem good283:(ti 283).good Tryz.prog 283:=good_sc (v:= .int .u32 0) rfl rfl rfl rfl (by decide) rfl (by intro _ _ h;cases h) (by kernel_rfl) (by kernel_rfl) (fun _=>rfl)
theorem eq9:eqAt Tryz.prog (ti 9) 9 1:=eqAt_str (s:=⟨#[]⟩) rfl rfl (by kernel_rfl)
theorem eq3:eqAt Tryz.prog (ti 3) 3 1:=eqAt_int (n:=0) rfl rfl (by kernel_rfl)
theorem eq119:eqAt Tryz.prog (ti 119) 119 2:=eqAt_st (fs:= [fld "Name" 9 0 0 "",fld "At" 3 1 16 ""]) (by kernel_rfl) (by kernel_rfl) (by kernel_rfl) rfl ⟨by decide,rfl,good9,rfl,rfl,eqAt_up eq9 (by decide),⟨by decide,rfl,good3,rfl,rfl,eqAt_up eq3 (by decide),rfl⟩⟩
theorem eq152:eqAt Tryz.prog (ti 152) 152 2:=eqAt_st (fs:= [fld "Ty" 3 0 0 "",fld "N" 3 1 8 "",fld "S" 9 2 16 ""]) (by kernel_rfl) (by kernel_rfl) (by kernel_rfl) rfl ⟨by decide,rfl,good3,rfl,rfl,eqAt_up eq3 (by decide),⟨by decide,rfl,good3,rfl,rfl,eqAt_up eq3 (by decide),⟨by decide,rfl,good9,rfl,rfl,eqAt_up eq9 (by decide),rfl⟩⟩⟩
theorem eq4:eqAt Tryz.prog (ti 4) 4 1:=eqAt_bool (s:=false) rfl rfl (by kernel_rfl)
theorem eq154:eqAt Tryz.prog (ti 154) 154 3:=eqAt_st (fs:= [fld "Name" 9 0 0 "",fld "Ty" 3 1 16 "",fld "Not" 4 2 24 "",fld "Has" 4 3 25 "",fld "Def" 152 4 32 ""]) (by kernel_rfl) (by kernel_rfl) (by kernel_rfl) rfl ⟨by decide,rfl,good9,rfl,rfl,eqAt_up eq9 (by decide),⟨by decide,rfl,good3,rfl,rfl,eqAt_up eq3 (by decide),⟨by decide,rfl,good4,rfl,rfl,eqAt_up eq4 (by decide),⟨by decide,rfl,good4,rfl,rfl,eqAt_up eq4 (by decide),⟨by decide,rfl,good152,rfl,rfl,eqAt_up eq152 (by decide),rfl⟩⟩⟩⟩⟩
theorem good': ∀t,(ti t).ok=true→(ti t).good Tryz.prog t:=by
 intro t h
 unfold ti at h
 split at h
 ·exact good2
 ·exact good3
 ·exact good4
 ·exact good5
 ·exact good9
 ·exact good21
 ·exact good22
 ·exact good25
 ·exact good29
 ·exact good34
 ·exact good37
 ·exact good45
 ·exact good47
 ·exact good48
 ·exact good49
 ·exact good51
 ·exact good53
 ·exact good56
 ·exact good58
 ·exact good59
 ·exact good61
 ·exact good63
 ·exact good68
 ·exact good70
 ·exact good71
 ·exact good73
 ·exact good79
 ·exact good85
 ·exact good90
 ·exact good92
 ·exact good93
 ·exact good95
 ·exact good97
 ·exact good104
 ·exact good106
 ·exact good116
 ·exact good119
 ·exact good150
 ·exact good152
 ·exact good154
 ·exact good164
 ·exact good174
 ·exact good177
 ·exact good179
 ·exact good196
 ·exact good202
 ·exact good208
 ·exact good210
 ·exact good224
 ·exact good283
 ·cases h
theorem gooe: ∀t,(ti t).eqb=true→eqAt Tryz.prog (ti t) t 5000∧Tryz.prog.eqGuardType Tryz.prog.depth t=false:=by
 intro t h
 have h0:=h
 unfold ti at h
 split at h
 ·cases h
 ·cases h
 ·cases h
 ·cases h
 ·cases h
 ·cases h
 ·cases h
 ·cases h
 ·cases h
 ·cases h
 ·cases h
 ·cases h
 ·cases h
 ·cases h
 ·cases h
 ·cases h
 ·cases h
 ·cases h
 ·cases h
 ·cases h
 ·cases h
 ·cases h
 ·cases h
 ·cases h
 ·cases h
 ·cases h
 ·cases h
 ·cases h
 ·cases h
 ·cases h
 ·cases h
 ·cases h
 ·cases h
 ·cases h
 ·cases h
 ·cases h
 ·exact ⟨eqAt_up eq119 (by decide),by kernel_rfl⟩
 ·cases h
 ·exact ⟨eqAt_up eq152 (by decide),by kernel_rfl⟩
 ·exact ⟨eqAt_up eq154 (by decide),by kernel_rfl⟩
 ·cases h
 ·cases h
 ·cases h
 ·cases h
 ·cases h
 ·cases h
 ·cases h
 ·cases h
 ·cases h
 ·cases h
 ·cases h
theorem good:TGood Tryz.prog ti:=⟨good',gooe⟩
theorem cg2:ckOk ti ck 2:=by simp[ckOk,ti,ck]
theorem cg3:ckOk ti ck 3:=by simp[ckOk,ti,ck]
theorem cg4:ckOk ti ck 4:=by simp[ckOk,ti,ck]
theorem cg5:ckOk ti ck 5:=by simp[ckOk,ti,ck]
theorem cg9:ckOk ti ck 9:=by simp[ckOk,ti,ck]
theorem cg21:ckOk ti ck 21:=by simp[ckOk,ti,ck]
theorem cg22:ckOk ti ck 22:=by simp[ckOk,ti,ck]
theorem cg25:ckOk ti ck 25:=by simp[ckOk,ti,ck]
theorem cg29:ckOk ti ck 29:=by simp[ckOk,ti,ck]
theorem cg34:ckOk ti ck 34:=by simp[ckOk,ti,ck]
theorem cg37:ckOk ti ck 37:=by simp[ckOk,ti,ck]
theorem cg45:ckOk ti ck 45:=by simp[ckOk,ti,ck]
theorem cg47:ckOk ti ck 47:=by simp[ckOk,ti,ck,contig]
theorem cg48:ckOk ti ck 48:=by simp[ckOk,ti,ck]
theorem cg49:ckOk ti ck 49:=by simp[ckOk,ti,ck]
theorem cg51:ckOk ti ck 51:=by simp[ckOk,ti,ck,contig]
theorem cg53:ckOk ti ck 53:=by simp[ckOk,ti,ck,contig]
theorem cg56:ckOk ti ck 56:=by simp[ckOk,ti,ck]
theorem cg58:ckOk ti ck 58:=by simp[ckOk,ti,ck,contig]
theorem cg59:ckOk ti ck 59:=by simp[ckOk,ti,ck]
theorem cg61:ckOk ti ck 61:=by simp[ckOk,ti,ck,contig]
theorem cg63:ckOk ti ck 63:=by simp[ckOk,ti,ck,contig]
theorem cg68:ckOk ti ck 68:=by simp[ckOk,ti,ck]
theorem cg70:ckOk ti ck 70:=by simp[ckOk,ti,ck,contig]
theorem cg71:ckOk ti ck 71:=by simp[ckOk,ti,ck]
theorem cg73:ckOk ti ck 73:=by simp[ckOk,ti,ck,contig]
theorem cg79:ckOk ti ck 79:=by simp[ckOk,ti,ck,contig]
theorem cg85:ckOk ti ck 85:=by simp[ckOk,ti,ck,contig]
theorem cg90:ckOk ti ck 90:=by simp[ckOk,ti,ck]
theorem cg92:ckOk ti ck 92:=by simp[ckOk,ti,ck,contig]
theorem cg93:ckOk ti ck 93:=by simp[ckOk,ti,ck]
theorem cg95:ckOk ti ck 95:=by simp[ckOk,ti,ck,contig]
theorem cg97:ckOk ti ck 97:=by simp[ckOk,ti,ck,contig]
theorem cg104:ckOk ti ck 104:=by simp[ckOk,ti,ck,contig]
theorem cg106:ckOk ti ck 106:=by simp[ckOk,ti,ck,contig]
theorem cg116:ckOk ti ck 116:=by simp[ckOk,ti,ck,contig]
theorem cg119:ckOk ti ck 119:=by simp[ckOk,ti,ck,contig]
theorem cg150:ckOk ti ck 150:=by simp[ckOk,ti,ck]
theorem cg152:ckOk ti ck 152:=by simp[ckOk,ti,ck,contig]
theorem cg154:ckOk ti ck 154:=by simp[ckOk,ti,ck,contig]
theorem cg164:ckOk ti ck 164:=by simp[ckOk,ti,ck,contig]
theorem cg174:ckOk ti ck 174:=by simp[ckOk,ti,ck]
theorem cg177:ckOk ti ck 177:=by simp[ckOk,ti,ck]
theorem cg179:ckOk ti ck 179:=by simp[ckOk,ti,ck,contig]
theorem cg196:ckOk ti ck 196:=by simp[ckOk,ti,ck,contig]
theorem cg202:ckOk ti ck 202:=by simp[ckOk,ti,ck,contig]
theorem cg208:ckOk ti ck 208:=by simp[ckOk,ti,ck]
theorem cg210:ckOk ti ck 210:=by simp[ckOk,ti,ck,contig]
theorem cg224:ckOk ti ck 224:=by simp[ckOk,ti,ck,contig]
theorem cg283:ckOk ti ck 283:=by simp[ckOk,ti,ck]
theorem cgood:CGood ti ck:=by
 intro t h
 unfold ti at h
 split at h
 ·exact cg2
 ·exact cg3
 ·exact cg4
 ·exact cg5
 ·exact cg9
 ·exact cg21
 ·exact cg22
 ·exact cg25
 ·exact cg29
 ·exact cg34
 ·exact cg37
 ·exact cg45
 ·exact cg47
 ·exact cg48
 ·exact cg49
 ·exact cg51
 ·exact cg53
 ·exact cg56
 ·exact cg58
 ·exact cg59
 ·exact cg61
 ·exact cg63
 ·exact cg68
 ·exact cg70
 ·exact cg71
 ·exact cg73
 ·exact cg79
 ·exact cg85
 ·exact cg90
 ·exact cg92
 ·exact cg93
 ·exact cg95
 ·exact cg97
 ·exact cg104
 ·exact cg106
 ·exact cg116
 ·exact cg119
 ·exact cg150
 ·exact cg152
 ·exact cg154
 ·exact cg164
 ·exact cg174
 ·exact cg177
 ·exact cg179
 ·exact cg196
 ·exact cg202
 ·exact cg208
 ·exact cg210
 ·exact cg224
 ·exact cg283
 ·cases h
theorem hm:Tryz.prog.follows .mixedOrders=true:=by kernel_rfl
end Go.Proofs.YtanlbohhmoifcaaGreat
namespace Go.Proofs.YtanlbohhmoifcaaGreat
open Go Go.Proofs Go.Sm
attribute [local simp] ti
set_option linter.unusedVariables false
set_option linter.unusedSimpArgs false
theorem markText_ok (k':Int) (k:Nat) (hkk:k'=(k:Int)) (hk:k≤4611686018427387904):VC Tryz.prog 70 [int .i64 k'] [(false,[(.s,.sc (.string (mtext k)))])]:=by
 subst hkk
 refine vc_of_ew good hm [0,2,5,3,7] Tryz.func70 rfl (by kernel_rfl) (by kernel_rfl) rfl ?_
 simp[Tryz.f70]
 refine ⟨fun h=>by simp[mtext,h],fun h0=> ?_⟩
 refine ew_loop (fun E=> ∃ (j f:Nat) (out:ByteArray),j≤f∧out.size+j≤k∧dgo f j out=dgo k k ⟨#[]⟩∧E= {nt:=20,sl:= [(0,int .i64 j),(3,str out)],bx:= [],rt:= []}) (fun E=>(E.num 0).toNat) _ (Gh.kb _ [0,3] [] []) ⟨k,k,⟨#[]⟩,by omega,by simp[ByteArray.size],rfl,by simp⟩ ?_
 rintro E1 ⟨j,f,out,hjf,hsz,hd,rfl⟩
 have q1:(j:Int).tmod 10=((j%10:Nat):Int):=(Int.ofNat_tmod j 10).symm
 have q2:IntKind.i64.wrap (48+((j%10:Nat):Int))=((48+j%10:Nat):Int):=by rw[wrapI (by omega) (by omega)];omega
 have q3:(j:Int).tdiv 10=((j/10:Nat):Int):=(Int.ofNat_tdiv j 10).symm
 have q4:IntKind.i64.wrap ((j/10:Nat):Int)=((j/10:Nat):Int):=wrapI (by omega) (by omega)
 have q5:=wrapU8 (48+j%10)
 obtain ⟨b,hb⟩: ∃b:UInt8,b=UInt8.ofNat (48+j%10):=⟨_,rfl⟩
 rw[←hb] at q5
 simp only[Int.natCast_add,Int.natCast_emod,Int.natCast_ediv,Int.cast_ofNat_Int] at q1 q2 q3 q4 q5
 simp[q1,q2,q3,q4,q5,md]
 have hba: ∀s:ByteArray,(⟨#[b]⟩++s:ByteArray).size=1+s.size:=fun s=>by rw[ByteArray.size_append];rfl
 refine ⟨fun hj=> ?_,fun hj=> ?_⟩
 ·obtain ⟨f',rfl⟩: ∃f',f=f'+1:=⟨f-1,by omega⟩
  rw[dgo,if_neg (by omega),←hb] at hd
  refine ⟨by have h1:(⟨#[b]⟩:ByteArray).size=1:=rfl;omega,.of _ (Gh.kb _ [0,3] [] []) ⟨j/10,f',by omega,_, ?_,hd,by simp⟩ (by simp;omega)⟩
  rw[hba];omega
 ·subst hj
  have:dgo f 0 out=out:=by cases f<;>simp[dgo]
  rw[this] at hd
  subst hd
  exact ⟨by have h1:(⟨#[109]⟩:ByteArray).size=1:=rfl;omega,by simp[mtext,h0]⟩
def wStr (s:ByteArray):List Nat:= [s.size]
def okStr (s:ByteArray):Prop:=okM s.size
theorem okw_Str (x:ByteArray) (h:okStr x): ∀n∈wStr x,okM n:=by
 intro n hn
 rcases List.mem_singleton.1 hn with rfl
 exact h
theorem fit_Str (ls:List Lf) (h:Fit ti ck 9 ls): ∃x:ByteArray,ls=eStr x∧okStr x:=by
 obtain ⟨x,r,rfl,h1,h2⟩:=All2.cons_inv h
 obtain rfl:=All2.nil_inv h2
 obtain ⟨s,rfl,hs⟩:=h1.str_inv
 exact ⟨s,rfl,hs⟩
def okInt (n:Int):Prop:=okI n
theorem fit_Int (ls:List Lf) (h:Fit ti ck 3 ls): ∃x:Int,ls=eInt x∧okInt x:=by
 obtain ⟨x,r,rfl,h1,h2⟩:=All2.cons_inv h
 obtain rfl:=All2.nil_inv h2
 obtain ⟨s,rfl,hs⟩:=h1.int_inv
 exact ⟨s,rfl,okI_wf hs⟩
structure GVal where
 fTy:Int
 fN:Int
 fS:ByteArray
def eVal (x:GVal):List Lf:= [.sc (.int .i64 x.fTy),.sc (.int .i64 x.fN),.sc (.string x.fS)]
def vVal (x:GVal):SV:= .v true [.s (.sc (.int .i64 x.fTy)),.s (.sc (.int .i64 x.fN)),.s (.sc (.string x.fS))]
def dVal:GVal:=⟨0,0,⟨#[]⟩⟩
@[simp] theorem row_Val (l:List GVal) (i:Nat):(Option.map eVal l[i]?).getD [.sc (.int .i64 0),.sc (.int .i64 0),.sc (.string ⟨#[]⟩)]=eVal (l[i]?.getD dVal):=by cases l[i]? <;>rfl
def wVal (x:GVal):List Nat:=x.fS.size::([])
def okVal (x:GVal):Prop:=okI x.fTy∧okI x.fN∧okM x.fS.size∧True
theorem okw_Val (x:GVal) (h:okVal x): ∀n∈wVal x,okM n:=by
 obtain ⟨h0,h1,h2,_⟩:=h
 intro n hn
 simp only[wVal,List.mem_cons,List.mem_append,List.not_mem_nil,or_false,false_or] at hn
 rcases hn with rfl
 ·exact h2
theorem fit_Val (ls:List Lf) (h:Fit ti ck 164 ls): ∃x:GVal,ls=eVal x∧okVal x:=by
 obtain ⟨c0,r0,rfl,h0,g0⟩:=All2.cons_inv h
 obtain ⟨a0,rfl,b0⟩:=h0.int_inv
 obtain ⟨c1,r1,rfl,h1,g1⟩:=All2.cons_inv g0
 obtain ⟨a1,rfl,b1⟩:=h1.int_inv
 obtain ⟨c2,r2,rfl,h2,g2⟩:=All2.cons_inv g1
 obtain ⟨a2,rfl,b2⟩:=h2.str_inv
 obtain rfl:=All2.nil_inv g2
 exact ⟨⟨a0,a1,a2⟩,rfl,⟨okI_wf b0,okI_wf b1,b2,trivial⟩⟩
def mVal (x:GVal):ML:= [(.s,.sc (.int .i64 x.fTy)),(.s,.sc (.int .i64 x.fN)),(.s,.sc (.string x.fS))]
theorem szVal_ok (x:GVal) (left:Int) (h0:0≤left) (h1:left≤1048576) (hs: ∀n∈wVal x,okM n):VC Tryz.prog 132 [vVal x,int .i64 left] [(false,[(.s,.sc (.int .i64 (szL (wVal x) left)))])]:=by
 refine vc_of_ew good hm [0,1,2,4,11] Tryz.func132 rfl (by kernel_rfl) (by kernel_rfl) rfl ?_
 simp[Tryz.f132,vVal]
 have hb0:x.fS.size≤9223372036854775807:=hs _ (by simp[wVal])
 rw[wrapI (i:=left- (x.fS.size:Nat)) (by omega) (by omega)]
 by_cases hn:(left- (x.fS.size:Nat))<0
 ·have e:szL (wVal x) left= -1:=by rw[wVal,szL,if_pos hn]
  rw[e]
  try omega
 ·have e:szL (wVal x) left=(left- (x.fS.size:Nat)):=by rw[wVal,szL,if_neg hn];rfl
  rw[e]
  try omega
theorem toVal_ok (x:GVal) (hs: ∀n∈wVal x,n≤1048576):VC Tryz.prog 135 [vVal x] [(true,mVal x)]:=by
 refine vc_of_ew good hm [0,1,2,3] Tryz.func135 rfl (by kernel_rfl) (by kernel_rfl) rfl ?_
 simp[Tryz.f135,vVal,mVal]
theorem eqVal_ok (x:GVal) (hs: ∀n∈wVal x,n≤1048576):VC Tryz.prog 138 [vVal x,vVal x] [(false,[(.s,.sc (.bool true))])]:=by
 refine vc_of_ew good hm [0,1,2,3,4,9,14,19] Tryz.func138 rfl (by kernel_rfl) (by kernel_rfl) rfl ?_
 simp[Tryz.f138,vVal]
structure GCol where
 fName:ByteArray
 fTy:Int
 fNot:Bool
 fHas:Bool
 fDef:GVal
def eCol (x:GCol):List Lf:= [.sc (.string x.fName),.sc (.int .i64 x.fTy),.sc (.bool x.fNot),.sc (.bool x.fHas),.sc (.int .i64 x.fDef.fTy),.sc (.int .i64 x.fDef.fN),.sc (.string x.fDef.fS)]
def vCol (x:GCol):SV:= .v true [.s (.sc (.string x.fName)),.s (.sc (.int .i64 x.fTy)),.s (.sc (.bool x.fNot)),.s (.sc (.bool x.fHas)),.s (.sc (.int .i64 x.fDef.fTy)),.s (.sc (.int .i64 x.fDef.fN)),.s (.sc (.string x.fDef.fS))]
def dCol:GCol:=⟨⟨#[]⟩,0,false,false,⟨0,0,⟨#[]⟩⟩⟩
@[simp] theorem row_Col (l:List GCol) (i:Nat):(Option.map eCol l[i]?).getD [.sc (.string ⟨#[]⟩),.sc (.int .i64 0),.sc (.bool false),.sc (.bool false),.sc (.int .i64 0),.sc (.int .i64 0),.sc (.string ⟨#[]⟩)]=eCol (l[i]?.getD dCol):=by cases l[i]? <;>rfl
def wCol (x:GCol):List Nat:=x.fName.size::(wVal x.fDef++([]))
def okCol (x:GCol):Prop:=okM x.fName.size∧okI x.fTy∧okVal x.fDef∧True
theorem okw_Col (x:GCol) (h:okCol x): ∀n∈wCol x,okM n:=by
 obtain ⟨h0,h1,h4,_⟩:=h
 intro n hn
 simp only[wCol,List.mem_cons,List.mem_append,List.not_mem_nil,or_false,false_or] at hn
 rcases hn with rfl|hn
 ·exact h0
 ·exact okw_Val _ h4 n hn
theorem fit_Col (ls:List Lf) (h:Fit ti ck 196 ls): ∃x:GCol,ls=eCol x∧okCol x:=by
 obtain ⟨c0,r0,rfl,h0,g0⟩:=All2.cons_inv h
 obtain ⟨a0,rfl,b0⟩:=h0.str_inv
 obtain ⟨c1,r1,rfl,h1,g1⟩:=All2.cons_inv g0
 obtain ⟨a1,rfl,b1⟩:=h1.int_inv
 obtain ⟨c2,r2,rfl,h2,g2⟩:=All2.cons_inv g1
 obtain ⟨a2,rfl⟩:=h2.bool_inv
 obtain ⟨c3,r3,rfl,h3,g3⟩:=All2.cons_inv g2
 obtain ⟨a3,rfl⟩:=h3.bool_inv
 obtain ⟨c4,r4,rfl,h4,g4⟩:=All2.cons_inv g3
 obtain ⟨a4,rfl,b4⟩:=h4.int_inv
 obtain ⟨c5,r5,rfl,h5,g5⟩:=All2.cons_inv g4
 obtain ⟨a5,rfl,b5⟩:=h5.int_inv
 obtain ⟨c6,r6,rfl,h6,g6⟩:=All2.cons_inv g5
 obtain ⟨a6,rfl,b6⟩:=h6.str_inv
 obtain rfl:=All2.nil_inv g6
 exact ⟨⟨a0,a1,a2,a3,⟨a4,a5,a6⟩⟩,rfl,⟨b0,okI_wf b1,⟨okI_wf b4,okI_wf b5,b6,trivial⟩,trivial⟩⟩
def mCol (x:GCol):ML:= [(.s,.sc (.string x.fName)),(.s,.sc (.int .i64 x.fTy)),(.s,.sc (.bool x.fNot)),(.s,.sc (.bool x.fHas)),(.s,.sc (.int .i64 x.fDef.fTy)),(.s,.sc (.int .i64 x.fDef.fN)),(.s,.sc (.string x.fDef.fS))]
theorem szCol_ok (x:GCol) (left:Int) (h0:0≤left) (h1:left≤1048576) (hs: ∀n∈wCol x,okM n):VC Tryz.prog 172 [vCol x,int .i64 left] [(false,[(.s,.sc (.int .i64 (szL (wCol x) left)))])]:=by
 refine vc_of_ew good hm [0,1,2,4,11,17] Tryz.func172 rfl (by kernel_rfl) (by kernel_rfl) rfl ?_
 simp[Tryz.f172,vCol]
 have hb0:x.fName.size≤9223372036854775807:=hs _ (by simp[wCol])
 rw[wrapI (i:=left- (x.fName.size:Nat)) (by omega) (by omega)]
 refine ⟨fun hn=> ?_,fun hk0=> ?_⟩
 ·have e:szL (wCol x) left= -1:=by rw[wCol,szL,if_pos (by omega)]
  rw[e]
  try omega
 have hq0: ¬(left- (x.fName.size:Nat))<0:=by omega
 have hz0:0≤(left- (x.fName.size:Nat)):=by omega
 refine .of (szVal_ok x.fDef (left- (x.fName.size:Nat)) (by omega) (by omega) (fun n hn=>hs n (by simp[wCol,hn]))) ?_
 simp
 have hb1:=szL_le' (l:=wVal x.fDef) (left:=(left- (x.fName.size:Nat))) (by omega)
 have hc1:=szL_neg (wVal x.fDef) (left- (x.fName.size:Nat)) (by omega)
 by_cases hn:(szL (wVal x.fDef) (left- (x.fName.size:Nat)))<0
 ·have e:szL (wCol x) left= -1:=by rw[wCol,szL,if_neg hq0,szL_app _ _ _ hz0,if_pos hn]
  rw[e]
  try omega
 ·have e:szL (wCol x) left=(szL (wVal x.fDef) (left- (x.fName.size:Nat))):=by rw[wCol,szL,if_neg hq0,szL_app _ _ _ hz0,if_neg hn];rfl
  rw[e]
  try omega
theorem toCol_ok (x:GCol) (hs: ∀n∈wCol x,n≤1048576):VC Tryz.prog 173 [vCol x] [(true,mCol x)]:=by
 refine vc_of_ew good hm [0,1,2,3] Tryz.func173 rfl (by kernel_rfl) (by kernel_rfl) rfl ?_
 simp[Tryz.f173,vCol,mCol]
 refine .of (toVal_ok x.fDef (fun n hn=>hs n (by simp[wCol,hn]))) ?_
 simp[mVal]
theorem eqCol_ok (x:GCol) (hs: ∀n∈wCol x,n≤1048576):VC Tryz.prog 174 [vCol x,vCol x] [(false,[(.s,.sc (.bool true))])]:=by
 refine vc_of_ew good hm [0,1,2,3,4,9,14,19,24,30] Tryz.func174 rfl (by kernel_rfl) (by kernel_rfl) rfl ?_
 simp[Tryz.f174,vCol]
 refine .of (eqVal_ok x.fDef (fun n hn=>hs n (by simp[wCol,hn]))) ?_
 simp
def vColS (l:List GCol):SV:=list [.sc (.string ⟨#[]⟩),.sc (.int .i64 0),.sc (.bool false),.sc (.bool false),.sc (.int .i64 0),.sc (.int .i64 0),.sc (.string ⟨#[]⟩)] (l.map eCol)
def wColS (l:List GCol):List Nat:=l.length::l.flatMap wCol
def okColS (l:List GCol):Prop:=okM l.length∧ ∀a∈l,okCol a
theorem okw_ColS (l:List GCol) (h:okColS l): ∀n∈wColS l,okM n:=by
 intro n hn
 rcases List.mem_cons.1 hn with rfl|hn
 ·exact h.1
 ·obtain ⟨a,ha,hn⟩:=List.mem_flatMap.1 hn
  exact okw_Col a (h.2 a ha) n hn
def mColS (x:List GCol):ML:= [(.o 154 (fun _=> [.s,.s,.s,.s,.s,.s,.s]),.ls [.sc (.string ⟨#[]⟩),.sc (.int .i64 0),.sc (.bool false),.sc (.bool false),.sc (.int .i64 0),.sc (.int .i64 0),.sc (.string ⟨#[]⟩)] (x.map eCol))]
@[simp] theorem ow_ColS (l:List GCol):Ow (.o 154 (fun _=> [.s,.s,.s,.s,.s,.s,.s])) (.ls [.sc (.string ⟨#[]⟩),.sc (.int .i64 0),.sc (.bool false),.sc (.bool false),.sc (.int .i64 0),.sc (.int .i64 0),.sc (.string ⟨#[]⟩)] (l.map eCol))=True:=eq_true (Ow_rows (fun x j hj=>match j,hj with|0,_=> .sc|1,_=> .sc|2,_=> .sc|3,_=> .sc|4,_=> .sc|5,_=> .sc|6,_=> .sc|n+7,hj=>absurd hj (by simp)) l)
@[simp] theorem full_ColS (l:List GCol):Full (.o 154 (fun _=> [.s,.s,.s,.s,.s,.s,.s])) (.ls [.sc (.string ⟨#[]⟩),.sc (.int .i64 0),.sc (.bool false),.sc (.bool false),.sc (.int .i64 0),.sc (.int .i64 0),.sc (.string ⟨#[]⟩)] (l.map eCol))=True:=eq_true (Full_rows (fun x j hj=>match j,hj with|0,_=> .s|1,_=> .s|2,_=> .s|3,_=> .s|4,_=> .s|5,_=> .s|6,_=> .s|n+7,hj=>absurd hj (by simp)) l)
theorem szColS_ok (x:List GCol) (left:Int) (h0:0≤left) (h1:left≤1048576) (hs: ∀n∈wColS x,okM n):VC Tryz.prog 133 [vColS x,int .i64 left] [(false,[(.s,.sc (.int .i64 (szL (wColS x) left)))])]:=by
 refine vc_of_ew good hm [0,1,4,11,5,15,25] Tryz.func133 rfl (by kernel_rfl) (by kernel_rfl) rfl ?_
 have hl:x.length≤9223372036854775807:=hs _ (by simp[wColS])
 simp[Tryz.f133,vColS]
 rw[wrapI (i:=left-x.length) (by omega) (by omega)]
 refine ⟨fun h=>by simp[wColS,szL,h],fun hk=> ?_⟩
 refine ew_loop (fun E=> ∃i:Nat,i≤x.length∧0≤szL ((x.take i).flatMap wCol) (left-x.length)∧E= {nt:=27,sl:= [(0,vColS x),(1,int .i64 (szL ((x.take i).flatMap wCol) (left-x.length))),(5,int .i64 i)],bx:= [],rt:= []}) (fun E=>x.length- (E.num 5).toNat) _ (Gh.keep _ [0,1,5]) ⟨0,by omega,by simp[szL];omega,by simp[szL,vColS]⟩ ?_
 rintro E1 ⟨i,hi,hr0,rfl⟩
 have hr1:=szL_le' (l:=(x.take i).flatMap wCol) (left:=left-x.length) (by omega)
 simp[vColS,eCol]
 refine ⟨fun h=> ?_,fun h=> ?_⟩
 ·obtain ⟨q1,q2⟩:=szF_step wCol (dCol) h (by omega:0≤left-x.length) hr0
  have hm: ∀n∈wCol (x[i]?.getD (dCol)),okM n:=fun n hn=>hs n (List.mem_cons_of_mem _ (mem_flat h hn))
  have hn1:=szL_neg (wCol (x[i]?.getD (dCol))) _ hr0
  refine ⟨h,.of (szCol_ok _ _ hr0 (by omega) hm) ?_⟩
  simp
  refine ⟨fun h2=> ?_,fun h2=> .of _ (Gh.keep _ [0,1,5]) ⟨i+1,by omega, ?_, ?_⟩ ?_⟩
  ·rw[wColS,szL,if_neg (by omega),q1 h2]
  ·rw[q2];exact h2
  ·rw[q2];simp[wrapS (show i<9223372036854775807 by omega)]
  ·simp[wrapS (show i<9223372036854775807 by omega)];omega
 ·rw[wColS,szL,if_neg (by omega),List.take_of_length_le (by simpa using h)]
theorem toColS_ok (x:List GCol) (hs: ∀n∈wColS x,n≤1048576):VC Tryz.prog 136 [vColS x] [(false,mColS x)]:=by
 refine vc_of_ew good hm [0,2,3,4,11] Tryz.func136 rfl (by kernel_rfl) (by kernel_rfl) rfl ?_
 have hl:x.length≤1048576:=hs _ (by simp[wColS])
 simp[Tryz.f136,vColS,mColS]
 refine ⟨by omega, ?_⟩
 refine ew_loop (fun E=> ∃i:Nat,i≤x.length∧E= {nt:=23,sl:= [(0,vColS x),(3,.v false [.r [7]]),(4,int .i64 i)],bx:= [],rt:= [(7,.o 154 (fun _=> [.s,.s,.s,.s,.s,.s,.s]),.ls [.sc (.string ⟨#[]⟩),.sc (.int .i64 0),.sc (.bool false),.sc (.bool false),.sc (.int .i64 0),.sc (.int .i64 0),.sc (.string ⟨#[]⟩)] (fillR [.sc (.string ⟨#[]⟩),.sc (.int .i64 0),.sc (.bool false),.sc (.bool false),.sc (.int .i64 0),.sc (.int .i64 0),.sc (.string ⟨#[]⟩)] (x.map eCol) i))]}) (fun E=>x.length- (E.num 4).toNat) _ (Gh.keep _ [0,3,4]) ⟨0,by omega,by simp[vColS,fillR]⟩ ?_
 rintro E1 ⟨i,hi,rfl⟩
 have hfl:(fillR [.sc (.string ⟨#[]⟩),.sc (.int .i64 0),.sc (.bool false),.sc (.bool false),.sc (.int .i64 0),.sc (.int .i64 0),.sc (.string ⟨#[]⟩)] (x.map eCol) i).length=x.length:=by rw[fillR_len _ _ (by simpa using hi)];simp
 simp[vColS,eCol] at hfl⊢
 try simp[hfl]
 refine ⟨fun h=>⟨h,.of (toCol_ok (x[i]?.getD dCol) (fun n hn=>hs n (List.mem_cons_of_mem _ (mem_flat (wt:=wCol) h hn)))) ?_⟩,fun h=>fillR_all _ _ (by simpa using h)⟩
 simp[mCol]
 try simp[hfl,h]
 refine .of _ (Gh.keep _ [0,3,4]) ⟨i+1,by omega, ?_⟩ ?_
 ·have:=fillR_set [.sc (.string ⟨#[]⟩),.sc (.int .i64 0),.sc (.bool false),.sc (.bool false),.sc (.int .i64 0),.sc (.int .i64 0),.sc (.string ⟨#[]⟩)] (x.map eCol) (i:=i) (by simpa using h)
  simp[wrapS (show i<9223372036854775807 by omega),vColS,eCol,h] at this⊢
  rw[←this]
 ·simp[wrapS (show i<9223372036854775807 by omega)];omega
theorem eqColS_ok (x:List GCol) (hs: ∀n∈wColS x,n≤1048576):VC Tryz.prog 139 [vColS x,vColS x] [(false,[(.s,.sc (.bool true))])]:=by
 refine vc_of_ew good hm [0,1,4,10,5,14,26] Tryz.func139 rfl (by kernel_rfl) (by kernel_rfl) rfl ?_
 have hl:x.length≤1048576:=hs _ (by simp[wColS])
 simp[Tryz.f139,vColS]
 refine ew_loop (fun E=> ∃i:Nat,i≤x.length∧E= {nt:=27,sl:= [(0,vColS x),(1,vColS x),(5,int .i64 i)],bx:= [],rt:= []}) (fun E=>x.length- (E.num 5).toNat) _ (Gh.keep _ [0,1,5]) ⟨0,by omega,by simp[vColS]⟩ ?_
 rintro E1 ⟨i,hi,rfl⟩
 simp[vColS,eCol]
 intro h
 refine ⟨h,.of (eqCol_ok (x[i]?.getD dCol) (fun n hn=>hs n (List.mem_cons_of_mem _ (mem_flat (wt:=wCol) h hn)))) ?_⟩
 simp
 refine .of _ (Gh.keep _ [0,1,5]) ⟨i+1,by omega, ?_⟩ ?_
 ·simp[wrapS (show i<9223372036854775807 by omega),vColS]
 ·simp[wrapS (show i<9223372036854775807 by omega)];omega
def ctCol (x:GCol):Nat:=7
def mkCol (k:Nat) (x:GCol):GCol:=⟨mkStr (k) x.fName,mkInt (k+1) x.fTy,mkBool (k+2) x.fNot,mkBool (k+3) x.fHas,⟨mkInt (k+4) x.fDef.fTy,mkInt (k+5) x.fDef.fN,mkStr (k+6) x.fDef.fS⟩⟩
theorem ctle_Col (x:GCol):ctCol x≤64+64* (wCol x).sum:=by
 simp only[ctCol,wCol,wVal,List.sum_cons,List.sum_append,List.sum_nil]
 omega
def ctColS (l:List GCol):Nat:=ctRw ctCol l
def mkColS (k:Nat) (l:List GCol):List GCol:=mkRw mkCol ctCol k l
theorem ctle_ColS (l:List GCol):ctColS l≤64* (wColS l).sum:=by
 have:=ctRw_le64 ctCol wCol l (fun x _=>ctle_Col x)
 simp only[wColS,List.sum_cons]
 exact this
theorem markColS_ok (x:List GCol) (k:Nat) (k':Int) (hkk':k'=(k:Int)) (hk:k+ctColS x≤4611686018427387904) (hs: ∀n∈wColS x,n≤4611686018427387904):VM Tryz.prog 72 [.v false [.r [900]],int .i64 k'] [(.o 154 (fun _=> [.s,.s,.s,.s,.s,.s,.s]),.ls [.sc (.string ⟨#[]⟩),.sc (.int .i64 0),.sc (.bool false),.sc (.bool false),.sc (.int .i64 0),.sc (.int .i64 0),.sc (.string ⟨#[]⟩)] (x.map eCol),.ls [.sc (.string ⟨#[]⟩),.sc (.int .i64 0),.sc (.bool false),.sc (.bool false),.sc (.int .i64 0),.sc (.int .i64 0),.sc (.string ⟨#[]⟩)] ((mkColS k x).map eCol))] (some ((k:Int)+(ctColS x:Int))):=by
 subst hkk'
 have hl:x.length≤4611686018427387904:=hs _ (by simp[wColS])
 refine vm_of_ew good hm [0,1,4,5,9,5000] Tryz.func72 rfl (by kernel_rfl) (by kernel_rfl) rfl fun pv=> ?_
 simp[Tryz.f72]
 refine ew_loop (fun E=> ∃ (i K:Nat) (M:List (GCol)),i≤x.length∧K=k+ctRw ctCol (x.take i)∧M=mixR mkCol ctCol k x i∧E= {nt:=71,sl:= [(0,.v false [.r [900]]),(1,int .i64 (K:Int)),(5,int .i64 i),(5000,.pin 900 [] (pv 900))],bx:= [],rt:= [(900,.o 154 (fun _=> [.s,.s,.s,.s,.s,.s,.s]),.ls [.sc (.string ⟨#[]⟩),.sc (.int .i64 0),.sc (.bool false),.sc (.bool false),.sc (.int .i64 0),.sc (.int .i64 0),.sc (.string ⟨#[]⟩)] (M.map eCol))]}) (fun E=>x.length- (E.num 5).toNat) _ (Gh.kb _ [0,1,5,5000] [] [900]) ⟨0,k,x,by omega,by simp[ctRw],by simp[mixR_zero],by simp⟩ ?_
 rintro E1 ⟨i,K,M,hi,hK,hM,rfl⟩
 have hfl:M.length=x.length:=by rw[hM];exact mixR_len mkCol ctCol k x i
 have hct:=ctRw_le ctCol x i
 simp only[ctColS] at hk
 simp[hfl]
 refine ⟨fun h=> ?_,fun h=> ?_⟩
 ·have hg:M[i]? =x[i]? :=by rw[hM];exact mixR_get mkCol ctCol k x i h
  have hst:=mixR_set mkCol ctCol k x i (dCol) h
  have hc1:=ctRw_lt ctCol (dCol) h
  have hs1:ctRw ctCol (x.take (i+1))=ctRw ctCol (x.take i)+ctCol (x[i]?.getD (dCol)):=ctRw_succ ctCol (dCol) h
  have hxi:x[i]? =some (x[i]?.getD (dCol)):=by rw[List.getElem?_eq_getElem h];rfl
  have hy:(x[i]?.getD (dCol))∈x:=getD_mem _ h
  rw[hxi] at hg
  rw[←hK,←hM] at hst
  generalize (x[i]?.getD (dCol))=y at*
  have hg': ∀h',M[i]'h'=y:=fun h'=>by simpa [List.getElem?_eq_getElem h'] using hg
  have hse: ∀n∈wCol y,n≤4611686018427387904:=fun n hn=>hs n (List.mem_cons_of_mem _ (List.mem_flatMap.2 ⟨y,hy,hn⟩))
  simp only[ctCol] at hc1 hs1
  simp[md,lf,hg',hg,h,hfl,eCol]
  refine .of (markText_ok _ (K) (by omega) (by omega)) ?_
  have w0:IntKind.i64.wrap ((K:Int)+1)=(K:Int)+1:=(wrapI (by omega) (by omega)).trans (by omega)
  have w1:IntKind.i64.wrap ((K:Int)+1+1)=(K:Int)+2:=(wrapI (by omega) (by omega)).trans (by omega)
  have w2:IntKind.i64.wrap ((K:Int)+2+1)=(K:Int)+3:=(wrapI (by omega) (by omega)).trans (by omega)
  have w3:IntKind.i64.wrap ((K:Int)+3+1)=(K:Int)+4:=(wrapI (by omega) (by omega)).trans (by omega)
  have w4:IntKind.i64.wrap ((K:Int)+4+1)=(K:Int)+5:=(wrapI (by omega) (by omega)).trans (by omega)
  have w5:IntKind.i64.wrap ((K:Int)+5+1)=(K:Int)+6:=(wrapI (by omega) (by omega)).trans (by omega)
  simp[md,lf,hg',hg,h,hfl,eCol,w0,w1,w2,w3,w4,w5]
  refine .of (markText_ok _ (K+6) (by omega) (by omega)) ?_
  have w6:IntKind.i64.wrap ((K:Int)+6+1)=(K:Int)+7:=(wrapI (by omega) (by omega)).trans (by omega)
  simp[md,lf,hg',hg,h,hfl,eCol,w0,w1,w2,w3,w4,w5,w6]
  have e1:(k:Int)+(ctRw ctCol (x.take (i+1)):Int)=(K:Int)+7:=by omega
  refine .of _ (Gh.kb _ [0,1,5,5000] [] [900]) ⟨i+1,by omega, ?_⟩ ?_
  ·simp[wrapS (show i<9223372036854775807 by omega),e1,←hst,List.map_set,mkCol,mkBool,mkInt,mkStr,eCol,wrapU8]
  ·simp[wrapS (show i<9223372036854775807 by omega)];omega
 ·have:i=x.length:=by omega
  subst this
  subst hM
  subst hK
  simp[mixR_all,ctColS,mkColS]
theorem heldColS_ok (x:List GCol) (k:Nat) (k':Int) (hkk':k'=(k:Int)) (hk:k+ctColS x≤4611686018427387904) (hs: ∀n∈wColS x,n≤4611686018427387904):VC Tryz.prog 86 [vColS (mkColS k x),int .i64 k'] [(false,[(.s,.sc (.int .i64 ((k:Int)+(ctColS x:Int))))])]:=by
 subst hkk'
 have hl:x.length≤4611686018427387904:=hs _ (by simp[wColS])
 refine vc_of_ew good hm [0,1,4,5,9,19,28,39,50,60,70,81] Tryz.func86 rfl (by kernel_rfl) (by kernel_rfl) rfl ?_
 simp[Tryz.f86,vColS]
 refine ew_loop (fun E=> ∃ (i K:Nat),i≤x.length∧K=k+ctRw ctCol (x.take i)∧E= {nt:=85,sl:= [(0,vColS (mkColS k x)),(1,int .i64 (K:Int)),(5,int .i64 i)],bx:= [],rt:= []}) (fun E=>x.length- (E.num 5).toNat) _ (Gh.kb _ [0,1,5] [] []) ⟨0,k,by omega,by simp[ctRw],by simp[vColS]⟩ ?_
 rintro E1 ⟨i,K,hi,hK,rfl⟩
 have hfl:(mkColS k x).length=x.length:=mkRw_len mkCol ctCol k x
 have hct:=ctRw_le ctCol x i
 simp only[ctColS] at hk
 simp[vColS,hfl]
 refine ⟨fun h=> ?_,fun h=> ?_⟩
 ·have hg:(mkColS k x)[i]? =some (mkCol (k+ctRw ctCol (x.take i)) (x[i]?.getD (dCol))):=mkRw_get mkCol ctCol (dCol) k x i h
  have hc1:=ctRw_lt ctCol (dCol) h
  have hs1:ctRw ctCol (x.take (i+1))=ctRw ctCol (x.take i)+ctCol (x[i]?.getD (dCol)):=ctRw_succ ctCol (dCol) h
  have hy:(x[i]?.getD (dCol))∈x:=getD_mem _ h
  rw[←hK] at hg
  generalize (x[i]?.getD (dCol))=y at*
  have hg2: ∀hh:i< (mkColS k x).length,(mkColS k x)[i]=mkCol K y:=fun hh=>(List.getElem_eq_iff hh).2 hg
  have hse: ∀n∈wCol y,n≤4611686018427387904:=fun n hn=>hs n (List.mem_cons_of_mem _ (List.mem_flatMap.2 ⟨y,hy,hn⟩))
  simp only[ctCol] at hc1 hs1
  simp[md,lf,hg,hg2,h,hfl,eCol,mkCol,mkBool,mkInt,mkStr,wrapU8]
  refine .of (markText_ok _ (K) (by omega) (by omega)) ?_
  have w0:IntKind.i64.wrap ((K:Int)+1)=(K:Int)+1:=(wrapI (by omega) (by omega)).trans (by omega)
  have w1:IntKind.i64.wrap ((K:Int)+1+1)=(K:Int)+2:=(wrapI (by omega) (by omega)).trans (by omega)
  have w2:IntKind.i64.wrap ((K:Int)+2+1)=(K:Int)+3:=(wrapI (by omega) (by omega)).trans (by omega)
  have w3:IntKind.i64.wrap ((K:Int)+3+1)=(K:Int)+4:=(wrapI (by omega) (by omega)).trans (by omega)
  have w4:IntKind.i64.wrap ((K:Int)+4+1)=(K:Int)+5:=(wrapI (by omega) (by omega)).trans (by omega)
  have w5:IntKind.i64.wrap ((K:Int)+5+1)=(K:Int)+6:=(wrapI (by omega) (by omega)).trans (by omega)
  simp[md,lf,hg,hg2,h,hfl,eCol,mkCol,mkBool,mkInt,mkStr,wrapU8,w0,w1,w2,w3,w4,w5]
  refine .of (markText_ok _ (K+6) (by omega) (by omega)) ?_
  have w6:IntKind.i64.wrap ((K:Int)+6+1)=(K:Int)+7:=(wrapI (by omega) (by omega)).trans (by omega)
  simp[md,lf,hg,hg2,h,hfl,eCol,mkCol,mkBool,mkInt,mkStr,wrapU8,w0,w1,w2,w3,w4,w5,w6]
  have e1:(k:Int)+(ctRw ctCol (x.take (i+1)):Int)=(K:Int)+7:=by omega
  refine .of _ (Gh.kb _ [0,1,5] [] []) ⟨i+1,by omega, ?_⟩ ?_
  ·simp[wrapS (show i<9223372036854775807 by omega),e1,vColS]
  ·simp[wrapS (show i<9223372036854775807 by omega)];omega
 ·have:i=x.length:=by omega
  subst this
  subst hK
  simp[ctColS]
def vStrS (l:List ByteArray):SV:=list [.sc (.string ⟨#[]⟩)] (l.map eStr)
def wStrS (l:List ByteArray):List Nat:=l.length::l.flatMap wStr
def okStrS (l:List ByteArray):Prop:=okM l.length∧ ∀a∈l,okStr a
theorem okw_StrS (l:List ByteArray) (h:okStrS l): ∀n∈wStrS l,okM n:=by
 intro n hn
 rcases List.mem_cons.1 hn with rfl|hn
 ·exact h.1
 ·obtain ⟨a,ha,hn⟩:=List.mem_flatMap.1 hn
  exact okw_Str a (h.2 a ha) n hn
def mStrS (x:List ByteArray):ML:= [(.o 9 (fun _=> [.s]),.ls [.sc (.string ⟨#[]⟩)] (x.map eStr))]
@[simp] theorem ow_StrS (l:List ByteArray):Ow (.o 9 (fun _=> [.s])) (.ls [.sc (.string ⟨#[]⟩)] (l.map eStr))=True:=eq_true (Ow_rows (fun x j hj=>match j,hj with|0,_=> .sc|n+1,hj=>absurd hj (by simp)) l)
@[simp] theorem full_StrS (l:List ByteArray):Full (.o 9 (fun _=> [.s])) (.ls [.sc (.string ⟨#[]⟩)] (l.map eStr))=True:=eq_true (Full_rows (fun x j hj=>match j,hj with|0,_=> .s|n+1,hj=>absurd hj (by simp)) l)
theorem szStrS_ok (x:List ByteArray) (left:Int) (h0:0≤left) (h1:left≤1048576) (hs: ∀n∈wStrS x,okM n):VC Tryz.prog 134 [vStrS x,int .i64 left] [(false,[(.s,.sc (.int .i64 (szL (wStrS x) left)))])]:=by
 refine vc_of_ew good hm [0,1,4,11,5,15,26] Tryz.func134 rfl (by kernel_rfl) (by kernel_rfl) rfl ?_
 have hl:x.length≤9223372036854775807:=hs _ (by simp[wStrS])
 simp[Tryz.f134,vStrS]
 rw[wrapI (i:=left-x.length) (by omega) (by omega)]
 refine ⟨fun h=>by simp[wStrS,szL,h],fun hk=> ?_⟩
 refine ew_loop (fun E=> ∃i:Nat,i≤x.length∧0≤szL ((x.take i).flatMap wStr) (left-x.length)∧E= {nt:=28,sl:= [(0,vStrS x),(1,int .i64 (szL ((x.take i).flatMap wStr) (left-x.length))),(5,int .i64 i)],bx:= [],rt:= []}) (fun E=>x.length- (E.num 5).toNat) _ (Gh.keep _ [0,1,5]) ⟨0,by omega,by simp[szL];omega,by simp[szL,vStrS]⟩ ?_
 rintro E1 ⟨i,hi,hr0,rfl⟩
 have hr1:=szL_le' (l:=(x.take i).flatMap wStr) (left:=left-x.length) (by omega)
 simp[vStrS,eStr]
 refine ⟨fun h=> ?_,fun h=> ?_⟩
 ·obtain ⟨q1,q2⟩:=szF_step wStr (⟨#[]⟩) h (by omega:0≤left-x.length) hr0
  have hm: ∀n∈wStr (x[i]?.getD (⟨#[]⟩)),okM n:=fun n hn=>hs n (List.mem_cons_of_mem _ (mem_flat h hn))
  have hb:(x[i]?.getD (⟨#[]⟩:ByteArray)).size≤9223372036854775807:=hm _ (by simp[wStr])
  simp only[wStr,szL] at q1 q2
  try simp[eStr]
  rw[wrapI (i:=szL ((x.take i).flatMap wStr) (left-x.length)- ((x[i]?.getD (⟨#[]⟩:ByteArray)).size:Nat)) (by omega) (by omega)]
  refine ⟨h,fun h2=> ?_,fun h2=> .of _ (Gh.keep _ [0,1,5]) ⟨i+1,by omega, ?_, ?_⟩ ?_⟩
  ·simp[h2] at q1;rw[wStrS,szL,if_neg (by omega),q1]
  ·rw[q2,if_neg (by omega)];exact h2
  ·rw[q2,if_neg (by omega)];simp[wrapS (show i<9223372036854775807 by omega)]
  ·simp[wrapS (show i<9223372036854775807 by omega)];omega
 ·rw[wStrS,szL,if_neg (by omega),List.take_of_length_le (by simpa using h)]
theorem toStrS_ok (x:List ByteArray) (hs: ∀n∈wStrS x,n≤1048576):VC Tryz.prog 137 [vStrS x] [(false,mStrS x)]:=by
 refine vc_of_ew good hm [0,2,3,4,11] Tryz.func137 rfl (by kernel_rfl) (by kernel_rfl) rfl ?_
 have hl:x.length≤1048576:=hs _ (by simp[wStrS])
 simp[Tryz.f137,vStrS,mStrS]
 refine ⟨by omega, ?_⟩
 refine ew_loop (fun E=> ∃i:Nat,i≤x.length∧E= {nt:=22,sl:= [(0,vStrS x),(3,.v false [.r [7]]),(4,int .i64 i)],bx:= [],rt:= [(7,.o 9 (fun _=> [.s]),.ls [.sc (.string ⟨#[]⟩)] (fillR [.sc (.string ⟨#[]⟩)] (x.map eStr) i))]}) (fun E=>x.length- (E.num 4).toNat) _ (Gh.keep _ [0,3,4]) ⟨0,by omega,by simp[vStrS,fillR]⟩ ?_
 rintro E1 ⟨i,hi,rfl⟩
 have hfl:(fillR [.sc (.string ⟨#[]⟩)] (x.map eStr) i).length=x.length:=by rw[fillR_len _ _ (by simpa using hi)];simp
 simp[vStrS,eStr] at hfl⊢
 try simp[hfl]
 refine ⟨fun h=> ?_,fun h=>fillR_all _ _ (by simpa using h)⟩
 simp[eStr,hfl,h]
 refine .of _ (Gh.keep _ [0,3,4]) ⟨i+1,by omega, ?_⟩ ?_
 ·have:=fillR_set [.sc (.string ⟨#[]⟩)] (x.map eStr) (i:=i) (by simpa using h)
  simp[wrapS (show i<9223372036854775807 by omega),vStrS,eStr,h] at this⊢
  rw[←this]
 ·simp[wrapS (show i<9223372036854775807 by omega)];omega
theorem eqStrS_ok (x:List ByteArray) (hs: ∀n∈wStrS x,n≤1048576):VC Tryz.prog 140 [vStrS x,vStrS x] [(false,[(.s,.sc (.bool true))])]:=by
 refine vc_of_ew good hm [0,1,4,10,5,14,25] Tryz.func140 rfl (by kernel_rfl) (by kernel_rfl) rfl ?_
 have hl:x.length≤1048576:=hs _ (by simp[wStrS])
 simp[Tryz.f140,vStrS]
 refine ew_loop (fun E=> ∃i:Nat,i≤x.length∧E= {nt:=26,sl:= [(0,vStrS x),(1,vStrS x),(5,int .i64 i)],bx:= [],rt:= []}) (fun E=>x.length- (E.num 5).toNat) _ (Gh.keep _ [0,1,5]) ⟨0,by omega,by simp[vStrS]⟩ ?_
 rintro E1 ⟨i,hi,rfl⟩
 simp[vStrS,eStr]
 intro h
 simp[eStr,h]
 refine .of _ (Gh.keep _ [0,1,5]) ⟨i+1,by omega, ?_⟩ ?_
 ·simp[wrapS (show i<9223372036854775807 by omega),vStrS]
 ·simp[wrapS (show i<9223372036854775807 by omega)];omega
def ctStrS (l:List ByteArray):Nat:=ctRw ctStr l
def mkStrS (k:Nat) (l:List ByteArray):List ByteArray:=mkRw mkStr ctStr k l
theorem ctle_StrS (l:List ByteArray):ctStrS l≤64* (wStrS l).sum:=by
 have:=ctRw_le64 ctStr wStr l (fun x _=>by simp only[ctStr];omega)
 simp only[wStrS,List.sum_cons]
 exact this
theorem markStrS_ok (x:List ByteArray) (k:Nat) (k':Int) (hkk':k'=(k:Int)) (hk:k+ctStrS x≤4611686018427387904) (hs: ∀n∈wStrS x,n≤4611686018427387904):VM Tryz.prog 73 [.v false [.r [900]],int .i64 k'] [(.o 9 (fun _=> [.s]),.ls [.sc (.string ⟨#[]⟩)] (x.map eStr),.ls [.sc (.string ⟨#[]⟩)] ((mkStrS k x).map eStr))] (some ((k:Int)+(ctStrS x:Int))):=by
 subst hkk'
 have hl:x.length≤4611686018427387904:=hs _ (by simp[wStrS])
 refine vm_of_ew good hm [0,1,4,5,9,5000] Tryz.func73 rfl (by kernel_rfl) (by kernel_rfl) rfl fun pv=> ?_
 simp[Tryz.f73]
 refine ew_loop (fun E=> ∃ (i K:Nat) (M:List (ByteArray)),i≤x.length∧K=k+ctRw ctStr (x.take i)∧M=mixR mkStr ctStr k x i∧E= {nt:=20,sl:= [(0,.v false [.r [900]]),(1,int .i64 (K:Int)),(5,int .i64 i),(5000,.pin 900 [] (pv 900))],bx:= [],rt:= [(900,.o 9 (fun _=> [.s]),.ls [.sc (.string ⟨#[]⟩)] (M.map eStr))]}) (fun E=>x.length- (E.num 5).toNat) _ (Gh.kb _ [0,1,5,5000] [] [900]) ⟨0,k,x,by omega,by simp[ctRw],by simp[mixR_zero],by simp⟩ ?_
 rintro E1 ⟨i,K,M,hi,hK,hM,rfl⟩
 have hfl:M.length=x.length:=by rw[hM];exact mixR_len mkStr ctStr k x i
 have hct:=ctRw_le ctStr x i
 simp only[ctStrS] at hk
 simp[hfl]
 refine ⟨fun h=> ?_,fun h=> ?_⟩
 ·have hg:M[i]? =x[i]? :=by rw[hM];exact mixR_get mkStr ctStr k x i h
  have hst:=mixR_set mkStr ctStr k x i (⟨#[]⟩) h
  have hc1:=ctRw_lt ctStr (⟨#[]⟩) h
  have hs1:ctRw ctStr (x.take (i+1))=ctRw ctStr (x.take i)+ctStr (x[i]?.getD (⟨#[]⟩)):=ctRw_succ ctStr (⟨#[]⟩) h
  have hxi:x[i]? =some (x[i]?.getD (⟨#[]⟩)):=by rw[List.getElem?_eq_getElem h];rfl
  have hy:(x[i]?.getD (⟨#[]⟩))∈x:=getD_mem _ h
  rw[hxi] at hg
  rw[←hK,←hM] at hst
  generalize (x[i]?.getD (⟨#[]⟩))=y at*
  have hg': ∀h',M[i]'h'=y:=fun h'=>by simpa [List.getElem?_eq_getElem h'] using hg
  have hse: ∀n∈wStr y,n≤4611686018427387904:=fun n hn=>hs n (List.mem_cons_of_mem _ (List.mem_flatMap.2 ⟨y,hy,hn⟩))
  simp only[ctStr] at hc1 hs1
  simp[md,lf,hg',hg,h,hfl,eStr]
  refine .of (markText_ok _ (K) (by omega) (by omega)) ?_
  have w0:IntKind.i64.wrap ((K:Int)+1)=(K:Int)+1:=(wrapI (by omega) (by omega)).trans (by omega)
  simp[md,lf,hg',hg,h,hfl,eStr,w0]
  have e1:(k:Int)+(ctRw ctStr (x.take (i+1)):Int)=(K:Int)+1:=by omega
  refine .of _ (Gh.kb _ [0,1,5,5000] [] [900]) ⟨i+1,by omega, ?_⟩ ?_
  ·simp[wrapS (show i<9223372036854775807 by omega),e1,←hst,List.map_set,mkStr,eStr,wrapU8]
  ·simp[wrapS (show i<9223372036854775807 by omega)];omega
 ·have:i=x.length:=by omega
  subst this
  subst hM
  subst hK
  simp[mixR_all,ctStrS,mkStrS]
theorem heldStrS_ok (x:List ByteArray) (k:Nat) (k':Int) (hkk':k'=(k:Int)) (hk:k+ctStrS x≤4611686018427387904) (hs: ∀n∈wStrS x,n≤4611686018427387904):VC Tryz.prog 87 [vStrS (mkStrS k x),int .i64 k'] [(false,[(.s,.sc (.int .i64 ((k:Int)+(ctStrS x:Int))))])]:=by
 subst hkk'
 have hl:x.length≤4611686018427387904:=hs _ (by simp[wStrS])
 refine vc_of_ew good hm [0,1,4,5,9,18] Tryz.func87 rfl (by kernel_rfl) (by kernel_rfl) rfl ?_
 simp[Tryz.f87,vStrS]
 refine ew_loop (fun E=> ∃ (i K:Nat),i≤x.length∧K=k+ctRw ctStr (x.take i)∧E= {nt:=22,sl:= [(0,vStrS (mkStrS k x)),(1,int .i64 (K:Int)),(5,int .i64 i)],bx:= [],rt:= []}) (fun E=>x.length- (E.num 5).toNat) _ (Gh.kb _ [0,1,5] [] []) ⟨0,k,by omega,by simp[ctRw],by simp[vStrS]⟩ ?_
 rintro E1 ⟨i,K,hi,hK,rfl⟩
 have hfl:(mkStrS k x).length=x.length:=mkRw_len mkStr ctStr k x
 have hct:=ctRw_le ctStr x i
 simp only[ctStrS] at hk
 simp[vStrS,hfl]
 refine ⟨fun h=> ?_,fun h=> ?_⟩
 ·have hg:(mkStrS k x)[i]? =some (mkStr (k+ctRw ctStr (x.take i)) (x[i]?.getD (⟨#[]⟩))):=mkRw_get mkStr ctStr (⟨#[]⟩) k x i h
  have hc1:=ctRw_lt ctStr (⟨#[]⟩) h
  have hs1:ctRw ctStr (x.take (i+1))=ctRw ctStr (x.take i)+ctStr (x[i]?.getD (⟨#[]⟩)):=ctRw_succ ctStr (⟨#[]⟩) h
  have hy:(x[i]?.getD (⟨#[]⟩))∈x:=getD_mem _ h
  rw[←hK] at hg
  generalize (x[i]?.getD (⟨#[]⟩))=y at*
  have hg2: ∀hh:i< (mkStrS k x).length,(mkStrS k x)[i]=mkStr K y:=fun hh=>(List.getElem_eq_iff hh).2 hg
  have hse: ∀n∈wStr y,n≤4611686018427387904:=fun n hn=>hs n (List.mem_cons_of_mem _ (List.mem_flatMap.2 ⟨y,hy,hn⟩))
  simp only[ctStr] at hc1 hs1
  simp[md,lf,hg,hg2,h,hfl,eStr,mkStr,wrapU8]
  refine .of (markText_ok _ (K) (by omega) (by omega)) ?_
  have w0:IntKind.i64.wrap ((K:Int)+1)=(K:Int)+1:=(wrapI (by omega) (by omega)).trans (by omega)
  simp[md,lf,hg,hg2,h,hfl,eStr,mkStr,wrapU8,w0]
  have e1:(k:Int)+(ctRw ctStr (x.take (i+1)):Int)=(K:Int)+1:=by omega
  refine .of _ (Gh.kb _ [0,1,5] [] []) ⟨i+1,by omega, ?_⟩ ?_
  ·simp[wrapS (show i<9223372036854775807 by omega),e1,vStrS]
  ·simp[wrapS (show i<9223372036854775807 by omega)];omega
 ·have:i=x.length:=by omega
  subst this
  subst hK
  simp[ctStrS]
structure GTable where
 fName:ByteArray
 fCols:List GCol
 fKeys:List ByteArray
def eTable (x:GTable):List Lf:= [.sc (.string x.fName),.ls [.sc (.string ⟨#[]⟩),.sc (.int .i64 0),.sc (.bool false),.sc (.bool false),.sc (.int .i64 0),.sc (.int .i64 0),.sc (.string ⟨#[]⟩)] (x.fCols.map eCol),.ls [.sc (.string ⟨#[]⟩)] (x.fKeys.map eStr)]
def cTable (x:GTable):List LV:= [.s (.sc (.string x.fName)),.s (.ls [.sc (.string ⟨#[]⟩),.sc (.int .i64 0),.sc (.bool false),.sc (.bool false),.sc (.int .i64 0),.sc (.int .i64 0),.sc (.string ⟨#[]⟩)] (x.fCols.map eCol)),.s (.ls [.sc (.string ⟨#[]⟩)] (x.fKeys.map eStr))]
def vTable (x:GTable):SV:= .v true [.s (.sc (.string x.fName)),.s (.ls [.sc (.string ⟨#[]⟩),.sc (.int .i64 0),.sc (.bool false),.sc (.bool false),.sc (.int .i64 0),.sc (.int .i64 0),.sc (.string ⟨#[]⟩)] (x.fCols.map eCol)),.s (.ls [.sc (.string ⟨#[]⟩)] (x.fKeys.map eStr))]
def dTable:GTable:=⟨⟨#[]⟩,[],[]⟩
@[simp] theorem row_Table (l:List GTable) (i:Nat):(Option.map eTable l[i]?).getD [.sc (.string ⟨#[]⟩),.ls [.sc (.string ⟨#[]⟩),.sc (.int .i64 0),.sc (.bool false),.sc (.bool false),.sc (.int .i64 0),.sc (.int .i64 0),.sc (.string ⟨#[]⟩)] [],.ls [.sc (.string ⟨#[]⟩)] []]=eTable (l[i]?.getD dTable):=by cases l[i]? <;>rfl
def okTable (x:GTable):Prop:=okM x.fName.size∧okColS x.fCols∧okStrS x.fKeys∧True
def mTable (x:GTable):ML:= [(.s,.sc (.string x.fName)),(.o 154 (fun _=> [.s,.s,.s,.s,.s,.s,.s]),.ls [.sc (.string ⟨#[]⟩),.sc (.int .i64 0),.sc (.bool false),.sc (.bool false),.sc (.int .i64 0),.sc (.int .i64 0),.sc (.string ⟨#[]⟩)] (x.fCols.map eCol)),(.o 9 (fun _=> [.s]),.ls [.sc (.string ⟨#[]⟩)] (x.fKeys.map eStr))]
def vTableS (l:List GTable):SV:=list [.sc (.string ⟨#[]⟩),.ls [.sc (.string ⟨#[]⟩),.sc (.int .i64 0),.sc (.bool false),.sc (.bool false),.sc (.int .i64 0),.sc (.int .i64 0),.sc (.string ⟨#[]⟩)] [],.ls [.sc (.string ⟨#[]⟩)] []] (l.map eTable)
def okTableS (l:List GTable):Prop:=okM l.length∧ ∀a∈l,okTable a
def mTableS (x:List GTable):ML:= [(.o 202 (fun _=> [.s,.o 154 (fun _=> [.s,.s,.s,.s,.s,.s,.s]),.o 9 (fun _=> [.s])]),.ls [.sc (.string ⟨#[]⟩),.ls [.sc (.string ⟨#[]⟩),.sc (.int .i64 0),.sc (.bool false),.sc (.bool false),.sc (.int .i64 0),.sc (.int .i64 0),.sc (.string ⟨#[]⟩)] [],.ls [.sc (.string ⟨#[]⟩)] []] (x.map eTable))]
@[simp] theorem ow_TableS (l:List GTable):Ow (.o 202 (fun _=> [.s,.o 154 (fun _=> [.s,.s,.s,.s,.s,.s,.s]),.o 9 (fun _=> [.s])])) (.ls [.sc (.string ⟨#[]⟩),.ls [.sc (.string ⟨#[]⟩),.sc (.int .i64 0),.sc (.bool false),.sc (.bool false),.sc (.int .i64 0),.sc (.int .i64 0),.sc (.string ⟨#[]⟩)] [],.ls [.sc (.string ⟨#[]⟩)] []] (l.map eTable))=True:=eq_true (Ow_rows (fun x j hj=>match j,hj with|0,_=> .sc|1,_=>of_eq_true (ow_ColS x.fCols)|2,_=>of_eq_true (ow_StrS x.fKeys)|n+3,hj=>absurd hj (by simp)) l)
@[simp] theorem full_TableS (l:List GTable):Full (.o 202 (fun _=> [.s,.o 154 (fun _=> [.s,.s,.s,.s,.s,.s,.s]),.o 9 (fun _=> [.s])])) (.ls [.sc (.string ⟨#[]⟩),.ls [.sc (.string ⟨#[]⟩),.sc (.int .i64 0),.sc (.bool false),.sc (.bool false),.sc (.int .i64 0),.sc (.int .i64 0),.sc (.string ⟨#[]⟩)] [],.ls [.sc (.string ⟨#[]⟩)] []] (l.map eTable))=True:=eq_true (Full_rows (fun x j hj=>match j,hj with|0,_=> .s|1,_=>of_eq_true (full_ColS x.fCols)|2,_=>of_eq_true (full_StrS x.fKeys)|n+3,hj=>absurd hj (by simp)) l)
def ctTable (x:GTable):Nat:=1+ctColS x.fCols+ctStrS x.fKeys
def mkTable (k:Nat) (x:GTable):GTable:=⟨mkStr (k) x.fName,mkColS (k+1) x.fCols,mkStrS (k+1+ctColS x.fCols) x.fKeys⟩
def ctTableS (l:List GTable):Nat:=ctRw ctTable l
def mkTableS (k:Nat) (l:List GTable):List GTable:=mkRw mkTable ctTable k l
structure GCat where
 fTables:List GTable
def cCat (x:GCat):List LV:= [.s (.ls [.sc (.string ⟨#[]⟩),.ls [.sc (.string ⟨#[]⟩),.sc (.int .i64 0),.sc (.bool false),.sc (.bool false),.sc (.int .i64 0),.sc (.int .i64 0),.sc (.string ⟨#[]⟩)] [],.ls [.sc (.string ⟨#[]⟩)] []] (x.fTables.map eTable))]
def vCat (x:GCat):SV:= .v true [.s (.ls [.sc (.string ⟨#[]⟩),.ls [.sc (.string ⟨#[]⟩),.sc (.int .i64 0),.sc (.bool false),.sc (.bool false),.sc (.int .i64 0),.sc (.int .i64 0),.sc (.string ⟨#[]⟩)] [],.ls [.sc (.string ⟨#[]⟩)] []] (x.fTables.map eTable))]
def dCat:GCat:=⟨[]⟩
def okCat (x:GCat):Prop:=okTableS x.fTables∧True
def mCat (x:GCat):ML:= [(.o 202 (fun _=> [.s,.o 154 (fun _=> [.s,.s,.s,.s,.s,.s,.s]),.o 9 (fun _=> [.s])]),.ls [.sc (.string ⟨#[]⟩),.ls [.sc (.string ⟨#[]⟩),.sc (.int .i64 0),.sc (.bool false),.sc (.bool false),.sc (.int .i64 0),.sc (.int .i64 0),.sc (.string ⟨#[]⟩)] [],.ls [.sc (.string ⟨#[]⟩)] []] (x.fTables.map eTable))]
def cvCat (x:GCat):Nat:=ctTableS x.fTables
def mvCat (k:Nat) (x:GCat):GCat:= {x with fTables:=mkTableS (k) x.fTables}
def eValS (l:List GVal):List Lf:= [.ls [.sc (.int .i64 0),.sc (.int .i64 0),.sc (.string ⟨#[]⟩)] (l.map eVal)]
def vValS (l:List GVal):SV:=list [.sc (.int .i64 0),.sc (.int .i64 0),.sc (.string ⟨#[]⟩)] (l.map eVal)
@[simp] theorem row_ValS (l:List (List GVal)) (i:Nat):(Option.map eValS l[i]?).getD [.ls [.sc (.int .i64 0),.sc (.int .i64 0),.sc (.string ⟨#[]⟩)] []]=eValS (l[i]?.getD []):=by cases l[i]? <;>rfl
def wValS (l:List GVal):List Nat:=l.length::l.flatMap wVal
def okValS (l:List GVal):Prop:=okM l.length∧ ∀a∈l,okVal a
theorem okw_ValS (l:List GVal) (h:okValS l): ∀n∈wValS l,okM n:=by
 intro n hn
 rcases List.mem_cons.1 hn with rfl|hn
 ·exact h.1
 ·obtain ⟨a,ha,hn⟩:=List.mem_flatMap.1 hn
  exact okw_Val a (h.2 a ha) n hn
def mValS (x:List GVal):ML:= [(.o 152 (fun _=> [.s,.s,.s]),.ls [.sc (.int .i64 0),.sc (.int .i64 0),.sc (.string ⟨#[]⟩)] (x.map eVal))]
@[simp] theorem ow_ValS (l:List GVal):Ow (.o 152 (fun _=> [.s,.s,.s])) (.ls [.sc (.int .i64 0),.sc (.int .i64 0),.sc (.string ⟨#[]⟩)] (l.map eVal))=True:=eq_true (Ow_rows (fun x j hj=>match j,hj with|0,_=> .sc|1,_=> .sc|2,_=> .sc|n+3,hj=>absurd hj (by simp)) l)
@[simp] theorem full_ValS (l:List GVal):Full (.o 152 (fun _=> [.s,.s,.s])) (.ls [.sc (.int .i64 0),.sc (.int .i64 0),.sc (.string ⟨#[]⟩)] (l.map eVal))=True:=eq_true (Full_rows (fun x j hj=>match j,hj with|0,_=> .s|1,_=> .s|2,_=> .s|n+3,hj=>absurd hj (by simp)) l)
theorem szValS_ok (x:List GVal) (left:Int) (h0:0≤left) (h1:left≤1048576) (hs: ∀n∈wValS x,okM n):VC Tryz.prog 90 [vValS x,int .i64 left] [(false,[(.s,.sc (.int .i64 (szL (wValS x) left)))])]:=by
 refine vc_of_ew good hm [0,1,4,11,5,15,25] Tryz.func90 rfl (by kernel_rfl) (by kernel_rfl) rfl ?_
 have hl:x.length≤9223372036854775807:=hs _ (by simp[wValS])
 simp[Tryz.f90,vValS]
 rw[wrapI (i:=left-x.length) (by omega) (by omega)]
 refine ⟨fun h=>by simp[wValS,szL,h],fun hk=> ?_⟩
 refine ew_loop (fun E=> ∃i:Nat,i≤x.length∧0≤szL ((x.take i).flatMap wVal) (left-x.length)∧E= {nt:=27,sl:= [(0,vValS x),(1,int .i64 (szL ((x.take i).flatMap wVal) (left-x.length))),(5,int .i64 i)],bx:= [],rt:= []}) (fun E=>x.length- (E.num 5).toNat) _ (Gh.keep _ [0,1,5]) ⟨0,by omega,by simp[szL];omega,by simp[szL,vValS]⟩ ?_
 rintro E1 ⟨i,hi,hr0,rfl⟩
 have hr1:=szL_le' (l:=(x.take i).flatMap wVal) (left:=left-x.length) (by omega)
 simp[vValS,eVal]
 refine ⟨fun h=> ?_,fun h=> ?_⟩
 ·obtain ⟨q1,q2⟩:=szF_step wVal (dVal) h (by omega:0≤left-x.length) hr0
  have hm: ∀n∈wVal (x[i]?.getD (dVal)),okM n:=fun n hn=>hs n (List.mem_cons_of_mem _ (mem_flat h hn))
  have hn1:=szL_neg (wVal (x[i]?.getD (dVal))) _ hr0
  refine ⟨h,.of (szVal_ok _ _ hr0 (by omega) hm) ?_⟩
  simp
  refine ⟨fun h2=> ?_,fun h2=> .of _ (Gh.keep _ [0,1,5]) ⟨i+1,by omega, ?_, ?_⟩ ?_⟩
  ·rw[wValS,szL,if_neg (by omega),q1 h2]
  ·rw[q2];exact h2
  ·rw[q2];simp[wrapS (show i<9223372036854775807 by omega)]
  ·simp[wrapS (show i<9223372036854775807 by omega)];omega
 ·rw[wValS,szL,if_neg (by omega),List.take_of_length_le (by simpa using h)]
theorem toValS_ok (x:List GVal) (hs: ∀n∈wValS x,n≤1048576):VC Tryz.prog 93 [vValS x] [(false,mValS x)]:=by
 refine vc_of_ew good hm [0,2,3,4,11] Tryz.func93 rfl (by kernel_rfl) (by kernel_rfl) rfl ?_
 have hl:x.length≤1048576:=hs _ (by simp[wValS])
 simp[Tryz.f93,vValS,mValS]
 refine ⟨by omega, ?_⟩
 refine ew_loop (fun E=> ∃i:Nat,i≤x.length∧E= {nt:=23,sl:= [(0,vValS x),(3,.v false [.r [7]]),(4,int .i64 i)],bx:= [],rt:= [(7,.o 152 (fun _=> [.s,.s,.s]),.ls [.sc (.int .i64 0),.sc (.int .i64 0),.sc (.string ⟨#[]⟩)] (fillR [.sc (.int .i64 0),.sc (.int .i64 0),.sc (.string ⟨#[]⟩)] (x.map eVal) i))]}) (fun E=>x.length- (E.num 4).toNat) _ (Gh.keep _ [0,3,4]) ⟨0,by omega,by simp[vValS,fillR]⟩ ?_
 rintro E1 ⟨i,hi,rfl⟩
 have hfl:(fillR [.sc (.int .i64 0),.sc (.int .i64 0),.sc (.string ⟨#[]⟩)] (x.map eVal) i).length=x.length:=by rw[fillR_len _ _ (by simpa using hi)];simp
 simp[vValS,eVal] at hfl⊢
 try simp[hfl]
 refine ⟨fun h=>⟨h,.of (toVal_ok (x[i]?.getD dVal) (fun n hn=>hs n (List.mem_cons_of_mem _ (mem_flat (wt:=wVal) h hn)))) ?_⟩,fun h=>fillR_all _ _ (by simpa using h)⟩
 simp[mVal]
 try simp[hfl,h]
 refine .of _ (Gh.keep _ [0,3,4]) ⟨i+1,by omega, ?_⟩ ?_
 ·have:=fillR_set [.sc (.int .i64 0),.sc (.int .i64 0),.sc (.string ⟨#[]⟩)] (x.map eVal) (i:=i) (by simpa using h)
  simp[wrapS (show i<9223372036854775807 by omega),vValS,eVal,h] at this⊢
  rw[←this]
 ·simp[wrapS (show i<9223372036854775807 by omega)];omega
theorem eqValS_ok (x:List GVal) (hs: ∀n∈wValS x,n≤1048576):VC Tryz.prog 96 [vValS x,vValS x] [(false,[(.s,.sc (.bool true))])]:=by
 refine vc_of_ew good hm [0,1,4,10,5,14,26] Tryz.func96 rfl (by kernel_rfl) (by kernel_rfl) rfl ?_
 have hl:x.length≤1048576:=hs _ (by simp[wValS])
 simp[Tryz.f96,vValS]
 refine ew_loop (fun E=> ∃i:Nat,i≤x.length∧E= {nt:=27,sl:= [(0,vValS x),(1,vValS x),(5,int .i64 i)],bx:= [],rt:= []}) (fun E=>x.length- (E.num 5).toNat) _ (Gh.keep _ [0,1,5]) ⟨0,by omega,by simp[vValS]⟩ ?_
 rintro E1 ⟨i,hi,rfl⟩
 simp[vValS,eVal]
 intro h
 refine ⟨h,.of (eqVal_ok (x[i]?.getD dVal) (fun n hn=>hs n (List.mem_cons_of_mem _ (mem_flat (wt:=wVal) h hn)))) ?_⟩
 simp
 refine .of _ (Gh.keep _ [0,1,5]) ⟨i+1,by omega, ?_⟩ ?_
 ·simp[wrapS (show i<9223372036854775807 by omega),vValS]
 ·simp[wrapS (show i<9223372036854775807 by omega)];omega
def ctVal (x:GVal):Nat:=3
def mkVal (k:Nat) (x:GVal):GVal:=⟨mkInt (k) x.fTy,mkInt (k+1) x.fN,mkStr (k+2) x.fS⟩
theorem ctle_Val (x:GVal):ctVal x≤64+64* (wVal x).sum:=by
 simp only[ctVal,wVal,List.sum_cons,List.sum_append,List.sum_nil]
 omega
def ctValS (l:List GVal):Nat:=ctRw ctVal l
def mkValS (k:Nat) (l:List GVal):List GVal:=mkRw mkVal ctVal k l
theorem ctle_ValS (l:List GVal):ctValS l≤64* (wValS l).sum:=by
 have:=ctRw_le64 ctVal wVal l (fun x _=>ctle_Val x)
 simp only[wValS,List.sum_cons]
 exact this
theorem markValS_ok (x:List GVal) (k:Nat) (k':Int) (hkk':k'=(k:Int)) (hk:k+ctValS x≤4611686018427387904) (hs: ∀n∈wValS x,n≤4611686018427387904):VM Tryz.prog 71 [.v false [.r [900]],int .i64 k'] [(.o 152 (fun _=> [.s,.s,.s]),.ls [.sc (.int .i64 0),.sc (.int .i64 0),.sc (.string ⟨#[]⟩)] (x.map eVal),.ls [.sc (.int .i64 0),.sc (.int .i64 0),.sc (.string ⟨#[]⟩)] ((mkValS k x).map eVal))] (some ((k:Int)+(ctValS x:Int))):=by
 subst hkk'
 have hl:x.length≤4611686018427387904:=hs _ (by simp[wValS])
 refine vm_of_ew good hm [0,1,4,5,9,5000] Tryz.func71 rfl (by kernel_rfl) (by kernel_rfl) rfl fun pv=> ?_
 simp[Tryz.f71]
 refine ew_loop (fun E=> ∃ (i K:Nat) (M:List (GVal)),i≤x.length∧K=k+ctRw ctVal (x.take i)∧M=mixR mkVal ctVal k x i∧E= {nt:=35,sl:= [(0,.v false [.r [900]]),(1,int .i64 (K:Int)),(5,int .i64 i),(5000,.pin 900 [] (pv 900))],bx:= [],rt:= [(900,.o 152 (fun _=> [.s,.s,.s]),.ls [.sc (.int .i64 0),.sc (.int .i64 0),.sc (.string ⟨#[]⟩)] (M.map eVal))]}) (fun E=>x.length- (E.num 5).toNat) _ (Gh.kb _ [0,1,5,5000] [] [900]) ⟨0,k,x,by omega,by simp[ctRw],by simp[mixR_zero],by simp⟩ ?_
 rintro E1 ⟨i,K,M,hi,hK,hM,rfl⟩
 have hfl:M.length=x.length:=by rw[hM];exact mixR_len mkVal ctVal k x i
 have hct:=ctRw_le ctVal x i
 simp only[ctValS] at hk
 simp[hfl]
 refine ⟨fun h=> ?_,fun h=> ?_⟩
 ·have hg:M[i]? =x[i]? :=by rw[hM];exact mixR_get mkVal ctVal k x i h
  have hst:=mixR_set mkVal ctVal k x i (dVal) h
  have hc1:=ctRw_lt ctVal (dVal) h
  have hs1:ctRw ctVal (x.take (i+1))=ctRw ctVal (x.take i)+ctVal (x[i]?.getD (dVal)):=ctRw_succ ctVal (dVal) h
  have hxi:x[i]? =some (x[i]?.getD (dVal)):=by rw[List.getElem?_eq_getElem h];rfl
  have hy:(x[i]?.getD (dVal))∈x:=getD_mem _ h
  rw[hxi] at hg
  rw[←hK,←hM] at hst
  generalize (x[i]?.getD (dVal))=y at*
  have hg': ∀h',M[i]'h'=y:=fun h'=>by simpa [List.getElem?_eq_getElem h'] using hg
  have hse: ∀n∈wVal y,n≤4611686018427387904:=fun n hn=>hs n (List.mem_cons_of_mem _ (List.mem_flatMap.2 ⟨y,hy,hn⟩))
  simp only[ctVal] at hc1 hs1
  have w0:IntKind.i64.wrap ((K:Int)+1)=(K:Int)+1:=(wrapI (by omega) (by omega)).trans (by omega)
  have w1:IntKind.i64.wrap ((K:Int)+1+1)=(K:Int)+2:=(wrapI (by omega) (by omega)).trans (by omega)
  simp[md,lf,hg',hg,h,hfl,eVal,w0,w1]
  refine .of (markText_ok _ (K+2) (by omega) (by omega)) ?_
  have w2:IntKind.i64.wrap ((K:Int)+2+1)=(K:Int)+3:=(wrapI (by omega) (by omega)).trans (by omega)
  simp[md,lf,hg',hg,h,hfl,eVal,w0,w1,w2]
  have e1:(k:Int)+(ctRw ctVal (x.take (i+1)):Int)=(K:Int)+3:=by omega
  refine .of _ (Gh.kb _ [0,1,5,5000] [] [900]) ⟨i+1,by omega, ?_⟩ ?_
  ·simp[wrapS (show i<9223372036854775807 by omega),e1,←hst,List.map_set,mkVal,mkInt,mkStr,eVal,wrapU8]
  ·simp[wrapS (show i<9223372036854775807 by omega)];omega
 ·have:i=x.length:=by omega
  subst this
  subst hM
  subst hK
  simp[mixR_all,ctValS,mkValS]
theorem heldValS_ok (x:List GVal) (k:Nat) (k':Int) (hkk':k'=(k:Int)) (hk:k+ctValS x≤4611686018427387904) (hs: ∀n∈wValS x,n≤4611686018427387904):VC Tryz.prog 85 [vValS (mkValS k x),int .i64 k'] [(false,[(.s,.sc (.int .i64 ((k:Int)+(ctValS x:Int))))])]:=by
 subst hkk'
 have hl:x.length≤4611686018427387904:=hs _ (by simp[wValS])
 refine vc_of_ew good hm [0,1,4,5,9,18,27,37] Tryz.func85 rfl (by kernel_rfl) (by kernel_rfl) rfl ?_
 simp[Tryz.f85,vValS]
 refine ew_loop (fun E=> ∃ (i K:Nat),i≤x.length∧K=k+ctRw ctVal (x.take i)∧E= {nt:=41,sl:= [(0,vValS (mkValS k x)),(1,int .i64 (K:Int)),(5,int .i64 i)],bx:= [],rt:= []}) (fun E=>x.length- (E.num 5).toNat) _ (Gh.kb _ [0,1,5] [] []) ⟨0,k,by omega,by simp[ctRw],by simp[vValS]⟩ ?_
 rintro E1 ⟨i,K,hi,hK,rfl⟩
 have hfl:(mkValS k x).length=x.length:=mkRw_len mkVal ctVal k x
 have hct:=ctRw_le ctVal x i
 simp only[ctValS] at hk
 simp[vValS,hfl]
 refine ⟨fun h=> ?_,fun h=> ?_⟩
 ·have hg:(mkValS k x)[i]? =some (mkVal (k+ctRw ctVal (x.take i)) (x[i]?.getD (dVal))):=mkRw_get mkVal ctVal (dVal) k x i h
  have hc1:=ctRw_lt ctVal (dVal) h
  have hs1:ctRw ctVal (x.take (i+1))=ctRw ctVal (x.take i)+ctVal (x[i]?.getD (dVal)):=ctRw_succ ctVal (dVal) h
  have hy:(x[i]?.getD (dVal))∈x:=getD_mem _ h
  rw[←hK] at hg
  generalize (x[i]?.getD (dVal))=y at*
  have hg2: ∀hh:i< (mkValS k x).length,(mkValS k x)[i]=mkVal K y:=fun hh=>(List.getElem_eq_iff hh).2 hg
  have hse: ∀n∈wVal y,n≤4611686018427387904:=fun n hn=>hs n (List.mem_cons_of_mem _ (List.mem_flatMap.2 ⟨y,hy,hn⟩))
  simp only[ctVal] at hc1 hs1
  have w0:IntKind.i64.wrap ((K:Int)+1)=(K:Int)+1:=(wrapI (by omega) (by omega)).trans (by omega)
  have w1:IntKind.i64.wrap ((K:Int)+1+1)=(K:Int)+2:=(wrapI (by omega) (by omega)).trans (by omega)
  simp[md,lf,hg,hg2,h,hfl,eVal,mkVal,mkInt,mkStr,wrapU8,w0,w1]
  refine .of (markText_ok _ (K+2) (by omega) (by omega)) ?_
  have w2:IntKind.i64.wrap ((K:Int)+2+1)=(K:Int)+3:=(wrapI (by omega) (by omega)).trans (by omega)
  simp[md,lf,hg,hg2,h,hfl,eVal,mkVal,mkInt,mkStr,wrapU8,w0,w1,w2]
  have e1:(k:Int)+(ctRw ctVal (x.take (i+1)):Int)=(K:Int)+3:=by omega
  refine .of _ (Gh.kb _ [0,1,5] [] []) ⟨i+1,by omega, ?_⟩ ?_
  ·simp[wrapS (show i<9223372036854775807 by omega),e1,vValS]
  ·simp[wrapS (show i<9223372036854775807 by omega)];omega
 ·have:i=x.length:=by omega
  subst this
  subst hK
  simp[ctValS]
structure GRow where
 fVals:List GVal
def eRow (x:GRow):List Lf:= [.ls [.sc (.int .i64 0),.sc (.int .i64 0),.sc (.string ⟨#[]⟩)] (x.fVals.map eVal)]
def cRow (x:GRow):List LV:= [.s (.ls [.sc (.int .i64 0),.sc (.int .i64 0),.sc (.string ⟨#[]⟩)] (x.fVals.map eVal))]
def vRow (x:GRow):SV:= .v true [.s (.ls [.sc (.int .i64 0),.sc (.int .i64 0),.sc (.string ⟨#[]⟩)] (x.fVals.map eVal))]
def dRow:GRow:=⟨[]⟩
@[simp] theorem row_Row (l:List GRow) (i:Nat):(Option.map eRow l[i]?).getD [.ls [.sc (.int .i64 0),.sc (.int .i64 0),.sc (.string ⟨#[]⟩)] []]=eRow (l[i]?.getD dRow):=by cases l[i]? <;>rfl
def wRow (x:GRow):List Nat:=wValS x.fVals++([])
def okRow (x:GRow):Prop:=okValS x.fVals∧True
theorem okw_Row (x:GRow) (h:okRow x): ∀n∈wRow x,okM n:=by
 obtain ⟨h0,_⟩:=h
 intro n hn
 simp only[wRow,List.mem_cons,List.mem_append,List.not_mem_nil,or_false,false_or] at hn
 rcases hn with hn
 ·exact okw_ValS _ h0 n hn
def mRow (x:GRow):ML:= [(.o 152 (fun _=> [.s,.s,.s]),.ls [.sc (.int .i64 0),.sc (.int .i64 0),.sc (.string ⟨#[]⟩)] (x.fVals.map eVal))]
theorem szRow_ok (x:GRow) (left:Int) (h0:0≤left) (h1:left≤1048576) (hs: ∀n∈wRow x,okM n):VC Tryz.prog 91 [vRow x,int .i64 left] [(false,[(.s,.sc (.int .i64 (szL (wRow x) left)))])]:=by
 refine vc_of_ew good hm [0,1,2,4,10] Tryz.func91 rfl (by kernel_rfl) (by kernel_rfl) rfl ?_
 simp[Tryz.f91,vRow]
 refine .of (szValS_ok x.fVals left (by omega) (by omega) (fun n hn=>hs n (by simp[wRow,hn]))) ?_
 simp
 have hb0:=szL_le' (l:=wValS x.fVals) (left:=left) (by omega)
 have hc0:=szL_neg (wValS x.fVals) left (by omega)
 by_cases hn:(szL (wValS x.fVals) left)<0
 ·have e:szL (wRow x) left= -1:=by rw[wRow,szL_app _ _ _ h0,if_pos hn]
  rw[e]
  try omega
 ·have e:szL (wRow x) left=(szL (wValS x.fVals) left):=by rw[wRow,szL_app _ _ _ h0,if_neg hn];rfl
  rw[e]
  try omega
theorem toRow_ok (x:GRow) (hs: ∀n∈wRow x,n≤1048576):VC Tryz.prog 94 [vRow x] [(true,mRow x)]:=by
 refine vc_of_ew good hm [0,1,2,3] Tryz.func94 rfl (by kernel_rfl) (by kernel_rfl) rfl ?_
 simp[Tryz.f94,vRow,mRow]
 refine .of (toValS_ok x.fVals (fun n hn=>hs n (by simp[wRow,hn]))) ?_
 simp[mValS]
theorem eqRow_ok (x:GRow) (hs: ∀n∈wRow x,n≤1048576):VC Tryz.prog 97 [vRow x,vRow x] [(false,[(.s,.sc (.bool true))])]:=by
 refine vc_of_ew good hm [0,1,2,3,4,10] Tryz.func97 rfl (by kernel_rfl) (by kernel_rfl) rfl ?_
 simp[Tryz.f97,vRow]
 refine .of (eqValS_ok x.fVals (fun n hn=>hs n (by simp[wRow,hn]))) ?_
 simp
def cvRow (x:GRow):Nat:=ctValS x.fVals
def mvRow (k:Nat) (x:GRow):GRow:= {x with fVals:=mkValS (k) x.fVals}
theorem cvle_Row (x:GRow):cvRow x≤64* (wRow x).sum:=by
 have:=ctle_ValS x.fVals
 simp only[cvRow,wRow,List.sum_cons,List.sum_append,List.sum_nil]
 omega
theorem markVRow_ok (x:GRow) (k:Nat) (k':Int) (hkk':k'=(k:Int)) (hk:k+cvRow x≤4611686018427387904) (hs: ∀n∈wRow x,n≤4611686018427387904):VM Tryz.prog 99 [.v true [.r [900]],int .i64 k'] [(.o 152 (fun _=> [.s,.s,.s]),.ls [.sc (.int .i64 0),.sc (.int .i64 0),.sc (.string ⟨#[]⟩)] (x.fVals.map eVal),.ls [.sc (.int .i64 0),.sc (.int .i64 0),.sc (.string ⟨#[]⟩)] ((mvRow k x).fVals.map eVal))] (some ((k:Int)+(cvRow x:Int))):=by
 subst hkk'
 refine vm_of_ew good hm [0,1,2,4,5000] Tryz.func99 rfl (by kernel_rfl) (by kernel_rfl) rfl fun pv=> ?_
 simp only[cvRow] at hk
 simp[Tryz.f99,mvRow,cvRow]
 refine .mut (markValS_ok x.fVals (k) ((k:Int)) (by omega) (by omega) (fun n hn=>hs n (by simp[wRow,hn]))) ?_
 simp[mvCat,mvRow]
def vRowS (l:List GRow):SV:=list [.ls [.sc (.int .i64 0),.sc (.int .i64 0),.sc (.string ⟨#[]⟩)] []] (l.map eRow)
def okRowS (l:List GRow):Prop:=okM l.length∧ ∀a∈l,okRow a
def mRowS (x:List GRow):ML:= [(.o 58 (fun _=> [.o 152 (fun _=> [.s,.s,.s])]),.ls [.ls [.sc (.int .i64 0),.sc (.int .i64 0),.sc (.string ⟨#[]⟩)] []] (x.map eRow))]
@[simp] theorem ow_RowS (l:List GRow):Ow (.o 58 (fun _=> [.o 152 (fun _=> [.s,.s,.s])])) (.ls [.ls [.sc (.int .i64 0),.sc (.int .i64 0),.sc (.string ⟨#[]⟩)] []] (l.map eRow))=True:=eq_true (Ow_rows (fun x j hj=>match j,hj with|0,_=>of_eq_true (ow_ValS x.fVals)|n+1,hj=>absurd hj (by simp)) l)
@[simp] theorem full_RowS (l:List GRow):Full (.o 58 (fun _=> [.o 152 (fun _=> [.s,.s,.s])])) (.ls [.ls [.sc (.int .i64 0),.sc (.int .i64 0),.sc (.string ⟨#[]⟩)] []] (l.map eRow))=True:=eq_true (Full_rows (fun x j hj=>match j,hj with|0,_=>of_eq_true (full_ValS x.fVals)|n+1,hj=>absurd hj (by simp)) l)
def ctRow (x:GRow):Nat:=0+ctValS x.fVals
def mkRow (k:Nat) (x:GRow):GRow:=⟨mkValS (k) x.fVals⟩
def ctRowS (l:List GRow):Nat:=ctRw ctRow l
def mkRowS (k:Nat) (l:List GRow):List GRow:=mkRw mkRow ctRow k l
structure GRows where
 fRows:List GRow
def eRows (x:GRows):List Lf:= [.ls [.ls [.sc (.int .i64 0),.sc (.int .i64 0),.sc (.string ⟨#[]⟩)] []] (x.fRows.map eRow)]
def dRows:GRows:=⟨[]⟩
@[simp] theorem row_Rows (l:List GRows) (i:Nat):(Option.map eRows l[i]?).getD [.ls [.ls [.sc (.int .i64 0),.sc (.int .i64 0),.sc (.string ⟨#[]⟩)] []] []]=eRows (l[i]?.getD dRows):=by cases l[i]? <;>rfl
def okRows (x:GRows):Prop:=okRowS x.fRows∧True
def vRowsS (l:List GRows):SV:=list [.ls [.ls [.sc (.int .i64 0),.sc (.int .i64 0),.sc (.string ⟨#[]⟩)] []] []] (l.map eRows)
def okRowsS (l:List GRows):Prop:=okM l.length∧ ∀a∈l,okRows a
def mRowsS (x:List GRows):ML:= [(.o 179 (fun _=> [.o 58 (fun _=> [.o 152 (fun _=> [.s,.s,.s])])]),.ls [.ls [.ls [.sc (.int .i64 0),.sc (.int .i64 0),.sc (.string ⟨#[]⟩)] []] []] (x.map eRows))]
@[simp] theorem ow_RowsS (l:List GRows):Ow (.o 179 (fun _=> [.o 58 (fun _=> [.o 152 (fun _=> [.s,.s,.s])])])) (.ls [.ls [.ls [.sc (.int .i64 0),.sc (.int .i64 0),.sc (.string ⟨#[]⟩)] []] []] (l.map eRows))=True:=eq_true (Ow_rows (fun x j hj=>match j,hj with|0,_=>of_eq_true (ow_RowS x.fRows)|n+1,hj=>absurd hj (by simp)) l)
@[simp] theorem full_RowsS (l:List GRows):Full (.o 179 (fun _=> [.o 58 (fun _=> [.o 152 (fun _=> [.s,.s,.s])])])) (.ls [.ls [.ls [.sc (.int .i64 0),.sc (.int .i64 0),.sc (.string ⟨#[]⟩)] []] []] (l.map eRows))=True:=eq_true (Full_rows (fun x j hj=>match j,hj with|0,_=>of_eq_true (full_RowS x.fRows)|n+1,hj=>absurd hj (by simp)) l)
def ctRows (x:GRows):Nat:=0+ctRowS x.fRows
def mkRows (k:Nat) (x:GRows):GRows:=⟨mkRowS (k) x.fRows⟩
def ctRowsS (l:List GRows):Nat:=ctRw ctRows l
def mkRowsS (k:Nat) (l:List GRows):List GRows:=mkRw mkRows ctRows k l
structure GDb where
 fCat:GCat
 fData:List GRows
def cDb (x:GDb):List LV:= [.s (.ls [.sc (.string ⟨#[]⟩),.ls [.sc (.string ⟨#[]⟩),.sc (.int .i64 0),.sc (.bool false),.sc (.bool false),.sc (.int .i64 0),.sc (.int .i64 0),.sc (.string ⟨#[]⟩)] [],.ls [.sc (.string ⟨#[]⟩)] []] (x.fCat.fTables.map eTable)),.s (.ls [.ls [.ls [.sc (.int .i64 0),.sc (.int .i64 0),.sc (.string ⟨#[]⟩)] []] []] (x.fData.map eRows))]
def vDb (x:GDb):SV:= .v true [.s (.ls [.sc (.string ⟨#[]⟩),.ls [.sc (.string ⟨#[]⟩),.sc (.int .i64 0),.sc (.bool false),.sc (.bool false),.sc (.int .i64 0),.sc (.int .i64 0),.sc (.string ⟨#[]⟩)] [],.ls [.sc (.string ⟨#[]⟩)] []] (x.fCat.fTables.map eTable)),.s (.ls [.ls [.ls [.sc (.int .i64 0),.sc (.int .i64 0),.sc (.string ⟨#[]⟩)] []] []] (x.fData.map eRows))]
def dDb:GDb:=⟨⟨[]⟩,[]⟩
def okDb (x:GDb):Prop:=okCat x.fCat∧okRowsS x.fData∧True
def mDb (x:GDb):ML:= [(.o 202 (fun _=> [.s,.o 154 (fun _=> [.s,.s,.s,.s,.s,.s,.s]),.o 9 (fun _=> [.s])]),.ls [.sc (.string ⟨#[]⟩),.ls [.sc (.string ⟨#[]⟩),.sc (.int .i64 0),.sc (.bool false),.sc (.bool false),.sc (.int .i64 0),.sc (.int .i64 0),.sc (.string ⟨#[]⟩)] [],.ls [.sc (.string ⟨#[]⟩)] []] (x.fCat.fTables.map eTable)),(.o 179 (fun _=> [.o 58 (fun _=> [.o 152 (fun _=> [.s,.s,.s])])]),.ls [.ls [.ls [.sc (.int .i64 0),.sc (.int .i64 0),.sc (.string ⟨#[]⟩)] []] []] (x.fData.map eRows))]
def cvDb (x:GDb):Nat:=cvCat x.fCat+ctRowsS x.fData
def mvDb (k:Nat) (x:GDb):GDb:= {x with fCat:=mvCat (k) x.fCat,fData:=mkRowsS (k+cvCat x.fCat) x.fData}
structure GDdl where
 fKind:Int
 fTable:ByteArray
 fCols:List GCol
 fKeys:List ByteArray
 fName:ByteArray
 fTo:ByteArray
def eDdl (x:GDdl):List Lf:= [.sc (.int .i64 x.fKind),.sc (.string x.fTable),.ls [.sc (.string ⟨#[]⟩),.sc (.int .i64 0),.sc (.bool false),.sc (.bool false),.sc (.int .i64 0),.sc (.int .i64 0),.sc (.string ⟨#[]⟩)] (x.fCols.map eCol),.ls [.sc (.string ⟨#[]⟩)] (x.fKeys.map eStr),.sc (.string x.fName),.sc (.string x.fTo)]
def cDdl (x:GDdl):List LV:= [.s (.sc (.int .i64 x.fKind)),.s (.sc (.string x.fTable)),.s (.ls [.sc (.string ⟨#[]⟩),.sc (.int .i64 0),.sc (.bool false),.sc (.bool false),.sc (.int .i64 0),.sc (.int .i64 0),.sc (.string ⟨#[]⟩)] (x.fCols.map eCol)),.s (.ls [.sc (.string ⟨#[]⟩)] (x.fKeys.map eStr)),.s (.sc (.string x.fName)),.s (.sc (.string x.fTo))]
def vDdl (x:GDdl):SV:= .v true [.s (.sc (.int .i64 x.fKind)),.s (.sc (.string x.fTable)),.s (.ls [.sc (.string ⟨#[]⟩),.sc (.int .i64 0),.sc (.bool false),.sc (.bool false),.sc (.int .i64 0),.sc (.int .i64 0),.sc (.string ⟨#[]⟩)] (x.fCols.map eCol)),.s (.ls [.sc (.string ⟨#[]⟩)] (x.fKeys.map eStr)),.s (.sc (.string x.fName)),.s (.sc (.string x.fTo))]
def dDdl:GDdl:=⟨0,⟨#[]⟩,[],[],⟨#[]⟩,⟨#[]⟩⟩
@[simp] theorem row_Ddl (l:List GDdl) (i:Nat):(Option.map eDdl l[i]?).getD [.sc (.int .i64 0),.sc (.string ⟨#[]⟩),.ls [.sc (.string ⟨#[]⟩),.sc (.int .i64 0),.sc (.bool false),.sc (.bool false),.sc (.int .i64 0),.sc (.int .i64 0),.sc (.string ⟨#[]⟩)] [],.ls [.sc (.string ⟨#[]⟩)] [],.sc (.string ⟨#[]⟩),.sc (.string ⟨#[]⟩)]=eDdl (l[i]?.getD dDdl):=by cases l[i]? <;>rfl
def wDdl (x:GDdl):List Nat:=x.fTable.size::(wColS x.fCols++(wStrS x.fKeys++(x.fName.size::(x.fTo.size::([])))))
def okDdl (x:GDdl):Prop:=okI x.fKind∧okM x.fTable.size∧okColS x.fCols∧okStrS x.fKeys∧okM x.fName.size∧okM x.fTo.size∧True
theorem okw_Ddl (x:GDdl) (h:okDdl x): ∀n∈wDdl x,okM n:=by
 obtain ⟨h0,h1,h2,h3,h4,h5,_⟩:=h
 intro n hn
 simp only[wDdl,List.mem_cons,List.mem_append,List.not_mem_nil,or_false,false_or] at hn
 rcases hn with rfl|hn|hn|rfl|rfl
 ·exact h1
 ·exact okw_ColS _ h2 n hn
 ·exact okw_StrS _ h3 n hn
 ·exact h4
 ·exact h5
def mDdl (x:GDdl):ML:= [(.s,.sc (.int .i64 x.fKind)),(.s,.sc (.string x.fTable)),(.o 154 (fun _=> [.s,.s,.s,.s,.s,.s,.s]),.ls [.sc (.string ⟨#[]⟩),.sc (.int .i64 0),.sc (.bool false),.sc (.bool false),.sc (.int .i64 0),.sc (.int .i64 0),.sc (.string ⟨#[]⟩)] (x.fCols.map eCol)),(.o 9 (fun _=> [.s]),.ls [.sc (.string ⟨#[]⟩)] (x.fKeys.map eStr)),(.s,.sc (.string x.fName)),(.s,.sc (.string x.fTo))]
theorem szDdl_ok (x:GDdl) (left:Int) (h0:0≤left) (h1:left≤1048576) (hs: ∀n∈wDdl x,okM n):VC Tryz.prog 92 [vDdl x,int .i64 left] [(false,[(.s,.sc (.int .i64 (szL (wDdl x) left)))])]:=by
 refine vc_of_ew good hm [0,1,2,4,11,17,23,30,37] Tryz.func92 rfl (by kernel_rfl) (by kernel_rfl) rfl ?_
 simp[Tryz.f92,vDdl]
 have hb0:x.fTable.size≤9223372036854775807:=hs _ (by simp[wDdl])
 rw[wrapI (i:=left- (x.fTable.size:Nat)) (by omega) (by omega)]
 refine ⟨fun hn=> ?_,fun hk0=> ?_⟩
 ·have e:szL (wDdl x) left= -1:=by rw[wDdl,szL,if_pos (by omega)]
  rw[e]
  try omega
 have hq0: ¬(left- (x.fTable.size:Nat))<0:=by omega
 have hz0:0≤(left- (x.fTable.size:Nat)):=by omega
 refine .of (szColS_ok x.fCols (left- (x.fTable.size:Nat)) (by omega) (by omega) (fun n hn=>hs n (by simp[wDdl,hn]))) ?_
 simp
 have hb1:=szL_le' (l:=wColS x.fCols) (left:=(left- (x.fTable.size:Nat))) (by omega)
 have hc1:=szL_neg (wColS x.fCols) (left- (x.fTable.size:Nat)) (by omega)
 refine ⟨fun hn=> ?_,fun hk1=> ?_⟩
 ·have e:szL (wDdl x) left= -1:=by rw[wDdl,szL,if_neg hq0,szL_app _ _ _ hz0,if_pos (by omega)]
  rw[e]
  try omega
 have hq1: ¬(szL (wColS x.fCols) (left- (x.fTable.size:Nat)))<0:=by omega
 have hz1:0≤(szL (wColS x.fCols) (left- (x.fTable.size:Nat))):=by omega
 refine .of (szStrS_ok x.fKeys (szL (wColS x.fCols) (left- (x.fTable.size:Nat))) (by omega) (by omega) (fun n hn=>hs n (by simp[wDdl,hn]))) ?_
 simp
 have hb2:=szL_le' (l:=wStrS x.fKeys) (left:=(szL (wColS x.fCols) (left- (x.fTable.size:Nat)))) (by omega)
 have hc2:=szL_neg (wStrS x.fKeys) (szL (wColS x.fCols) (left- (x.fTable.size:Nat))) (by omega)
 refine ⟨fun hn=> ?_,fun hk2=> ?_⟩
 ·have e:szL (wDdl x) left= -1:=by rw[wDdl,szL,if_neg hq0,szL_app _ _ _ hz0,if_neg hq1,szL_app _ _ _ hz1,if_pos (by omega)]
  rw[e]
  try omega
 have hq2: ¬(szL (wStrS x.fKeys) (szL (wColS x.fCols) (left- (x.fTable.size:Nat))))<0:=by omega
 have hz2:0≤(szL (wStrS x.fKeys) (szL (wColS x.fCols) (left- (x.fTable.size:Nat)))):=by omega
 have hb3:x.fName.size≤9223372036854775807:=hs _ (by simp[wDdl])
 rw[wrapI (i:=(szL (wStrS x.fKeys) (szL (wColS x.fCols) (left- (x.fTable.size:Nat))))- (x.fName.size:Nat)) (by omega) (by omega)]
 refine ⟨fun hn=> ?_,fun hk3=> ?_⟩
 ·have e:szL (wDdl x) left= -1:=by rw[wDdl,szL,if_neg hq0,szL_app _ _ _ hz0,if_neg hq1,szL_app _ _ _ hz1,if_neg hq2,szL,if_pos (by omega)]
  rw[e]
  try omega
 have hq3: ¬((szL (wStrS x.fKeys) (szL (wColS x.fCols) (left- (x.fTable.size:Nat))))- (x.fName.size:Nat))<0:=by omega
 have hz3:0≤((szL (wStrS x.fKeys) (szL (wColS x.fCols) (left- (x.fTable.size:Nat))))- (x.fName.size:Nat)):=by omega
 have hb4:x.fTo.size≤9223372036854775807:=hs _ (by simp[wDdl])
 rw[wrapI (i:=((szL (wStrS x.fKeys) (szL (wColS x.fCols) (left- (x.fTable.size:Nat))))- (x.fName.size:Nat))- (x.fTo.size:Nat)) (by omega) (by omega)]
 by_cases hn:(((szL (wStrS x.fKeys) (szL (wColS x.fCols) (left- (x.fTable.size:Nat))))- (x.fName.size:Nat))- (x.fTo.size:Nat))<0
 ·have e:szL (wDdl x) left= -1:=by rw[wDdl,szL,if_neg hq0,szL_app _ _ _ hz0,if_neg hq1,szL_app _ _ _ hz1,if_neg hq2,szL,if_neg hq3,szL,if_pos hn]
  rw[e]
  try omega
 ·have e:szL (wDdl x) left=(((szL (wStrS x.fKeys) (szL (wColS x.fCols) (left- (x.fTable.size:Nat))))- (x.fName.size:Nat))- (x.fTo.size:Nat)):=by rw[wDdl,szL,if_neg hq0,szL_app _ _ _ hz0,if_neg hq1,szL_app _ _ _ hz1,if_neg hq2,szL,if_neg hq3,szL,if_neg hn];rfl
  rw[e]
  try omega
theorem toDdl_ok (x:GDdl) (hs: ∀n∈wDdl x,n≤1048576):VC Tryz.prog 95 [vDdl x] [(true,mDdl x)]:=by
 refine vc_of_ew good hm [0,1,2,3] Tryz.func95 rfl (by kernel_rfl) (by kernel_rfl) rfl ?_
 simp[Tryz.f95,vDdl,mDdl]
 refine .of (toColS_ok x.fCols (fun n hn=>hs n (by simp[wDdl,hn]))) ?_
 simp[mColS]
 refine .of (toStrS_ok x.fKeys (fun n hn=>hs n (by simp[wDdl,hn]))) ?_
 simp[mStrS]
theorem eqDdl_ok (x:GDdl) (hs: ∀n∈wDdl x,n≤1048576):VC Tryz.prog 98 [vDdl x,vDdl x] [(false,[(.s,.sc (.bool true))])]:=by
 refine vc_of_ew good hm [0,1,2,3,4,9,14,20,26,31,36] Tryz.func98 rfl (by kernel_rfl) (by kernel_rfl) rfl ?_
 simp[Tryz.f98,vDdl]
 refine .of (eqColS_ok x.fCols (fun n hn=>hs n (by simp[wDdl,hn]))) ?_
 simp
 refine .of (eqStrS_ok x.fKeys (fun n hn=>hs n (by simp[wDdl,hn]))) ?_
 simp
def cvDdl (x:GDdl):Nat:=ctColS x.fCols+ctStrS x.fKeys
def mvDdl (k:Nat) (x:GDdl):GDdl:= {x with fCols:=mkColS (k) x.fCols,fKeys:=mkStrS (k+ctColS x.fCols) x.fKeys}
theorem cvle_Ddl (x:GDdl):cvDdl x≤64* (wDdl x).sum:=by
 have:=ctle_ColS x.fCols
 have:=ctle_StrS x.fKeys
 simp only[cvDdl,wDdl,List.sum_cons,List.sum_append,List.sum_nil]
 omega
theorem markVDdl_ok (x:GDdl) (k:Nat) (k':Int) (hkk':k'=(k:Int)) (hk:k+cvDdl x≤4611686018427387904) (hs: ∀n∈wDdl x,n≤4611686018427387904):VM Tryz.prog 100 [.v true [.s (.sc (.int .i64 x.fKind)),.s (.sc (.string x.fTable)),.r [900],.r [901],.s (.sc (.string x.fName)),.s (.sc (.string x.fTo))],int .i64 k'] [(.o 154 (fun _=> [.s,.s,.s,.s,.s,.s,.s]),.ls [.sc (.string ⟨#[]⟩),.sc (.int .i64 0),.sc (.bool false),.sc (.bool false),.sc (.int .i64 0),.sc (.int .i64 0),.sc (.string ⟨#[]⟩)] (x.fCols.map eCol),.ls [.sc (.string ⟨#[]⟩),.sc (.int .i64 0),.sc (.bool false),.sc (.bool false),.sc (.int .i64 0),.sc (.int .i64 0),.sc (.string ⟨#[]⟩)] ((mvDdl k x).fCols.map eCol)),(.o 9 (fun _=> [.s]),.ls [.sc (.string ⟨#[]⟩)] (x.fKeys.map eStr),.ls [.sc (.string ⟨#[]⟩)] ((mvDdl k x).fKeys.map eStr))] (some ((k:Int)+(cvDdl x:Int))):=by
 subst hkk'
 refine vm_of_ew good hm [0,1,2,4,5000,5001] Tryz.func100 rfl (by kernel_rfl) (by kernel_rfl) rfl fun pv=> ?_
 simp only[cvDdl] at hk
 simp[Tryz.f100,mvDdl,cvDdl]
 refine .mut (markColS_ok x.fCols (k) ((k:Int)) (by omega) (by omega) (fun n hn=>hs n (by simp[wDdl,hn]))) ?_
 simp[mvCat,mvDdl,mvRow,mvDb]
 refine .mut (markStrS_ok x.fKeys (k+ctColS x.fCols) ((k:Int)+(ctColS x.fCols:Int)) (by omega) (by omega) (fun n hn=>hs n (by simp[wDdl,hn]))) ?_
 simp[mvCat,mvDdl,mvRow,mvDb]
 try omega
structure GStmt where
 fKind:Int
 fTable:ByteArray
 fKey:List GVal
 fRow:GRow
 fDdl:GDdl
def eStmt (x:GStmt):List Lf:= [.sc (.int .i64 x.fKind),.sc (.string x.fTable),.ls [.sc (.int .i64 0),.sc (.int .i64 0),.sc (.string ⟨#[]⟩)] (x.fKey.map eVal),.ls [.sc (.int .i64 0),.sc (.int .i64 0),.sc (.string ⟨#[]⟩)] (x.fRow.fVals.map eVal),.sc (.int .i64 x.fDdl.fKind),.sc (.string x.fDdl.fTable),.ls [.sc (.string ⟨#[]⟩),.sc (.int .i64 0),.sc (.bool false),.sc (.bool false),.sc (.int .i64 0),.sc (.int .i64 0),.sc (.string ⟨#[]⟩)] (x.fDdl.fCols.map eCol),.ls [.sc (.string ⟨#[]⟩)] (x.fDdl.fKeys.map eStr),.sc (.string x.fDdl.fName),.sc (.string x.fDdl.fTo)]
def cStmt (x:GStmt):List LV:= [.s (.sc (.int .i64 x.fKind)),.s (.sc (.string x.fTable)),.s (.ls [.sc (.int .i64 0),.sc (.int .i64 0),.sc (.string ⟨#[]⟩)] (x.fKey.map eVal)),.s (.ls [.sc (.int .i64 0),.sc (.int .i64 0),.sc (.string ⟨#[]⟩)] (x.fRow.fVals.map eVal)),.s (.sc (.int .i64 x.fDdl.fKind)),.s (.sc (.string x.fDdl.fTable)),.s (.ls [.sc (.string ⟨#[]⟩),.sc (.int .i64 0),.sc (.bool false),.sc (.bool false),.sc (.int .i64 0),.sc (.int .i64 0),.sc (.string ⟨#[]⟩)] (x.fDdl.fCols.map eCol)),.s (.ls [.sc (.string ⟨#[]⟩)] (x.fDdl.fKeys.map eStr)),.s (.sc (.string x.fDdl.fName)),.s (.sc (.string x.fDdl.fTo))]
def vStmt (x:GStmt):SV:= .v true [.s (.sc (.int .i64 x.fKind)),.s (.sc (.string x.fTable)),.s (.ls [.sc (.int .i64 0),.sc (.int .i64 0),.sc (.string ⟨#[]⟩)] (x.fKey.map eVal)),.s (.ls [.sc (.int .i64 0),.sc (.int .i64 0),.sc (.string ⟨#[]⟩)] (x.fRow.fVals.map eVal)),.s (.sc (.int .i64 x.fDdl.fKind)),.s (.sc (.string x.fDdl.fTable)),.s (.ls [.sc (.string ⟨#[]⟩),.sc (.int .i64 0),.sc (.bool false),.sc (.bool false),.sc (.int .i64 0),.sc (.int .i64 0),.sc (.string ⟨#[]⟩)] (x.fDdl.fCols.map eCol)),.s (.ls [.sc (.string ⟨#[]⟩)] (x.fDdl.fKeys.map eStr)),.s (.sc (.string x.fDdl.fName)),.s (.sc (.string x.fDdl.fTo))]
def dStmt:GStmt:=⟨0,⟨#[]⟩,[],⟨[]⟩,⟨0,⟨#[]⟩,[],[],⟨#[]⟩,⟨#[]⟩⟩⟩
@[simp] theorem row_Stmt (l:List GStmt) (i:Nat):(Option.map eStmt l[i]?).getD [.sc (.int .i64 0),.sc (.string ⟨#[]⟩),.ls [.sc (.int .i64 0),.sc (.int .i64 0),.sc (.string ⟨#[]⟩)] [],.ls [.sc (.int .i64 0),.sc (.int .i64 0),.sc (.string ⟨#[]⟩)] [],.sc (.int .i64 0),.sc (.string ⟨#[]⟩),.ls [.sc (.string ⟨#[]⟩),.sc (.int .i64 0),.sc (.bool false),.sc (.bool false),.sc (.int .i64 0),.sc (.int .i64 0),.sc (.string ⟨#[]⟩)] [],.ls [.sc (.string ⟨#[]⟩)] [],.sc (.string ⟨#[]⟩),.sc (.string ⟨#[]⟩)]=eStmt (l[i]?.getD dStmt):=by cases l[i]? <;>rfl
def wStmt (x:GStmt):List Nat:=x.fTable.size::(wValS x.fKey++(wRow x.fRow++(wDdl x.fDdl++([]))))
def okStmt (x:GStmt):Prop:=okI x.fKind∧okM x.fTable.size∧okValS x.fKey∧okRow x.fRow∧okDdl x.fDdl∧True
theorem okw_Stmt (x:GStmt) (h:okStmt x): ∀n∈wStmt x,okM n:=by
 obtain ⟨h0,h1,h2,h3,h4,_⟩:=h
 intro n hn
 simp only[wStmt,List.mem_cons,List.mem_append,List.not_mem_nil,or_false,false_or] at hn
 rcases hn with rfl|hn|hn|hn
 ·exact h1
 ·exact okw_ValS _ h2 n hn
 ·exact okw_Row _ h3 n hn
 ·exact okw_Ddl _ h4 n hn
theorem fit_Stmt (ls:List Lf) (h:Fit ti ck 53 ls): ∃x:GStmt,ls=eStmt x∧okStmt x:=by
 obtain ⟨c0,r0,rfl,h0,g0⟩:=All2.cons_inv h
 obtain ⟨a0,rfl,b0⟩:=h0.int_inv
 obtain ⟨c1,r1,rfl,h1,g1⟩:=All2.cons_inv g0
 obtain ⟨a1,rfl,b1⟩:=h1.str_inv
 obtain ⟨c2,r2,rfl,h2,g2⟩:=All2.cons_inv g1
 obtain ⟨a2,rfl,b2,b2'⟩:=h2.list eVal okVal fit_Val
 obtain ⟨c3,r3,rfl,h3,g3⟩:=All2.cons_inv g2
 obtain ⟨a3,rfl,b3,b3'⟩:=h3.list eVal okVal fit_Val
 obtain ⟨c4,r4,rfl,h4,g4⟩:=All2.cons_inv g3
 obtain ⟨a4,rfl,b4⟩:=h4.int_inv
 obtain ⟨c5,r5,rfl,h5,g5⟩:=All2.cons_inv g4
 obtain ⟨a5,rfl,b5⟩:=h5.str_inv
 obtain ⟨c6,r6,rfl,h6,g6⟩:=All2.cons_inv g5
 obtain ⟨a6,rfl,b6,b6'⟩:=h6.list eCol okCol fit_Col
 obtain ⟨c7,r7,rfl,h7,g7⟩:=All2.cons_inv g6
 obtain ⟨a7,rfl,b7,b7'⟩:=h7.list eStr okStr fit_Str
 obtain ⟨c8,r8,rfl,h8,g8⟩:=All2.cons_inv g7
 obtain ⟨a8,rfl,b8⟩:=h8.str_inv
 obtain ⟨c9,r9,rfl,h9,g9⟩:=All2.cons_inv g8
 obtain ⟨a9,rfl,b9⟩:=h9.str_inv
 obtain rfl:=All2.nil_inv g9
 exact ⟨⟨a0,a1,a2,⟨a3⟩,⟨a4,a5,a6,a7,a8,a9⟩⟩,rfl,⟨okI_wf b0,b1,⟨b2,b2'⟩,⟨⟨b3,b3'⟩,trivial⟩,⟨okI_wf b4,b5,⟨b6,b6'⟩,⟨b7,b7'⟩,b8,b9,trivial⟩,trivial⟩⟩
def mStmt (x:GStmt):ML:= [(.s,.sc (.int .i64 x.fKind)),(.s,.sc (.string x.fTable)),(.o 152 (fun _=> [.s,.s,.s]),.ls [.sc (.int .i64 0),.sc (.int .i64 0),.sc (.string ⟨#[]⟩)] (x.fKey.map eVal)),(.o 152 (fun _=> [.s,.s,.s]),.ls [.sc (.int .i64 0),.sc (.int .i64 0),.sc (.string ⟨#[]⟩)] (x.fRow.fVals.map eVal)),(.s,.sc (.int .i64 x.fDdl.fKind)),(.s,.sc (.string x.fDdl.fTable)),(.o 154 (fun _=> [.s,.s,.s,.s,.s,.s,.s]),.ls [.sc (.string ⟨#[]⟩),.sc (.int .i64 0),.sc (.bool false),.sc (.bool false),.sc (.int .i64 0),.sc (.int .i64 0),.sc (.string ⟨#[]⟩)] (x.fDdl.fCols.map eCol)),(.o 9 (fun _=> [.s]),.ls [.sc (.string ⟨#[]⟩)] (x.fDdl.fKeys.map eStr)),(.s,.sc (.string x.fDdl.fName)),(.s,.sc (.string x.fDdl.fTo))]
theorem szStmt_ok (x:GStmt) (left:Int) (h0:0≤left) (h1:left≤1048576) (hs: ∀n∈wStmt x,okM n):VC Tryz.prog 40 [vStmt x,int .i64 left] [(false,[(.s,.sc (.int .i64 (szL (wStmt x) left)))])]:=by
 refine vc_of_ew good hm [0,1,2,4,11,17,23,29] Tryz.func40 rfl (by kernel_rfl) (by kernel_rfl) rfl ?_
 simp[Tryz.f40,vStmt]
 have hb0:x.fTable.size≤9223372036854775807:=hs _ (by simp[wStmt])
 rw[wrapI (i:=left- (x.fTable.size:Nat)) (by omega) (by omega)]
 refine ⟨fun hn=> ?_,fun hk0=> ?_⟩
 ·have e:szL (wStmt x) left= -1:=by rw[wStmt,szL,if_pos (by omega)]
  rw[e]
  try omega
 have hq0: ¬(left- (x.fTable.size:Nat))<0:=by omega
 have hz0:0≤(left- (x.fTable.size:Nat)):=by omega
 refine .of (szValS_ok x.fKey (left- (x.fTable.size:Nat)) (by omega) (by omega) (fun n hn=>hs n (by simp[wStmt,hn]))) ?_
 simp
 have hb1:=szL_le' (l:=wValS x.fKey) (left:=(left- (x.fTable.size:Nat))) (by omega)
 have hc1:=szL_neg (wValS x.fKey) (left- (x.fTable.size:Nat)) (by omega)
 refine ⟨fun hn=> ?_,fun hk1=> ?_⟩
 ·have e:szL (wStmt x) left= -1:=by rw[wStmt,szL,if_neg hq0,szL_app _ _ _ hz0,if_pos (by omega)]
  rw[e]
  try omega
 have hq1: ¬(szL (wValS x.fKey) (left- (x.fTable.size:Nat)))<0:=by omega
 have hz1:0≤(szL (wValS x.fKey) (left- (x.fTable.size:Nat))):=by omega
 refine .of (szRow_ok x.fRow (szL (wValS x.fKey) (left- (x.fTable.size:Nat))) (by omega) (by omega) (fun n hn=>hs n (by simp[wStmt,hn]))) ?_
 simp
 have hb2:=szL_le' (l:=wRow x.fRow) (left:=(szL (wValS x.fKey) (left- (x.fTable.size:Nat)))) (by omega)
 have hc2:=szL_neg (wRow x.fRow) (szL (wValS x.fKey) (left- (x.fTable.size:Nat))) (by omega)
 refine ⟨fun hn=> ?_,fun hk2=> ?_⟩
 ·have e:szL (wStmt x) left= -1:=by rw[wStmt,szL,if_neg hq0,szL_app _ _ _ hz0,if_neg hq1,szL_app _ _ _ hz1,if_pos (by omega)]
  rw[e]
  try omega
 have hq2: ¬(szL (wRow x.fRow) (szL (wValS x.fKey) (left- (x.fTable.size:Nat))))<0:=by omega
 have hz2:0≤(szL (wRow x.fRow) (szL (wValS x.fKey) (left- (x.fTable.size:Nat)))):=by omega
 refine .of (szDdl_ok x.fDdl (szL (wRow x.fRow) (szL (wValS x.fKey) (left- (x.fTable.size:Nat)))) (by omega) (by omega) (fun n hn=>hs n (by simp[wStmt,hn]))) ?_
 simp
 have hb3:=szL_le' (l:=wDdl x.fDdl) (left:=(szL (wRow x.fRow) (szL (wValS x.fKey) (left- (x.fTable.size:Nat))))) (by omega)
 have hc3:=szL_neg (wDdl x.fDdl) (szL (wRow x.fRow) (szL (wValS x.fKey) (left- (x.fTable.size:Nat)))) (by omega)
 by_cases hn:(szL (wDdl x.fDdl) (szL (wRow x.fRow) (szL (wValS x.fKey) (left- (x.fTable.size:Nat)))))<0
 ·have e:szL (wStmt x) left= -1:=by rw[wStmt,szL,if_neg hq0,szL_app _ _ _ hz0,if_neg hq1,szL_app _ _ _ hz1,if_neg hq2,szL_app _ _ _ hz2,if_pos hn]
  rw[e]
  try omega
 ·have e:szL (wStmt x) left=(szL (wDdl x.fDdl) (szL (wRow x.fRow) (szL (wValS x.fKey) (left- (x.fTable.size:Nat))))):=by rw[wStmt,szL,if_neg hq0,szL_app _ _ _ hz0,if_neg hq1,szL_app _ _ _ hz1,if_neg hq2,szL_app _ _ _ hz2,if_neg hn];rfl
  rw[e]
  try omega
theorem toStmt_ok (x:GStmt) (hs: ∀n∈wStmt x,n≤1048576):VC Tryz.prog 42 [vStmt x] [(true,mStmt x)]:=by
 refine vc_of_ew good hm [0,1,2,3] Tryz.func42 rfl (by kernel_rfl) (by kernel_rfl) rfl ?_
 simp[Tryz.f42,vStmt,mStmt]
 refine .of (toValS_ok x.fKey (fun n hn=>hs n (by simp[wStmt,hn]))) ?_
 simp[mValS]
 refine .of (toRow_ok x.fRow (fun n hn=>hs n (by simp[wStmt,hn]))) ?_
 simp[mRow]
 refine .of (toDdl_ok x.fDdl (fun n hn=>hs n (by simp[wStmt,hn]))) ?_
 simp[mDdl]
theorem eqStmt_ok (x:GStmt) (hs: ∀n∈wStmt x,n≤1048576):VC Tryz.prog 44 [vStmt x,vStmt x] [(false,[(.s,.sc (.bool true))])]:=by
 refine vc_of_ew good hm [0,1,2,3,4,9,14,20,26,32] Tryz.func44 rfl (by kernel_rfl) (by kernel_rfl) rfl ?_
 simp[Tryz.f44,vStmt]
 refine .of (eqValS_ok x.fKey (fun n hn=>hs n (by simp[wStmt,hn]))) ?_
 simp
 refine .of (eqRow_ok x.fRow (fun n hn=>hs n (by simp[wStmt,hn]))) ?_
 simp
 refine .of (eqDdl_ok x.fDdl (fun n hn=>hs n (by simp[wStmt,hn]))) ?_
 simp
def cvStmt (x:GStmt):Nat:=ctValS x.fKey+cvRow x.fRow+cvDdl x.fDdl
def mvStmt (k:Nat) (x:GStmt):GStmt:= {x with fKey:=mkValS (k) x.fKey,fRow:=mvRow (k+ctValS x.fKey) x.fRow,fDdl:=mvDdl (k+ctValS x.fKey+cvRow x.fRow) x.fDdl}
theorem cvle_Stmt (x:GStmt):cvStmt x≤64* (wStmt x).sum:=by
 have:=ctle_ValS x.fKey
 have:=cvle_Row x.fRow
 have:=cvle_Ddl x.fDdl
 simp only[cvStmt,wStmt,List.sum_cons,List.sum_append,List.sum_nil]
 omega
theorem markVStmt_ok (x:GStmt) (k:Nat) (k':Int) (hkk':k'=(k:Int)) (hk:k+cvStmt x≤4611686018427387904) (hs: ∀n∈wStmt x,n≤4611686018427387904):VM Tryz.prog 45 [.v true [.s (.sc (.int .i64 x.fKind)),.s (.sc (.string x.fTable)),.r [900],.r [901],.s (.sc (.int .i64 x.fDdl.fKind)),.s (.sc (.string x.fDdl.fTable)),.r [902],.r [903],.s (.sc (.string x.fDdl.fName)),.s (.sc (.string x.fDdl.fTo))],int .i64 k'] [(.o 152 (fun _=> [.s,.s,.s]),.ls [.sc (.int .i64 0),.sc (.int .i64 0),.sc (.string ⟨#[]⟩)] (x.fKey.map eVal),.ls [.sc (.int .i64 0),.sc (.int .i64 0),.sc (.string ⟨#[]⟩)] ((mvStmt k x).fKey.map eVal)),(.o 152 (fun _=> [.s,.s,.s]),.ls [.sc (.int .i64 0),.sc (.int .i64 0),.sc (.string ⟨#[]⟩)] (x.fRow.fVals.map eVal),.ls [.sc (.int .i64 0),.sc (.int .i64 0),.sc (.string ⟨#[]⟩)] ((mvStmt k x).fRow.fVals.map eVal)),(.o 154 (fun _=> [.s,.s,.s,.s,.s,.s,.s]),.ls [.sc (.string ⟨#[]⟩),.sc (.int .i64 0),.sc (.bool false),.sc (.bool false),.sc (.int .i64 0),.sc (.int .i64 0),.sc (.string ⟨#[]⟩)] (x.fDdl.fCols.map eCol),.ls [.sc (.string ⟨#[]⟩),.sc (.int .i64 0),.sc (.bool false),.sc (.bool false),.sc (.int .i64 0),.sc (.int .i64 0),.sc (.string ⟨#[]⟩)] ((mvStmt k x).fDdl.fCols.map eCol)),(.o 9 (fun _=> [.s]),.ls [.sc (.string ⟨#[]⟩)] (x.fDdl.fKeys.map eStr),.ls [.sc (.string ⟨#[]⟩)] ((mvStmt k x).fDdl.fKeys.map eStr))] (some ((k:Int)+(cvStmt x:Int))):=by
 subst hkk'
 refine vm_of_ew good hm [0,1,2,4,5000,5001,5002,5003] Tryz.func45 rfl (by kernel_rfl) (by kernel_rfl) rfl fun pv=> ?_
 simp only[cvStmt] at hk
 simp[Tryz.f45,mvStmt,cvStmt]
 refine .mut (markValS_ok x.fKey (k) ((k:Int)) (by omega) (by omega) (fun n hn=>hs n (by simp[wStmt,hn]))) ?_
 simp[mvCat,mvDdl,mvRow,mvStmt,mvDb]
 refine .mut (markVRow_ok x.fRow (k+ctValS x.fKey) ((k:Int)+(ctValS x.fKey:Int)) (by omega) (by omega) (fun n hn=>hs n (by simp[wStmt,hn]))) ?_
 simp[mvCat,mvDdl,mvRow,mvStmt,mvDb]
 refine .mut (markVDdl_ok x.fDdl (k+ctValS x.fKey+cvRow x.fRow) ((k:Int)+(ctValS x.fKey:Int)+(cvRow x.fRow:Int)) (by omega) (by omega) (fun n hn=>hs n (by simp[wStmt,hn]))) ?_
 simp[mvCat,mvDdl,mvRow,mvStmt,mvDb]
 try omega
structure GRec where
 fKind:Int
 fXid:Int
 fStmt:GStmt
def eRec (x:GRec):List Lf:= [.sc (.int .i64 x.fKind),.sc (.int .i64 x.fXid),.sc (.int .i64 x.fStmt.fKind),.sc (.string x.fStmt.fTable),.ls [.sc (.int .i64 0),.sc (.int .i64 0),.sc (.string ⟨#[]⟩)] (x.fStmt.fKey.map eVal),.ls [.sc (.int .i64 0),.sc (.int .i64 0),.sc (.string ⟨#[]⟩)] (x.fStmt.fRow.fVals.map eVal),.sc (.int .i64 x.fStmt.fDdl.fKind),.sc (.string x.fStmt.fDdl.fTable),.ls [.sc (.string ⟨#[]⟩),.sc (.int .i64 0),.sc (.bool false),.sc (.bool false),.sc (.int .i64 0),.sc (.int .i64 0),.sc (.string ⟨#[]⟩)] (x.fStmt.fDdl.fCols.map eCol),.ls [.sc (.string ⟨#[]⟩)] (x.fStmt.fDdl.fKeys.map eStr),.sc (.string x.fStmt.fDdl.fName),.sc (.string x.fStmt.fDdl.fTo)]
def vRec (x:GRec):SV:= .v true [.s (.sc (.int .i64 x.fKind)),.s (.sc (.int .i64 x.fXid)),.s (.sc (.int .i64 x.fStmt.fKind)),.s (.sc (.string x.fStmt.fTable)),.s (.ls [.sc (.int .i64 0),.sc (.int .i64 0),.sc (.string ⟨#[]⟩)] (x.fStmt.fKey.map eVal)),.s (.ls [.sc (.int .i64 0),.sc (.int .i64 0),.sc (.string ⟨#[]⟩)] (x.fStmt.fRow.fVals.map eVal)),.s (.sc (.int .i64 x.fStmt.fDdl.fKind)),.s (.sc (.string x.fStmt.fDdl.fTable)),.s (.ls [.sc (.string ⟨#[]⟩),.sc (.int .i64 0),.sc (.bool false),.sc (.bool false),.sc (.int .i64 0),.sc (.int .i64 0),.sc (.string ⟨#[]⟩)] (x.fStmt.fDdl.fCols.map eCol)),.s (.ls [.sc (.string ⟨#[]⟩)] (x.fStmt.fDdl.fKeys.map eStr)),.s (.sc (.string x.fStmt.fDdl.fName)),.s (.sc (.string x.fStmt.fDdl.fTo))]
def dRec:GRec:=⟨0,0,⟨0,⟨#[]⟩,[],⟨[]⟩,⟨0,⟨#[]⟩,[],[],⟨#[]⟩,⟨#[]⟩⟩⟩⟩
@[simp] theorem row_Rec (l:List GRec) (i:Nat):(Option.map eRec l[i]?).getD [.sc (.int .i64 0),.sc (.int .i64 0),.sc (.int .i64 0),.sc (.string ⟨#[]⟩),.ls [.sc (.int .i64 0),.sc (.int .i64 0),.sc (.string ⟨#[]⟩)] [],.ls [.sc (.int .i64 0),.sc (.int .i64 0),.sc (.string ⟨#[]⟩)] [],.sc (.int .i64 0),.sc (.string ⟨#[]⟩),.ls [.sc (.string ⟨#[]⟩),.sc (.int .i64 0),.sc (.bool false),.sc (.bool false),.sc (.int .i64 0),.sc (.int .i64 0),.sc (.string ⟨#[]⟩)] [],.ls [.sc (.string ⟨#[]⟩)] [],.sc (.string ⟨#[]⟩),.sc (.string ⟨#[]⟩)]=eRec (l[i]?.getD dRec):=by cases l[i]? <;>rfl
def wRec (x:GRec):List Nat:=wStmt x.fStmt++([])
def okRec (x:GRec):Prop:=okI x.fKind∧okI x.fXid∧okStmt x.fStmt∧True
theorem okw_Rec (x:GRec) (h:okRec x): ∀n∈wRec x,okM n:=by
 obtain ⟨h0,h1,h2,_⟩:=h
 intro n hn
 simp only[wRec,List.mem_cons,List.mem_append,List.not_mem_nil,or_false,false_or] at hn
 rcases hn with hn
 ·exact okw_Stmt _ h2 n hn
theorem fit_Rec (ls:List Lf) (h:Fit ti ck 104 ls): ∃x:GRec,ls=eRec x∧okRec x:=by
 obtain ⟨c0,r0,rfl,h0,g0⟩:=All2.cons_inv h
 obtain ⟨a0,rfl,b0⟩:=h0.int_inv
 obtain ⟨c1,r1,rfl,h1,g1⟩:=All2.cons_inv g0
 obtain ⟨a1,rfl,b1⟩:=h1.int_inv
 obtain ⟨c2,r2,rfl,h2,g2⟩:=All2.cons_inv g1
 obtain ⟨a2,rfl,b2⟩:=h2.int_inv
 obtain ⟨c3,r3,rfl,h3,g3⟩:=All2.cons_inv g2
 obtain ⟨a3,rfl,b3⟩:=h3.str_inv
 obtain ⟨c4,r4,rfl,h4,g4⟩:=All2.cons_inv g3
 obtain ⟨a4,rfl,b4,b4'⟩:=h4.list eVal okVal fit_Val
 obtain ⟨c5,r5,rfl,h5,g5⟩:=All2.cons_inv g4
 obtain ⟨a5,rfl,b5,b5'⟩:=h5.list eVal okVal fit_Val
 obtain ⟨c6,r6,rfl,h6,g6⟩:=All2.cons_inv g5
 obtain ⟨a6,rfl,b6⟩:=h6.int_inv
 obtain ⟨c7,r7,rfl,h7,g7⟩:=All2.cons_inv g6
 obtain ⟨a7,rfl,b7⟩:=h7.str_inv
 obtain ⟨c8,r8,rfl,h8,g8⟩:=All2.cons_inv g7
 obtain ⟨a8,rfl,b8,b8'⟩:=h8.list eCol okCol fit_Col
 obtain ⟨c9,r9,rfl,h9,g9⟩:=All2.cons_inv g8
 obtain ⟨a9,rfl,b9,b9'⟩:=h9.list eStr okStr fit_Str
 obtain ⟨c10,r10,rfl,h10,g10⟩:=All2.cons_inv g9
 obtain ⟨a10,rfl,b10⟩:=h10.str_inv
 obtain ⟨c11,r11,rfl,h11,g11⟩:=All2.cons_inv g10
 obtain ⟨a11,rfl,b11⟩:=h11.str_inv
 obtain rfl:=All2.nil_inv g11
 exact ⟨⟨a0,a1,⟨a2,a3,a4,⟨a5⟩,⟨a6,a7,a8,a9,a10,a11⟩⟩⟩,rfl,⟨okI_wf b0,okI_wf b1,⟨okI_wf b2,b3,⟨b4,b4'⟩,⟨⟨b5,b5'⟩,trivial⟩,⟨okI_wf b6,b7,⟨b8,b8'⟩,⟨b9,b9'⟩,b10,b11,trivial⟩,trivial⟩,trivial⟩⟩
def mRec (x:GRec):ML:= [(.s,.sc (.int .i64 x.fKind)),(.s,.sc (.int .i64 x.fXid)),(.s,.sc (.int .i64 x.fStmt.fKind)),(.s,.sc (.string x.fStmt.fTable)),(.o 152 (fun _=> [.s,.s,.s]),.ls [.sc (.int .i64 0),.sc (.int .i64 0),.sc (.string ⟨#[]⟩)] (x.fStmt.fKey.map eVal)),(.o 152 (fun _=> [.s,.s,.s]),.ls [.sc (.int .i64 0),.sc (.int .i64 0),.sc (.string ⟨#[]⟩)] (x.fStmt.fRow.fVals.map eVal)),(.s,.sc (.int .i64 x.fStmt.fDdl.fKind)),(.s,.sc (.string x.fStmt.fDdl.fTable)),(.o 154 (fun _=> [.s,.s,.s,.s,.s,.s,.s]),.ls [.sc (.string ⟨#[]⟩),.sc (.int .i64 0),.sc (.bool false),.sc (.bool false),.sc (.int .i64 0),.sc (.int .i64 0),.sc (.string ⟨#[]⟩)] (x.fStmt.fDdl.fCols.map eCol)),(.o 9 (fun _=> [.s]),.ls [.sc (.string ⟨#[]⟩)] (x.fStmt.fDdl.fKeys.map eStr)),(.s,.sc (.string x.fStmt.fDdl.fName)),(.s,.sc (.string x.fStmt.fDdl.fTo))]
theorem szRec_ok (x:GRec) (left:Int) (h0:0≤left) (h1:left≤1048576) (hs: ∀n∈wRec x,okM n):VC Tryz.prog 65 [vRec x,int .i64 left] [(false,[(.s,.sc (.int .i64 (szL (wRec x) left)))])]:=by
 refine vc_of_ew good hm [0,1,2,4,10] Tryz.func65 rfl (by kernel_rfl) (by kernel_rfl) rfl ?_
 simp[Tryz.f65,vRec]
 refine .of (szStmt_ok x.fStmt left (by omega) (by omega) (fun n hn=>hs n (by simp[wRec,hn]))) ?_
 simp
 have hb0:=szL_le' (l:=wStmt x.fStmt) (left:=left) (by omega)
 have hc0:=szL_neg (wStmt x.fStmt) left (by omega)
 by_cases hn:(szL (wStmt x.fStmt) left)<0
 ·have e:szL (wRec x) left= -1:=by rw[wRec,szL_app _ _ _ h0,if_pos hn]
  rw[e]
  try omega
 ·have e:szL (wRec x) left=(szL (wStmt x.fStmt) left):=by rw[wRec,szL_app _ _ _ h0,if_neg hn];rfl
  rw[e]
  try omega
theorem toRec_ok (x:GRec) (hs: ∀n∈wRec x,n≤1048576):VC Tryz.prog 66 [vRec x] [(true,mRec x)]:=by
 refine vc_of_ew good hm [0,1,2,3] Tryz.func66 rfl (by kernel_rfl) (by kernel_rfl) rfl ?_
 simp[Tryz.f66,vRec,mRec]
 refine .of (toStmt_ok x.fStmt (fun n hn=>hs n (by simp[wRec,hn]))) ?_
 simp[mStmt]
theorem eqRec_ok (x:GRec) (hs: ∀n∈wRec x,n≤1048576):VC Tryz.prog 67 [vRec x,vRec x] [(false,[(.s,.sc (.bool true))])]:=by
 refine vc_of_ew good hm [0,1,2,3,4,9,14,20] Tryz.func67 rfl (by kernel_rfl) (by kernel_rfl) rfl ?_
 simp[Tryz.f67,vRec]
 refine .of (eqStmt_ok x.fStmt (fun n hn=>hs n (by simp[wRec,hn]))) ?_
 simp
structure GSlot where
 fName:ByteArray
 fAt:Int
def eSlot (x:GSlot):List Lf:= [.sc (.string x.fName),.sc (.int .i64 x.fAt)]
def vSlot (x:GSlot):SV:= .v true [.s (.sc (.string x.fName)),.s (.sc (.int .i64 x.fAt))]
def dSlot:GSlot:=⟨⟨#[]⟩,0⟩
@[simp] theorem row_Slot (l:List GSlot) (i:Nat):(Option.map eSlot l[i]?).getD [.sc (.string ⟨#[]⟩),.sc (.int .i64 0)]=eSlot (l[i]?.getD dSlot):=by cases l[i]? <;>rfl
def wSlot (x:GSlot):List Nat:=x.fName.size::([])
def okSlot (x:GSlot):Prop:=okM x.fName.size∧okI x.fAt∧True
theorem okw_Slot (x:GSlot) (h:okSlot x): ∀n∈wSlot x,okM n:=by
 obtain ⟨h0,h1,_⟩:=h
 intro n hn
 simp only[wSlot,List.mem_cons,List.mem_append,List.not_mem_nil,or_false,false_or] at hn
 rcases hn with rfl
 ·exact h0
theorem fit_Slot (ls:List Lf) (h:Fit ti ck 116 ls): ∃x:GSlot,ls=eSlot x∧okSlot x:=by
 obtain ⟨c0,r0,rfl,h0,g0⟩:=All2.cons_inv h
 obtain ⟨a0,rfl,b0⟩:=h0.str_inv
 obtain ⟨c1,r1,rfl,h1,g1⟩:=All2.cons_inv g0
 obtain ⟨a1,rfl,b1⟩:=h1.int_inv
 obtain rfl:=All2.nil_inv g1
 exact ⟨⟨a0,a1⟩,rfl,⟨b0,okI_wf b1,trivial⟩⟩
def mSlot (x:GSlot):ML:= [(.s,.sc (.string x.fName)),(.s,.sc (.int .i64 x.fAt))]
theorem szSlot_ok (x:GSlot) (left:Int) (h0:0≤left) (h1:left≤1048576) (hs: ∀n∈wSlot x,okM n):VC Tryz.prog 74 [vSlot x,int .i64 left] [(false,[(.s,.sc (.int .i64 (szL (wSlot x) left)))])]:=by
 refine vc_of_ew good hm [0,1,2,4,11] Tryz.func74 rfl (by kernel_rfl) (by kernel_rfl) rfl ?_
 simp[Tryz.f74,vSlot]
 have hb0:x.fName.size≤9223372036854775807:=hs _ (by simp[wSlot])
 rw[wrapI (i:=left- (x.fName.size:Nat)) (by omega) (by omega)]
 by_cases hn:(left- (x.fName.size:Nat))<0
 ·have e:szL (wSlot x) left= -1:=by rw[wSlot,szL,if_pos hn]
  rw[e]
  try omega
 ·have e:szL (wSlot x) left=(left- (x.fName.size:Nat)):=by rw[wSlot,szL,if_neg hn];rfl
  rw[e]
  try omega
theorem toSlot_ok (x:GSlot) (hs: ∀n∈wSlot x,n≤1048576):VC Tryz.prog 78 [vSlot x] [(true,mSlot x)]:=by
 refine vc_of_ew good hm [0,1,2,3] Tryz.func78 rfl (by kernel_rfl) (by kernel_rfl) rfl ?_
 simp[Tryz.f78,vSlot,mSlot]
theorem eqSlot_ok (x:GSlot) (hs: ∀n∈wSlot x,n≤1048576):VC Tryz.prog 82 [vSlot x,vSlot x] [(false,[(.s,.sc (.bool true))])]:=by
 refine vc_of_ew good hm [0,1,2,3,4,9,14] Tryz.func82 rfl (by kernel_rfl) (by kernel_rfl) rfl ?_
 simp[Tryz.f82,vSlot]
structure GSnap where
 fLsn:Int
 fDb:GDb
def mvSnap (k:Nat) (x:GSnap):GSnap:= {x with fDb:=mvDb (k) x.fDb}
def eRecS (l:List GRec):List Lf:= [.ls [.sc (.int .i64 0),.sc (.int .i64 0),.sc (.int .i64 0),.sc (.string ⟨#[]⟩),.ls [.sc (.int .i64 0),.sc (.int .i64 0),.sc (.string ⟨#[]⟩)] [],.ls [.sc (.int .i64 0),.sc (.int .i64 0),.sc (.string ⟨#[]⟩)] [],.sc (.int .i64 0),.sc (.string ⟨#[]⟩),.ls [.sc (.string ⟨#[]⟩),.sc (.int .i64 0),.sc (.bool false),.sc (.bool false),.sc (.int .i64 0),.sc (.int .i64 0),.sc (.string ⟨#[]⟩)] [],.ls [.sc (.string ⟨#[]⟩)] [],.sc (.string ⟨#[]⟩),.sc (.string ⟨#[]⟩)] (l.map eRec)]
def vRecS (l:List GRec):SV:=list [.sc (.int .i64 0),.sc (.int .i64 0),.sc (.int .i64 0),.sc (.string ⟨#[]⟩),.ls [.sc (.int .i64 0),.sc (.int .i64 0),.sc (.string ⟨#[]⟩)] [],.ls [.sc (.int .i64 0),.sc (.int .i64 0),.sc (.string ⟨#[]⟩)] [],.sc (.int .i64 0),.sc (.string ⟨#[]⟩),.ls [.sc (.string ⟨#[]⟩),.sc (.int .i64 0),.sc (.bool false),.sc (.bool false),.sc (.int .i64 0),.sc (.int .i64 0),.sc (.string ⟨#[]⟩)] [],.ls [.sc (.string ⟨#[]⟩)] [],.sc (.string ⟨#[]⟩),.sc (.string ⟨#[]⟩)] (l.map eRec)
@[simp] theorem row_RecS (l:List (List GRec)) (i:Nat):(Option.map eRecS l[i]?).getD [.ls [.sc (.int .i64 0),.sc (.int .i64 0),.sc (.int .i64 0),.sc (.string ⟨#[]⟩),.ls [.sc (.int .i64 0),.sc (.int .i64 0),.sc (.string ⟨#[]⟩)] [],.ls [.sc (.int .i64 0),.sc (.int .i64 0),.sc (.string ⟨#[]⟩)] [],.sc (.int .i64 0),.sc (.string ⟨#[]⟩),.ls [.sc (.string ⟨#[]⟩),.sc (.int .i64 0),.sc (.bool false),.sc (.bool false),.sc (.int .i64 0),.sc (.int .i64 0),.sc (.string ⟨#[]⟩)] [],.ls [.sc (.string ⟨#[]⟩)] [],.sc (.string ⟨#[]⟩),.sc (.string ⟨#[]⟩)] []]=eRecS (l[i]?.getD []):=by cases l[i]? <;>rfl
def wRecS (l:List GRec):List Nat:=l.length::l.flatMap wRec
def okRecS (l:List GRec):Prop:=okM l.length∧ ∀a∈l,okRec a
theorem okw_RecS (l:List GRec) (h:okRecS l): ∀n∈wRecS l,okM n:=by
 intro n hn
 rcases List.mem_cons.1 hn with rfl|hn
 ·exact h.1
 ·obtain ⟨a,ha,hn⟩:=List.mem_flatMap.1 hn
  exact okw_Rec a (h.2 a ha) n hn
theorem fit_RecS (ls:List Lf) (h:Fit ti ck 22 ls): ∃x:List GRec,ls=eRecS x∧okRecS x:=by
 obtain ⟨x,r,rfl,h1,h2⟩:=All2.cons_inv h
 obtain rfl:=All2.nil_inv h2
 obtain ⟨l,rfl,hl,hs⟩:=h1.list eRec okRec fit_Rec
 exact ⟨l,rfl,hl,hs⟩
def mRecS (x:List GRec):ML:= [(.o 106 (fun _=> [.s,.s,.s,.s,.o 152 (fun _=> [.s,.s,.s]),.o 152 (fun _=> [.s,.s,.s]),.s,.s,.o 154 (fun _=> [.s,.s,.s,.s,.s,.s,.s]),.o 9 (fun _=> [.s]),.s,.s]),.ls [.sc (.int .i64 0),.sc (.int .i64 0),.sc (.int .i64 0),.sc (.string ⟨#[]⟩),.ls [.sc (.int .i64 0),.sc (.int .i64 0),.sc (.string ⟨#[]⟩)] [],.ls [.sc (.int .i64 0),.sc (.int .i64 0),.sc (.string ⟨#[]⟩)] [],.sc (.int .i64 0),.sc (.string ⟨#[]⟩),.ls [.sc (.string ⟨#[]⟩),.sc (.int .i64 0),.sc (.bool false),.sc (.bool false),.sc (.int .i64 0),.sc (.int .i64 0),.sc (.string ⟨#[]⟩)] [],.ls [.sc (.string ⟨#[]⟩)] [],.sc (.string ⟨#[]⟩),.sc (.string ⟨#[]⟩)] (x.map eRec))]
@[simp] theorem ow_RecS (l:List GRec):Ow (.o 106 (fun _=> [.s,.s,.s,.s,.o 152 (fun _=> [.s,.s,.s]),.o 152 (fun _=> [.s,.s,.s]),.s,.s,.o 154 (fun _=> [.s,.s,.s,.s,.s,.s,.s]),.o 9 (fun _=> [.s]),.s,.s])) (.ls [.sc (.int .i64 0),.sc (.int .i64 0),.sc (.int .i64 0),.sc (.string ⟨#[]⟩),.ls [.sc (.int .i64 0),.sc (.int .i64 0),.sc (.string ⟨#[]⟩)] [],.ls [.sc (.int .i64 0),.sc (.int .i64 0),.sc (.string ⟨#[]⟩)] [],.sc (.int .i64 0),.sc (.string ⟨#[]⟩),.ls [.sc (.string ⟨#[]⟩),.sc (.int .i64 0),.sc (.bool false),.sc (.bool false),.sc (.int .i64 0),.sc (.int .i64 0),.sc (.string ⟨#[]⟩)] [],.ls [.sc (.string ⟨#[]⟩)] [],.sc (.string ⟨#[]⟩),.sc (.string ⟨#[]⟩)] (l.map eRec))=True:=eq_true (Ow_rows (fun x j hj=>match j,hj with|0,_=> .sc|1,_=> .sc|2,_=> .sc|3,_=> .sc|4,_=>of_eq_true (ow_ValS x.fStmt.fKey)|5,_=>of_eq_true (ow_ValS x.fStmt.fRow.fVals)|6,_=> .sc|7,_=> .sc|8,_=>of_eq_true (ow_ColS x.fStmt.fDdl.fCols)|9,_=>of_eq_true (ow_StrS x.fStmt.fDdl.fKeys)|10,_=> .sc|11,_=> .sc|n+12,hj=>absurd hj (by simp)) l)
@[simp] theorem full_RecS (l:List GRec):Full (.o 106 (fun _=> [.s,.s,.s,.s,.o 152 (fun _=> [.s,.s,.s]),.o 152 (fun _=> [.s,.s,.s]),.s,.s,.o 154 (fun _=> [.s,.s,.s,.s,.s,.s,.s]),.o 9 (fun _=> [.s]),.s,.s])) (.ls [.sc (.int .i64 0),.sc (.int .i64 0),.sc (.int .i64 0),.sc (.string ⟨#[]⟩),.ls [.sc (.int .i64 0),.sc (.int .i64 0),.sc (.string ⟨#[]⟩)] [],.ls [.sc (.int .i64 0),.sc (.int .i64 0),.sc (.string ⟨#[]⟩)] [],.sc (.int .i64 0),.sc (.string ⟨#[]⟩),.ls [.sc (.string ⟨#[]⟩),.sc (.int .i64 0),.sc (.bool false),.sc (.bool false),.sc (.int .i64 0),.sc (.int .i64 0),.sc (.string ⟨#[]⟩)] [],.ls [.sc (.string ⟨#[]⟩)] [],.sc (.string ⟨#[]⟩),.sc (.string ⟨#[]⟩)] (l.map eRec))=True:=eq_true (Full_rows (fun x j hj=>match j,hj with|0,_=> .s|1,_=> .s|2,_=> .s|3,_=> .s|4,_=>of_eq_true (full_ValS x.fStmt.fKey)|5,_=>of_eq_true (full_ValS x.fStmt.fRow.fVals)|6,_=> .s|7,_=> .s|8,_=>of_eq_true (full_ColS x.fStmt.fDdl.fCols)|9,_=>of_eq_true (full_StrS x.fStmt.fDdl.fKeys)|10,_=> .s|11,_=> .s|n+12,hj=>absurd hj (by simp)) l)
theorem szRecS_ok (x:List GRec) (left:Int) (h0:0≤left) (h1:left≤1048576) (hs: ∀n∈wRecS x,okM n):VC Tryz.prog 15 [vRecS x,int .i64 left] [(false,[(.s,.sc (.int .i64 (szL (wRecS x) left)))])]:=by
 refine vc_of_ew good hm [0,1,4,11,5,15,25] Tryz.func15 rfl (by kernel_rfl) (by kernel_rfl) rfl ?_
 have hl:x.length≤9223372036854775807:=hs _ (by simp[wRecS])
 simp[Tryz.f15,vRecS]
 rw[wrapI (i:=left-x.length) (by omega) (by omega)]
 refine ⟨fun h=>by simp[wRecS,szL,h],fun hk=> ?_⟩
 refine ew_loop (fun E=> ∃i:Nat,i≤x.length∧0≤szL ((x.take i).flatMap wRec) (left-x.length)∧E= {nt:=27,sl:= [(0,vRecS x),(1,int .i64 (szL ((x.take i).flatMap wRec) (left-x.length))),(5,int .i64 i)],bx:= [],rt:= []}) (fun E=>x.length- (E.num 5).toNat) _ (Gh.keep _ [0,1,5]) ⟨0,by omega,by simp[szL];omega,by simp[szL,vRecS]⟩ ?_
 rintro E1 ⟨i,hi,hr0,rfl⟩
 have hr1:=szL_le' (l:=(x.take i).flatMap wRec) (left:=left-x.length) (by omega)
 simp[vRecS,eRec]
 refine ⟨fun h=> ?_,fun h=> ?_⟩
 ·obtain ⟨q1,q2⟩:=szF_step wRec (dRec) h (by omega:0≤left-x.length) hr0
  have hm: ∀n∈wRec (x[i]?.getD (dRec)),okM n:=fun n hn=>hs n (List.mem_cons_of_mem _ (mem_flat h hn))
  have hn1:=szL_neg (wRec (x[i]?.getD (dRec))) _ hr0
  refine ⟨h,.of (szRec_ok _ _ hr0 (by omega) hm) ?_⟩
  simp
  refine ⟨fun h2=> ?_,fun h2=> .of _ (Gh.keep _ [0,1,5]) ⟨i+1,by omega, ?_, ?_⟩ ?_⟩
  ·rw[wRecS,szL,if_neg (by omega),q1 h2]
  ·rw[q2];exact h2
  ·rw[q2];simp[wrapS (show i<9223372036854775807 by omega)]
  ·simp[wrapS (show i<9223372036854775807 by omega)];omega
 ·rw[wRecS,szL,if_neg (by omega),List.take_of_length_le (by simpa using h)]
theorem toRecS_ok (x:List GRec) (hs: ∀n∈wRecS x,n≤1048576):VC Tryz.prog 17 [vRecS x] [(false,mRecS x)]:=by
 refine vc_of_ew good hm [0,2,3,4,11] Tryz.func17 rfl (by kernel_rfl) (by kernel_rfl) rfl ?_
 have hl:x.length≤1048576:=hs _ (by simp[wRecS])
 simp[Tryz.f17,vRecS,mRecS]
 refine ⟨by omega, ?_⟩
 refine ew_loop (fun E=> ∃i:Nat,i≤x.length∧E= {nt:=23,sl:= [(0,vRecS x),(3,.v false [.r [7]]),(4,int .i64 i)],bx:= [],rt:= [(7,.o 106 (fun _=> [.s,.s,.s,.s,.o 152 (fun _=> [.s,.s,.s]),.o 152 (fun _=> [.s,.s,.s]),.s,.s,.o 154 (fun _=> [.s,.s,.s,.s,.s,.s,.s]),.o 9 (fun _=> [.s]),.s,.s]),.ls [.sc (.int .i64 0),.sc (.int .i64 0),.sc (.int .i64 0),.sc (.string ⟨#[]⟩),.ls [.sc (.int .i64 0),.sc (.int .i64 0),.sc (.string ⟨#[]⟩)] [],.ls [.sc (.int .i64 0),.sc (.int .i64 0),.sc (.string ⟨#[]⟩)] [],.sc (.int .i64 0),.sc (.string ⟨#[]⟩),.ls [.sc (.string ⟨#[]⟩),.sc (.int .i64 0),.sc (.bool false),.sc (.bool false),.sc (.int .i64 0),.sc (.int .i64 0),.sc (.string ⟨#[]⟩)] [],.ls [.sc (.string ⟨#[]⟩)] [],.sc (.string ⟨#[]⟩),.sc (.string ⟨#[]⟩)] (fillR [.sc (.int .i64 0),.sc (.int .i64 0),.sc (.int .i64 0),.sc (.string ⟨#[]⟩),.ls [.sc (.int .i64 0),.sc (.int .i64 0),.sc (.string ⟨#[]⟩)] [],.ls [.sc (.int .i64 0),.sc (.int .i64 0),.sc (.string ⟨#[]⟩)] [],.sc (.int .i64 0),.sc (.string ⟨#[]⟩),.ls [.sc (.string ⟨#[]⟩),.sc (.int .i64 0),.sc (.bool false),.sc (.bool false),.sc (.int .i64 0),.sc (.int .i64 0),.sc (.string ⟨#[]⟩)] [],.ls [.sc (.string ⟨#[]⟩)] [],.sc (.string ⟨#[]⟩),.sc (.string ⟨#[]⟩)] (x.map eRec) i))]}) (fun E=>x.length- (E.num 4).toNat) _ (Gh.keep _ [0,3,4]) ⟨0,by omega,by simp[vRecS,fillR]⟩ ?_
 rintro E1 ⟨i,hi,rfl⟩
 have hfl:(fillR [.sc (.int .i64 0),.sc (.int .i64 0),.sc (.int .i64 0),.sc (.string ⟨#[]⟩),.ls [.sc (.int .i64 0),.sc (.int .i64 0),.sc (.string ⟨#[]⟩)] [],.ls [.sc (.int .i64 0),.sc (.int .i64 0),.sc (.string ⟨#[]⟩)] [],.sc (.int .i64 0),.sc (.string ⟨#[]⟩),.ls [.sc (.string ⟨#[]⟩),.sc (.int .i64 0),.sc (.bool false),.sc (.bool false),.sc (.int .i64 0),.sc (.int .i64 0),.sc (.string ⟨#[]⟩)] [],.ls [.sc (.string ⟨#[]⟩)] [],.sc (.string ⟨#[]⟩),.sc (.string ⟨#[]⟩)] (x.map eRec) i).length=x.length:=by rw[fillR_len _ _ (by simpa using hi)];simp
 simp[vRecS,eRec] at hfl⊢
 try simp[hfl]
 refine ⟨fun h=>⟨h,.of (toRec_ok (x[i]?.getD dRec) (fun n hn=>hs n (List.mem_cons_of_mem _ (mem_flat (wt:=wRec) h hn)))) ?_⟩,fun h=>fillR_all _ _ (by simpa using h)⟩
 simp[mRec]
 try simp[hfl,h]
 refine .of _ (Gh.keep _ [0,3,4]) ⟨i+1,by omega, ?_⟩ ?_
 ·have:=fillR_set [.sc (.int .i64 0),.sc (.int .i64 0),.sc (.int .i64 0),.sc (.string ⟨#[]⟩),.ls [.sc (.int .i64 0),.sc (.int .i64 0),.sc (.string ⟨#[]⟩)] [],.ls [.sc (.int .i64 0),.sc (.int .i64 0),.sc (.string ⟨#[]⟩)] [],.sc (.int .i64 0),.sc (.string ⟨#[]⟩),.ls [.sc (.string ⟨#[]⟩),.sc (.int .i64 0),.sc (.bool false),.sc (.bool false),.sc (.int .i64 0),.sc (.int .i64 0),.sc (.string ⟨#[]⟩)] [],.ls [.sc (.string ⟨#[]⟩)] [],.sc (.string ⟨#[]⟩),.sc (.string ⟨#[]⟩)] (x.map eRec) (i:=i) (by simpa using h)
  simp[wrapS (show i<9223372036854775807 by omega),vRecS,eRec,h] at this⊢
  rw[←this]
 ·simp[wrapS (show i<9223372036854775807 by omega)];omega
theorem eqRecS_ok (x:List GRec) (hs: ∀n∈wRecS x,n≤1048576):VC Tryz.prog 19 [vRecS x,vRecS x] [(false,[(.s,.sc (.bool true))])]:=by
 refine vc_of_ew good hm [0,1,4,10,5,14,26] Tryz.func19 rfl (by kernel_rfl) (by kernel_rfl) rfl ?_
 have hl:x.length≤1048576:=hs _ (by simp[wRecS])
 simp[Tryz.f19,vRecS]
 refine ew_loop (fun E=> ∃i:Nat,i≤x.length∧E= {nt:=27,sl:= [(0,vRecS x),(1,vRecS x),(5,int .i64 i)],bx:= [],rt:= []}) (fun E=>x.length- (E.num 5).toNat) _ (Gh.keep _ [0,1,5]) ⟨0,by omega,by simp[vRecS]⟩ ?_
 rintro E1 ⟨i,hi,rfl⟩
 simp[vRecS,eRec]
 intro h
 refine ⟨h,.of (eqRec_ok (x[i]?.getD dRec) (fun n hn=>hs n (List.mem_cons_of_mem _ (mem_flat (wt:=wRec) h hn)))) ?_⟩
 simp
 refine .of _ (Gh.keep _ [0,1,5]) ⟨i+1,by omega, ?_⟩ ?_
 ·simp[wrapS (show i<9223372036854775807 by omega),vRecS]
 ·simp[wrapS (show i<9223372036854775807 by omega)];omega
def ctRec (x:GRec):Nat:=8+ctValS x.fStmt.fKey+ctValS x.fStmt.fRow.fVals+ctColS x.fStmt.fDdl.fCols+ctStrS x.fStmt.fDdl.fKeys
def mkRec (k:Nat) (x:GRec):GRec:=⟨mkInt (k) x.fKind,mkInt (k+1) x.fXid,⟨mkInt (k+2) x.fStmt.fKind,mkStr (k+3) x.fStmt.fTable,mkValS (k+4) x.fStmt.fKey,⟨mkValS (k+4+ctValS x.fStmt.fKey) x.fStmt.fRow.fVals⟩,⟨mkInt (k+4+ctValS x.fStmt.fKey+ctValS x.fStmt.fRow.fVals) x.fStmt.fDdl.fKind,mkStr (k+5+ctValS x.fStmt.fKey+ctValS x.fStmt.fRow.fVals) x.fStmt.fDdl.fTable,mkColS (k+6+ctValS x.fStmt.fKey+ctValS x.fStmt.fRow.fVals) x.fStmt.fDdl.fCols,mkStrS (k+6+ctValS x.fStmt.fKey+ctValS x.fStmt.fRow.fVals+ctColS x.fStmt.fDdl.fCols) x.fStmt.fDdl.fKeys,mkStr (k+6+ctValS x.fStmt.fKey+ctValS x.fStmt.fRow.fVals+ctColS x.fStmt.fDdl.fCols+ctStrS x.fStmt.fDdl.fKeys) x.fStmt.fDdl.fName,mkStr (k+7+ctValS x.fStmt.fKey+ctValS x.fStmt.fRow.fVals+ctColS x.fStmt.fDdl.fCols+ctStrS x.fStmt.fDdl.fKeys) x.fStmt.fDdl.fTo⟩⟩⟩
theorem ctle_Rec (x:GRec):ctRec x≤64+64* (wRec x).sum:=by
 have:=ctle_ValS x.fStmt.fKey
 have:=ctle_ValS x.fStmt.fRow.fVals
 have:=ctle_ColS x.fStmt.fDdl.fCols
 have:=ctle_StrS x.fStmt.fDdl.fKeys
 simp only[ctRec,wRec,wStmt,wRow,wDdl,List.sum_cons,List.sum_append,List.sum_nil]
 omega
def ctRecS (l:List GRec):Nat:=ctRw ctRec l
def mkRecS (k:Nat) (l:List GRec):List GRec:=mkRw mkRec ctRec k l
theorem ctle_RecS (l:List GRec):ctRecS l≤64* (wRecS l).sum:=by
 have:=ctRw_le64 ctRec wRec l (fun x _=>ctle_Rec x)
 simp only[wRecS,List.sum_cons]
 exact this
theorem markRecS_ok (x:List GRec) (k:Nat) (k':Int) (hkk':k'=(k:Int)) (hk:k+ctRecS x≤4611686018427387904) (hs: ∀n∈wRecS x,n≤4611686018427387904):VM Tryz.prog 23 [.v false [.r [900]],int .i64 k'] [(.o 106 (fun _=> [.s,.s,.s,.s,.o 152 (fun _=> [.s,.s,.s]),.o 152 (fun _=> [.s,.s,.s]),.s,.s,.o 154 (fun _=> [.s,.s,.s,.s,.s,.s,.s]),.o 9 (fun _=> [.s]),.s,.s]),.ls [.sc (.int .i64 0),.sc (.int .i64 0),.sc (.int .i64 0),.sc (.string ⟨#[]⟩),.ls [.sc (.int .i64 0),.sc (.int .i64 0),.sc (.string ⟨#[]⟩)] [],.ls [.sc (.int .i64 0),.sc (.int .i64 0),.sc (.string ⟨#[]⟩)] [],.sc (.int .i64 0),.sc (.string ⟨#[]⟩),.ls [.sc (.string ⟨#[]⟩),.sc (.int .i64 0),.sc (.bool false),.sc (.bool false),.sc (.int .i64 0),.sc (.int .i64 0),.sc (.string ⟨#[]⟩)] [],.ls [.sc (.string ⟨#[]⟩)] [],.sc (.string ⟨#[]⟩),.sc (.string ⟨#[]⟩)] (x.map eRec),.ls [.sc (.int .i64 0),.sc (.int .i64 0),.sc (.int .i64 0),.sc (.string ⟨#[]⟩),.ls [.sc (.int .i64 0),.sc (.int .i64 0),.sc (.string ⟨#[]⟩)] [],.ls [.sc (.int .i64 0),.sc (.int .i64 0),.sc (.string ⟨#[]⟩)] [],.sc (.int .i64 0),.sc (.string ⟨#[]⟩),.ls [.sc (.string ⟨#[]⟩),.sc (.int .i64 0),.sc (.bool false),.sc (.bool false),.sc (.int .i64 0),.sc (.int .i64 0),.sc (.string ⟨#[]⟩)] [],.ls [.sc (.string ⟨#[]⟩)] [],.sc (.string ⟨#[]⟩),.sc (.string ⟨#[]⟩)] ((mkRecS k x).map eRec))] (some ((k:Int)+(ctRecS x:Int))):=by
 subst hkk'
 have hl:x.length≤4611686018427387904:=hs _ (by simp[wRecS])
 refine vm_of_ew good hm [0,1,4,5,9,5000] Tryz.func23 rfl (by kernel_rfl) (by kernel_rfl) rfl fun pv=> ?_
 simp[Tryz.f23]
 refine ew_loop (fun E=> ∃ (i K:Nat) (M:List (GRec)),i≤x.length∧K=k+ctRw ctRec (x.take i)∧M=mixR mkRec ctRec k x i∧E= {nt:=118,sl:= [(0,.v false [.r [900]]),(1,int .i64 (K:Int)),(5,int .i64 i),(5000,.pin 900 [] (pv 900))],bx:= [],rt:= [(900,.o 106 (fun _=> [.s,.s,.s,.s,.o 152 (fun _=> [.s,.s,.s]),.o 152 (fun _=> [.s,.s,.s]),.s,.s,.o 154 (fun _=> [.s,.s,.s,.s,.s,.s,.s]),.o 9 (fun _=> [.s]),.s,.s]),.ls [.sc (.int .i64 0),.sc (.int .i64 0),.sc (.int .i64 0),.sc (.string ⟨#[]⟩),.ls [.sc (.int .i64 0),.sc (.int .i64 0),.sc (.string ⟨#[]⟩)] [],.ls [.sc (.int .i64 0),.sc (.int .i64 0),.sc (.string ⟨#[]⟩)] [],.sc (.int .i64 0),.sc (.string ⟨#[]⟩),.ls [.sc (.string ⟨#[]⟩),.sc (.int .i64 0),.sc (.bool false),.sc (.bool false),.sc (.int .i64 0),.sc (.int .i64 0),.sc (.string ⟨#[]⟩)] [],.ls [.sc (.string ⟨#[]⟩)] [],.sc (.string ⟨#[]⟩),.sc (.string ⟨#[]⟩)] (M.map eRec))]}) (fun E=>x.length- (E.num 5).toNat) _ (Gh.kb _ [0,1,5,5000] [] [900]) ⟨0,k,x,by omega,by simp[ctRw],by simp[mixR_zero],by simp⟩ ?_
 rintro E1 ⟨i,K,M,hi,hK,hM,rfl⟩
 have hfl:M.length=x.length:=by rw[hM];exact mixR_len mkRec ctRec k x i
 have hct:=ctRw_le ctRec x i
 simp only[ctRecS] at hk
 simp[hfl]
 refine ⟨fun h=> ?_,fun h=> ?_⟩
 ·have hg:M[i]? =x[i]? :=by rw[hM];exact mixR_get mkRec ctRec k x i h
  have hst:=mixR_set mkRec ctRec k x i (dRec) h
  have hc1:=ctRw_lt ctRec (dRec) h
  have hs1:ctRw ctRec (x.take (i+1))=ctRw ctRec (x.take i)+ctRec (x[i]?.getD (dRec)):=ctRw_succ ctRec (dRec) h
  have hxi:x[i]? =some (x[i]?.getD (dRec)):=by rw[List.getElem?_eq_getElem h];rfl
  have hy:(x[i]?.getD (dRec))∈x:=getD_mem _ h
  rw[hxi] at hg
  rw[←hK,←hM] at hst
  generalize (x[i]?.getD (dRec))=y at*
  have hg': ∀h',M[i]'h'=y:=fun h'=>by simpa [List.getElem?_eq_getElem h'] using hg
  have hse: ∀n∈wRec y,n≤4611686018427387904:=fun n hn=>hs n (List.mem_cons_of_mem _ (List.mem_flatMap.2 ⟨y,hy,hn⟩))
  simp only[ctRec] at hc1 hs1
  have w0:IntKind.i64.wrap ((K:Int)+1)=(K:Int)+1:=(wrapI (by omega) (by omega)).trans (by omega)
  have w1:IntKind.i64.wrap ((K:Int)+1+1)=(K:Int)+2:=(wrapI (by omega) (by omega)).trans (by omega)
  have w2:IntKind.i64.wrap ((K:Int)+2+1)=(K:Int)+3:=(wrapI (by omega) (by omega)).trans (by omega)
  simp[md,lf,hg',hg,h,hfl,eRec,w0,w1,w2]
  refine .of (markText_ok _ (K+3) (by omega) (by omega)) ?_
  have w3:IntKind.i64.wrap ((K:Int)+3+1)=(K:Int)+4:=(wrapI (by omega) (by omega)).trans (by omega)
  simp[md,lf,hg',hg,h,hfl,eRec,w0,w1,w2,w3]
  refine .mut (markValS_ok y.fStmt.fKey (K+4) ((K:Int)+4) (by omega) (by omega) (fun n hn=>hse n (by simp[wRec,wStmt,wRow,wDdl,hn]))) ?_
  simp[md,lf,hg',hg,h,hfl,eRec,w0,w1,w2,w3]
  refine .mut (markValS_ok y.fStmt.fRow.fVals (K+4+ctValS y.fStmt.fKey) ((K:Int)+4+(ctValS y.fStmt.fKey:Int)) (by omega) (by omega) (fun n hn=>hse n (by simp[wRec,wStmt,wRow,wDdl,hn]))) ?_
  have w4:IntKind.i64.wrap ((K:Int)+4+(ctValS y.fStmt.fKey:Int)+(ctValS y.fStmt.fRow.fVals:Int)+1)=(K:Int)+5+(ctValS y.fStmt.fKey:Int)+(ctValS y.fStmt.fRow.fVals:Int):=(wrapI (by omega) (by omega)).trans (by omega)
  simp[md,lf,hg',hg,h,hfl,eRec,w0,w1,w2,w3,w4]
  refine .of (markText_ok _ (K+5+ctValS y.fStmt.fKey+ctValS y.fStmt.fRow.fVals) (by omega) (by omega)) ?_
  have w5:IntKind.i64.wrap ((K:Int)+5+(ctValS y.fStmt.fKey:Int)+(ctValS y.fStmt.fRow.fVals:Int)+1)=(K:Int)+6+(ctValS y.fStmt.fKey:Int)+(ctValS y.fStmt.fRow.fVals:Int):=(wrapI (by omega) (by omega)).trans (by omega)
  simp[md,lf,hg',hg,h,hfl,eRec,w0,w1,w2,w3,w4,w5]
  refine .mut (markColS_ok y.fStmt.fDdl.fCols (K+6+ctValS y.fStmt.fKey+ctValS y.fStmt.fRow.fVals) ((K:Int)+6+(ctValS y.fStmt.fKey:Int)+(ctValS y.fStmt.fRow.fVals:Int)) (by omega) (by omega) (fun n hn=>hse n (by simp[wRec,wStmt,wRow,wDdl,hn]))) ?_
  simp[md,lf,hg',hg,h,hfl,eRec,w0,w1,w2,w3,w4,w5]
  refine .mut (markStrS_ok y.fStmt.fDdl.fKeys (K+6+ctValS y.fStmt.fKey+ctValS y.fStmt.fRow.fVals+ctColS y.fStmt.fDdl.fCols) ((K:Int)+6+(ctValS y.fStmt.fKey:Int)+(ctValS y.fStmt.fRow.fVals:Int)+(ctColS y.fStmt.fDdl.fCols:Int)) (by omega) (by omega) (fun n hn=>hse n (by simp[wRec,wStmt,wRow,wDdl,hn]))) ?_
  simp[md,lf,hg',hg,h,hfl,eRec,w0,w1,w2,w3,w4,w5]
  refine .of (markText_ok _ (K+6+ctValS y.fStmt.fKey+ctValS y.fStmt.fRow.fVals+ctColS y.fStmt.fDdl.fCols+ctStrS y.fStmt.fDdl.fKeys) (by omega) (by omega)) ?_
  have w6:IntKind.i64.wrap ((K:Int)+6+(ctValS y.fStmt.fKey:Int)+(ctValS y.fStmt.fRow.fVals:Int)+(ctColS y.fStmt.fDdl.fCols:Int)+(ctStrS y.fStmt.fDdl.fKeys:Int)+1)=(K:Int)+7+(ctValS y.fStmt.fKey:Int)+(ctValS y.fStmt.fRow.fVals:Int)+(ctColS y.fStmt.fDdl.fCols:Int)+(ctStrS y.fStmt.fDdl.fKeys:Int):=(wrapI (by omega) (by omega)).trans (by omega)
  simp[md,lf,hg',hg,h,hfl,eRec,w0,w1,w2,w3,w4,w5,w6]
  refine .of (markText_ok _ (K+7+ctValS y.fStmt.fKey+ctValS y.fStmt.fRow.fVals+ctColS y.fStmt.fDdl.fCols+ctStrS y.fStmt.fDdl.fKeys) (by omega) (by omega)) ?_
  have w7:IntKind.i64.wrap ((K:Int)+7+(ctValS y.fStmt.fKey:Int)+(ctValS y.fStmt.fRow.fVals:Int)+(ctColS y.fStmt.fDdl.fCols:Int)+(ctStrS y.fStmt.fDdl.fKeys:Int)+1)=(K:Int)+8+(ctValS y.fStmt.fKey:Int)+(ctValS y.fStmt.fRow.fVals:Int)+(ctColS y.fStmt.fDdl.fCols:Int)+(ctStrS y.fStmt.fDdl.fKeys:Int):=(wrapI (by omega) (by omega)).trans (by omega)
  simp[md,lf,hg',hg,h,hfl,eRec,w0,w1,w2,w3,w4,w5,w6,w7]
  have e1:(k:Int)+(ctRw ctRec (x.take (i+1)):Int)=(K:Int)+8+(ctValS y.fStmt.fKey:Int)+(ctValS y.fStmt.fRow.fVals:Int)+(ctColS y.fStmt.fDdl.fCols:Int)+(ctStrS y.fStmt.fDdl.fKeys:Int):=by omega
  refine .of _ (Gh.kb _ [0,1,5,5000] [] [900]) ⟨i+1,by omega, ?_⟩ ?_
  ·simp[wrapS (show i<9223372036854775807 by omega),e1,←hst,List.map_set,mkRec,mkInt,mkStr,eRec,wrapU8]
  ·simp[wrapS (show i<9223372036854775807 by omega)];omega
 ·have:i=x.length:=by omega
  subst this
  subst hM
  subst hK
  simp[mixR_all,ctRecS,mkRecS]
theorem heldRecS_ok (x:List GRec) (k:Nat) (k':Int) (hkk':k'=(k:Int)) (hk:k+ctRecS x≤4611686018427387904) (hs: ∀n∈wRecS x,n≤4611686018427387904):VC Tryz.prog 33 [vRecS (mkRecS k x),int .i64 k'] [(false,[(.s,.sc (.int .i64 ((k:Int)+(ctRecS x:Int))))])]:=by
 subst hkk'
 have hl:x.length≤4611686018427387904:=hs _ (by simp[wRecS])
 refine vc_of_ew good hm [0,1,4,5,9,18,27,37,48,60,71,80,92,105,116,126,138] Tryz.func33 rfl (by kernel_rfl) (by kernel_rfl) rfl ?_
 simp[Tryz.f33,vRecS]
 refine ew_loop (fun E=> ∃ (i K:Nat),i≤x.length∧K=k+ctRw ctRec (x.take i)∧E= {nt:=142,sl:= [(0,vRecS (mkRecS k x)),(1,int .i64 (K:Int)),(5,int .i64 i)],bx:= [],rt:= []}) (fun E=>x.length- (E.num 5).toNat) _ (Gh.kb _ [0,1,5] [] []) ⟨0,k,by omega,by simp[ctRw],by simp[vRecS]⟩ ?_
 rintro E1 ⟨i,K,hi,hK,rfl⟩
 have hfl:(mkRecS k x).length=x.length:=mkRw_len mkRec ctRec k x
 have hct:=ctRw_le ctRec x i
 simp only[ctRecS] at hk
 simp[vRecS,hfl]
 refine ⟨fun h=> ?_,fun h=> ?_⟩
 ·have hg:(mkRecS k x)[i]? =some (mkRec (k+ctRw ctRec (x.take i)) (x[i]?.getD (dRec))):=mkRw_get mkRec ctRec (dRec) k x i h
  have hc1:=ctRw_lt ctRec (dRec) h
  have hs1:ctRw ctRec (x.take (i+1))=ctRw ctRec (x.take i)+ctRec (x[i]?.getD (dRec)):=ctRw_succ ctRec (dRec) h
  have hy:(x[i]?.getD (dRec))∈x:=getD_mem _ h
  rw[←hK] at hg
  generalize (x[i]?.getD (dRec))=y at*
  have hg2: ∀hh:i< (mkRecS k x).length,(mkRecS k x)[i]=mkRec K y:=fun hh=>(List.getElem_eq_iff hh).2 hg
  have hse: ∀n∈wRec y,n≤4611686018427387904:=fun n hn=>hs n (List.mem_cons_of_mem _ (List.mem_flatMap.2 ⟨y,hy,hn⟩))
  simp only[ctRec] at hc1 hs1
  have w0:IntKind.i64.wrap ((K:Int)+1)=(K:Int)+1:=(wrapI (by omega) (by omega)).trans (by omega)
  have w1:IntKind.i64.wrap ((K:Int)+1+1)=(K:Int)+2:=(wrapI (by omega) (by omega)).trans (by omega)
  have w2:IntKind.i64.wrap ((K:Int)+2+1)=(K:Int)+3:=(wrapI (by omega) (by omega)).trans (by omega)
  simp[md,lf,hg,hg2,h,hfl,eRec,mkRec,mkInt,mkStr,wrapU8,w0,w1,w2]
  refine .of (markText_ok _ (K+3) (by omega) (by omega)) ?_
  have w3:IntKind.i64.wrap ((K:Int)+3+1)=(K:Int)+4:=(wrapI (by omega) (by omega)).trans (by omega)
  simp[md,lf,hg,hg2,h,hfl,eRec,mkRec,mkInt,mkStr,wrapU8,w0,w1,w2,w3]
  refine .of (heldValS_ok y.fStmt.fKey (K+4) _ (by omega) (by omega) (fun n hn=>hse n (by simp[wRec,wStmt,wRow,wDdl,hn]))) ?_
  have v4: ¬((K:Int)+4+(ctValS y.fStmt.fKey:Int)<0):=by omega
  have v5:0≤(K:Int)+4+(ctValS y.fStmt.fKey:Int):=by omega
  simp[md,lf,hg,hg2,h,hfl,eRec,mkRec,mkInt,mkStr,wrapU8,w0,w1,w2,w3,v4,v5]
  refine .of (heldValS_ok y.fStmt.fRow.fVals (K+4+ctValS y.fStmt.fKey) _ (by omega) (by omega) (fun n hn=>hse n (by simp[wRec,wStmt,wRow,wDdl,hn]))) ?_
  have v6: ¬((K:Int)+4+(ctValS y.fStmt.fKey:Int)+(ctValS y.fStmt.fRow.fVals:Int)<0):=by omega
  have v7:0≤(K:Int)+4+(ctValS y.fStmt.fKey:Int)+(ctValS y.fStmt.fRow.fVals:Int):=by omega
  have w8:IntKind.i64.wrap ((K:Int)+4+(ctValS y.fStmt.fKey:Int)+(ctValS y.fStmt.fRow.fVals:Int)+1)=(K:Int)+5+(ctValS y.fStmt.fKey:Int)+(ctValS y.fStmt.fRow.fVals:Int):=(wrapI (by omega) (by omega)).trans (by omega)
  simp[md,lf,hg,hg2,h,hfl,eRec,mkRec,mkInt,mkStr,wrapU8,w0,w1,w2,w3,v4,v5,v6,v7,w8]
  refine .of (markText_ok _ (K+5+ctValS y.fStmt.fKey+ctValS y.fStmt.fRow.fVals) (by omega) (by omega)) ?_
  have w9:IntKind.i64.wrap ((K:Int)+5+(ctValS y.fStmt.fKey:Int)+(ctValS y.fStmt.fRow.fVals:Int)+1)=(K:Int)+6+(ctValS y.fStmt.fKey:Int)+(ctValS y.fStmt.fRow.fVals:Int):=(wrapI (by omega) (by omega)).trans (by omega)
  simp[md,lf,hg,hg2,h,hfl,eRec,mkRec,mkInt,mkStr,wrapU8,w0,w1,w2,w3,v4,v5,v6,v7,w8,w9]
  refine .of (heldColS_ok y.fStmt.fDdl.fCols (K+6+ctValS y.fStmt.fKey+ctValS y.fStmt.fRow.fVals) _ (by omega) (by omega) (fun n hn=>hse n (by simp[wRec,wStmt,wRow,wDdl,hn]))) ?_
  have v10: ¬((K:Int)+6+(ctValS y.fStmt.fKey:Int)+(ctValS y.fStmt.fRow.fVals:Int)+(ctColS y.fStmt.fDdl.fCols:Int)<0):=by omega
  have v11:0≤(K:Int)+6+(ctValS y.fStmt.fKey:Int)+(ctValS y.fStmt.fRow.fVals:Int)+(ctColS y.fStmt.fDdl.fCols:Int):=by omega
  simp[md,lf,hg,hg2,h,hfl,eRec,mkRec,mkInt,mkStr,wrapU8,w0,w1,w2,w3,v4,v5,v6,v7,w8,w9,v10,v11]
  refine .of (heldStrS_ok y.fStmt.fDdl.fKeys (K+6+ctValS y.fStmt.fKey+ctValS y.fStmt.fRow.fVals+ctColS y.fStmt.fDdl.fCols) _ (by omega) (by omega) (fun n hn=>hse n (by simp[wRec,wStmt,wRow,wDdl,hn]))) ?_
  have v12: ¬((K:Int)+6+(ctValS y.fStmt.fKey:Int)+(ctValS y.fStmt.fRow.fVals:Int)+(ctColS y.fStmt.fDdl.fCols:Int)+(ctStrS y.fStmt.fDdl.fKeys:Int)<0):=by omega
  have v13:0≤(K:Int)+6+(ctValS y.fStmt.fKey:Int)+(ctValS y.fStmt.fRow.fVals:Int)+(ctColS y.fStmt.fDdl.fCols:Int)+(ctStrS y.fStmt.fDdl.fKeys:Int):=by omega
  simp[md,lf,hg,hg2,h,hfl,eRec,mkRec,mkInt,mkStr,wrapU8,w0,w1,w2,w3,v4,v5,v6,v7,w8,w9,v10,v11,v12,v13]
  refine .of (markText_ok _ (K+6+ctValS y.fStmt.fKey+ctValS y.fStmt.fRow.fVals+ctColS y.fStmt.fDdl.fCols+ctStrS y.fStmt.fDdl.fKeys) (by omega) (by omega)) ?_
  have w14:IntKind.i64.wrap ((K:Int)+6+(ctValS y.fStmt.fKey:Int)+(ctValS y.fStmt.fRow.fVals:Int)+(ctColS y.fStmt.fDdl.fCols:Int)+(ctStrS y.fStmt.fDdl.fKeys:Int)+1)=(K:Int)+7+(ctValS y.fStmt.fKey:Int)+(ctValS y.fStmt.fRow.fVals:Int)+(ctColS y.fStmt.fDdl.fCols:Int)+(ctStrS y.fStmt.fDdl.fKeys:Int):=(wrapI (by omega) (by omega)).trans (by omega)
  simp[md,lf,hg,hg2,h,hfl,eRec,mkRec,mkInt,mkStr,wrapU8,w0,w1,w2,w3,v4,v5,v6,v7,w8,w9,v10,v11,v12,v13,w14]
  refine .of (markText_ok _ (K+7+ctValS y.fStmt.fKey+ctValS y.fStmt.fRow.fVals+ctColS y.fStmt.fDdl.fCols+ctStrS y.fStmt.fDdl.fKeys) (by omega) (by omega)) ?_
  have w15:IntKind.i64.wrap ((K:Int)+7+(ctValS y.fStmt.fKey:Int)+(ctValS y.fStmt.fRow.fVals:Int)+(ctColS y.fStmt.fDdl.fCols:Int)+(ctStrS y.fStmt.fDdl.fKeys:Int)+1)=(K:Int)+8+(ctValS y.fStmt.fKey:Int)+(ctValS y.fStmt.fRow.fVals:Int)+(ctColS y.fStmt.fDdl.fCols:Int)+(ctStrS y.fStmt.fDdl.fKeys:Int):=(wrapI (by omega) (by omega)).trans (by omega)
  simp[md,lf,hg,hg2,h,hfl,eRec,mkRec,mkInt,mkStr,wrapU8,w0,w1,w2,w3,v4,v5,v6,v7,w8,w9,v10,v11,v12,v13,w14,w15]
  have e1:(k:Int)+(ctRw ctRec (x.take (i+1)):Int)=(K:Int)+8+(ctValS y.fStmt.fKey:Int)+(ctValS y.fStmt.fRow.fVals:Int)+(ctColS y.fStmt.fDdl.fCols:Int)+(ctStrS y.fStmt.fDdl.fKeys:Int):=by omega
  refine .of _ (Gh.kb _ [0,1,5] [] []) ⟨i+1,by omega, ?_⟩ ?_
  ·simp[wrapS (show i<9223372036854775807 by omega),e1,vRecS]
  ·simp[wrapS (show i<9223372036854775807 by omega)];omega
 ·have:i=x.length:=by omega
  subst this
  subst hK
  simp[ctRecS]
structure GTail where
 fBase:Int
 fDb:GDb
 fRecs:List GRec
def mvTail (k:Nat) (x:GTail):GTail:= {x with fDb:=mvDb (k) x.fDb,fRecs:=mkRecS (k+cvDb x.fDb) x.fRecs}
def eSlotS (l:List GSlot):List Lf:= [.ls [.sc (.string ⟨#[]⟩),.sc (.int .i64 0)] (l.map eSlot)]
def vSlotS (l:List GSlot):SV:=list [.sc (.string ⟨#[]⟩),.sc (.int .i64 0)] (l.map eSlot)
@[simp] theorem row_SlotS (l:List (List GSlot)) (i:Nat):(Option.map eSlotS l[i]?).getD [.ls [.sc (.string ⟨#[]⟩),.sc (.int .i64 0)] []]=eSlotS (l[i]?.getD []):=by cases l[i]? <;>rfl
def wSlotS (l:List GSlot):List Nat:=l.length::l.flatMap wSlot
def okSlotS (l:List GSlot):Prop:=okM l.length∧ ∀a∈l,okSlot a
theorem okw_SlotS (l:List GSlot) (h:okSlotS l): ∀n∈wSlotS l,okM n:=by
 intro n hn
 rcases List.mem_cons.1 hn with rfl|hn
 ·exact h.1
 ·obtain ⟨a,ha,hn⟩:=List.mem_flatMap.1 hn
  exact okw_Slot a (h.2 a ha) n hn
theorem fit_SlotS (ls:List Lf) (h:Fit ti ck 34 ls): ∃x:List GSlot,ls=eSlotS x∧okSlotS x:=by
 obtain ⟨x,r,rfl,h1,h2⟩:=All2.cons_inv h
 obtain rfl:=All2.nil_inv h2
 obtain ⟨l,rfl,hl,hs⟩:=h1.list eSlot okSlot fit_Slot
 exact ⟨l,rfl,hl,hs⟩
def mSlotS (x:List GSlot):ML:= [(.o 119 (fun _=> [.s,.s]),.ls [.sc (.string ⟨#[]⟩),.sc (.int .i64 0)] (x.map eSlot))]
@[simp] theorem ow_SlotS (l:List GSlot):Ow (.o 119 (fun _=> [.s,.s])) (.ls [.sc (.string ⟨#[]⟩),.sc (.int .i64 0)] (l.map eSlot))=True:=eq_true (Ow_rows (fun x j hj=>match j,hj with|0,_=> .sc|1,_=> .sc|n+2,hj=>absurd hj (by simp)) l)
@[simp] theorem full_SlotS (l:List GSlot):Full (.o 119 (fun _=> [.s,.s])) (.ls [.sc (.string ⟨#[]⟩),.sc (.int .i64 0)] (l.map eSlot))=True:=eq_true (Full_rows (fun x j hj=>match j,hj with|0,_=> .s|1,_=> .s|n+2,hj=>absurd hj (by simp)) l)
theorem szSlotS_ok (x:List GSlot) (left:Int) (h0:0≤left) (h1:left≤1048576) (hs: ∀n∈wSlotS x,okM n):VC Tryz.prog 26 [vSlotS x,int .i64 left] [(false,[(.s,.sc (.int .i64 (szL (wSlotS x) left)))])]:=by
 refine vc_of_ew good hm [0,1,4,11,5,15,25] Tryz.func26 rfl (by kernel_rfl) (by kernel_rfl) rfl ?_
 have hl:x.length≤9223372036854775807:=hs _ (by simp[wSlotS])
 simp[Tryz.f26,vSlotS]
 rw[wrapI (i:=left-x.length) (by omega) (by omega)]
 refine ⟨fun h=>by simp[wSlotS,szL,h],fun hk=> ?_⟩
 refine ew_loop (fun E=> ∃i:Nat,i≤x.length∧0≤szL ((x.take i).flatMap wSlot) (left-x.length)∧E= {nt:=27,sl:= [(0,vSlotS x),(1,int .i64 (szL ((x.take i).flatMap wSlot) (left-x.length))),(5,int .i64 i)],bx:= [],rt:= []}) (fun E=>x.length- (E.num 5).toNat) _ (Gh.keep _ [0,1,5]) ⟨0,by omega,by simp[szL];omega,by simp[szL,vSlotS]⟩ ?_
 rintro E1 ⟨i,hi,hr0,rfl⟩
 have hr1:=szL_le' (l:=(x.take i).flatMap wSlot) (left:=left-x.length) (by omega)
 simp[vSlotS,eSlot]
 refine ⟨fun h=> ?_,fun h=> ?_⟩
 ·obtain ⟨q1,q2⟩:=szF_step wSlot (dSlot) h (by omega:0≤left-x.length) hr0
  have hm: ∀n∈wSlot (x[i]?.getD (dSlot)),okM n:=fun n hn=>hs n (List.mem_cons_of_mem _ (mem_flat h hn))
  have hn1:=szL_neg (wSlot (x[i]?.getD (dSlot))) _ hr0
  refine ⟨h,.of (szSlot_ok _ _ hr0 (by omega) hm) ?_⟩
  simp
  refine ⟨fun h2=> ?_,fun h2=> .of _ (Gh.keep _ [0,1,5]) ⟨i+1,by omega, ?_, ?_⟩ ?_⟩
  ·rw[wSlotS,szL,if_neg (by omega),q1 h2]
  ·rw[q2];exact h2
  ·rw[q2];simp[wrapS (show i<9223372036854775807 by omega)]
  ·simp[wrapS (show i<9223372036854775807 by omega)];omega
 ·rw[wSlotS,szL,if_neg (by omega),List.take_of_length_le (by simpa using h)]
theorem toSlotS_ok (x:List GSlot) (hs: ∀n∈wSlotS x,n≤1048576):VC Tryz.prog 28 [vSlotS x] [(false,mSlotS x)]:=by
 refine vc_of_ew good hm [0,2,3,4,11] Tryz.func28 rfl (by kernel_rfl) (by kernel_rfl) rfl ?_
 have hl:x.length≤1048576:=hs _ (by simp[wSlotS])
 simp[Tryz.f28,vSlotS,mSlotS]
 refine ⟨by omega, ?_⟩
 refine ew_loop (fun E=> ∃i:Nat,i≤x.length∧E= {nt:=23,sl:= [(0,vSlotS x),(3,.v false [.r [7]]),(4,int .i64 i)],bx:= [],rt:= [(7,.o 119 (fun _=> [.s,.s]),.ls [.sc (.string ⟨#[]⟩),.sc (.int .i64 0)] (fillR [.sc (.string ⟨#[]⟩),.sc (.int .i64 0)] (x.map eSlot) i))]}) (fun E=>x.length- (E.num 4).toNat) _ (Gh.keep _ [0,3,4]) ⟨0,by omega,by simp[vSlotS,fillR]⟩ ?_
 rintro E1 ⟨i,hi,rfl⟩
 have hfl:(fillR [.sc (.string ⟨#[]⟩),.sc (.int .i64 0)] (x.map eSlot) i).length=x.length:=by rw[fillR_len _ _ (by simpa using hi)];simp
 simp[vSlotS,eSlot] at hfl⊢
 try simp[hfl]
 refine ⟨fun h=>⟨h,.of (toSlot_ok (x[i]?.getD dSlot) (fun n hn=>hs n (List.mem_cons_of_mem _ (mem_flat (wt:=wSlot) h hn)))) ?_⟩,fun h=>fillR_all _ _ (by simpa using h)⟩
 simp[mSlot]
 try simp[hfl,h]
 refine .of _ (Gh.keep _ [0,3,4]) ⟨i+1,by omega, ?_⟩ ?_
 ·have:=fillR_set [.sc (.string ⟨#[]⟩),.sc (.int .i64 0)] (x.map eSlot) (i:=i) (by simpa using h)
  simp[wrapS (show i<9223372036854775807 by omega),vSlotS,eSlot,h] at this⊢
  rw[←this]
 ·simp[wrapS (show i<9223372036854775807 by omega)];omega
theorem eqSlotS_ok (x:List GSlot) (hs: ∀n∈wSlotS x,n≤1048576):VC Tryz.prog 30 [vSlotS x,vSlotS x] [(false,[(.s,.sc (.bool true))])]:=by
 refine vc_of_ew good hm [0,1,4,10,5,14,26] Tryz.func30 rfl (by kernel_rfl) (by kernel_rfl) rfl ?_
 have hl:x.length≤1048576:=hs _ (by simp[wSlotS])
 simp[Tryz.f30,vSlotS]
 refine ew_loop (fun E=> ∃i:Nat,i≤x.length∧E= {nt:=27,sl:= [(0,vSlotS x),(1,vSlotS x),(5,int .i64 i)],bx:= [],rt:= []}) (fun E=>x.length- (E.num 5).toNat) _ (Gh.keep _ [0,1,5]) ⟨0,by omega,by simp[vSlotS]⟩ ?_
 rintro E1 ⟨i,hi,rfl⟩
 simp[vSlotS,eSlot]
 intro h
 refine ⟨h,.of (eqSlot_ok (x[i]?.getD dSlot) (fun n hn=>hs n (List.mem_cons_of_mem _ (mem_flat (wt:=wSlot) h hn)))) ?_⟩
 simp
 refine .of _ (Gh.keep _ [0,1,5]) ⟨i+1,by omega, ?_⟩ ?_
 ·simp[wrapS (show i<9223372036854775807 by omega),vSlotS]
 ·simp[wrapS (show i<9223372036854775807 by omega)];omega
@[simp] theorem ow_IntS (l:List Int):Ow (.o 3 (fun _=> [.s])) (.ls [.sc (.int .i64 0)] (l.map eInt))=True:=eq_true (Ow_rows (fun x j hj=>match j,hj with|0,_=> .sc|n+1,hj=>absurd hj (by simp)) l)
@[simp] theorem full_IntS (l:List Int):Full (.o 3 (fun _=> [.s])) (.ls [.sc (.int .i64 0)] (l.map eInt))=True:=eq_true (Full_rows (fun x j hj=>match j,hj with|0,_=> .s|n+1,hj=>absurd hj (by simp)) l)
def vStmtS (l:List GStmt):SV:=list [.sc (.int .i64 0),.sc (.string ⟨#[]⟩),.ls [.sc (.int .i64 0),.sc (.int .i64 0),.sc (.string ⟨#[]⟩)] [],.ls [.sc (.int .i64 0),.sc (.int .i64 0),.sc (.string ⟨#[]⟩)] [],.sc (.int .i64 0),.sc (.string ⟨#[]⟩),.ls [.sc (.string ⟨#[]⟩),.sc (.int .i64 0),.sc (.bool false),.sc (.bool false),.sc (.int .i64 0),.sc (.int .i64 0),.sc (.string ⟨#[]⟩)] [],.ls [.sc (.string ⟨#[]⟩)] [],.sc (.string ⟨#[]⟩),.sc (.string ⟨#[]⟩)] (l.map eStmt)
def mStmtS (x:List GStmt):ML:= [(.o 63 (fun _=> [.s,.s,.o 152 (fun _=> [.s,.s,.s]),.o 152 (fun _=> [.s,.s,.s]),.s,.s,.o 154 (fun _=> [.s,.s,.s,.s,.s,.s,.s]),.o 9 (fun _=> [.s]),.s,.s]),.ls [.sc (.int .i64 0),.sc (.string ⟨#[]⟩),.ls [.sc (.int .i64 0),.sc (.int .i64 0),.sc (.string ⟨#[]⟩)] [],.ls [.sc (.int .i64 0),.sc (.int .i64 0),.sc (.string ⟨#[]⟩)] [],.sc (.int .i64 0),.sc (.string ⟨#[]⟩),.ls [.sc (.string ⟨#[]⟩),.sc (.int .i64 0),.sc (.bool false),.sc (.bool false),.sc (.int .i64 0),.sc (.int .i64 0),.sc (.string ⟨#[]⟩)] [],.ls [.sc (.string ⟨#[]⟩)] [],.sc (.string ⟨#[]⟩),.sc (.string ⟨#[]⟩)] (x.map eStmt))]
@[simp] theorem ow_StmtS (l:List GStmt):Ow (.o 63 (fun _=> [.s,.s,.o 152 (fun _=> [.s,.s,.s]),.o 152 (fun _=> [.s,.s,.s]),.s,.s,.o 154 (fun _=> [.s,.s,.s,.s,.s,.s,.s]),.o 9 (fun _=> [.s]),.s,.s])) (.ls [.sc (.int .i64 0),.sc (.string ⟨#[]⟩),.ls [.sc (.int .i64 0),.sc (.int .i64 0),.sc (.string ⟨#[]⟩)] [],.ls [.sc (.int .i64 0),.sc (.int .i64 0),.sc (.string ⟨#[]⟩)] [],.sc (.int .i64 0),.sc (.string ⟨#[]⟩),.ls [.sc (.string ⟨#[]⟩),.sc (.int .i64 0),.sc (.bool false),.sc (.bool false),.sc (.int .i64 0),.sc (.int .i64 0),.sc (.string ⟨#[]⟩)] [],.ls [.sc (.string ⟨#[]⟩)] [],.sc (.string ⟨#[]⟩),.sc (.string ⟨#[]⟩)] (l.map eStmt))=True:=eq_true (Ow_rows (fun x j hj=>match j,hj with|0,_=> .sc|1,_=> .sc|2,_=>of_eq_true (ow_ValS x.fKey)|3,_=>of_eq_true (ow_ValS x.fRow.fVals)|4,_=> .sc|5,_=> .sc|6,_=>of_eq_true (ow_ColS x.fDdl.fCols)|7,_=>of_eq_true (ow_StrS x.fDdl.fKeys)|8,_=> .sc|9,_=> .sc|n+10,hj=>absurd hj (by simp)) l)
@[simp] theorem full_StmtS (l:List GStmt):Full (.o 63 (fun _=> [.s,.s,.o 152 (fun _=> [.s,.s,.s]),.o 152 (fun _=> [.s,.s,.s]),.s,.s,.o 154 (fun _=> [.s,.s,.s,.s,.s,.s,.s]),.o 9 (fun _=> [.s]),.s,.s])) (.ls [.sc (.int .i64 0),.sc (.string ⟨#[]⟩),.ls [.sc (.int .i64 0),.sc (.int .i64 0),.sc (.string ⟨#[]⟩)] [],.ls [.sc (.int .i64 0),.sc (.int .i64 0),.sc (.string ⟨#[]⟩)] [],.sc (.int .i64 0),.sc (.string ⟨#[]⟩),.ls [.sc (.string ⟨#[]⟩),.sc (.int .i64 0),.sc (.bool false),.sc (.bool false),.sc (.int .i64 0),.sc (.int .i64 0),.sc (.string ⟨#[]⟩)] [],.ls [.sc (.string ⟨#[]⟩)] [],.sc (.string ⟨#[]⟩),.sc (.string ⟨#[]⟩)] (l.map eStmt))=True:=eq_true (Full_rows (fun x j hj=>match j,hj with|0,_=> .s|1,_=> .s|2,_=>of_eq_true (full_ValS x.fKey)|3,_=>of_eq_true (full_ValS x.fRow.fVals)|4,_=> .s|5,_=> .s|6,_=>of_eq_true (full_ColS x.fDdl.fCols)|7,_=>of_eq_true (full_StrS x.fDdl.fKeys)|8,_=> .s|9,_=> .s|n+10,hj=>absurd hj (by simp)) l)
end Go.Proofs.YtanlbohhmoifcaaGreat
namespace Go.Proofs.YtanlbohhmoifcaaGreat
open Go Go.Proofs Go.Sm
attribute [local simp] ti eStr eInt eByte eVal vVal eCol vCol vColS vStrS eTable cTable vTable vTableS cCat vCat eValS vValS eRow cRow vRow vRowS eRows vRowsS cDb vDb eDdl cDdl vDdl eStmt cStmt vStmt eRec vRec eSlot vSlot eRecS vRecS eSlotS vSlotS vStmtS
set_option linter.unusedVariables false
set_option linter.unusedSimpArgs false
def within (x lo hi:Int):Bool:=decide (x≥lo)&&decide (x≤hi)
theorem within_ok (x lo hi:Int):VC Tryz.prog 102 [int .i64 x,int .i64 lo,int .i64 hi] [(false,[(.s,.sc (.bool (within x lo hi)))])]:=by
 refine vc_of_ew good hm [0,1,2,6] Tryz.func102 rfl (by kernel_rfl) (by kernel_rfl) rfl ?_
 simp[Tryz.f102,within]
def byteAt (s:ByteArray) (i:Nat):Int:=((s.data[i]?.getD 0).toNat:Int)
def letter (c:Int):Bool:=decide (97≤c)&&decide (c≤122)
theorem letter_iff (c:Int):letter c=true↔97≤c∧c≤122:=by simp[letter]
def lettersTo (s:ByteArray) (n:Nat):Bool:=(List.range n).all (fun i=>letter (byteAt s i))
def wordOk (s:ByteArray):Bool:=lettersTo s s.size&&within s.size 1 8
theorem lettersTo_succ (s:ByteArray) (n:Nat):lettersTo s (n+1)=(lettersTo s n&&letter (byteAt s n)):=by
 simp[lettersTo,List.range_succ,List.all_append]
theorem lettersTo_le {s:ByteArray} {n m:Nat} (h:lettersTo s m=true) (hnm:n≤m):lettersTo s n=true:=by
 simp only[lettersTo,List.all_eq_true,List.mem_range] at h⊢
 exact fun x hx=>h x (by omega)
theorem wordOk_no {s:ByteArray} {i:Nat} (hi:i<s.size) (h:letter (byteAt s i)=false):wordOk s=false:=by
 unfold wordOk
 cases hl:lettersTo s s.size with
 |false=>rfl
 |true=>
  have:=lettersTo_le hl (show i+1≤s.size by omega)
  rw[lettersTo_succ,h] at this
  simp at this
theorem wordOkI_ok (s:ByteArray) (hs:okM s.size):VC Tryz.prog 123 [str s] [(false,[(.s,.sc (.bool (wordOk s)))])]:=by
 unfold okM at hs
 refine vc_of_ew good hm [0,2,3,7,19] Tryz.func123 rfl (by kernel_rfl) (by kernel_rfl) rfl ?_
 simp[Tryz.f123]
 refine ew_loop (fun E=> ∃i:Nat,i≤s.size∧lettersTo s i=true∧E= {nt:=23,sl:= [(0,str s),(3,int .i64 i)],bx:= [],rt:= []}) (fun E=>s.size- (E.num 3).toNat) _ (Gh.kb _ [0,3] [] []) ⟨0,by omega,by simp[lettersTo],by simp⟩ ?_
 rintro E1 ⟨i,hi,hall,rfl⟩
 simp
 refine ⟨fun h=>⟨h,fun h1=>⟨h1,h⟩,fun h1=>wordOk_no h ?_,fun h1 h2=> .of _ (Gh.kb _ [0,3] [] []) ⟨i+1,by omega, ?_, ?_⟩ ?_⟩,fun h=> .of (within_ok _ _ _) ?_⟩
 ·rw[Bool.eq_false_iff];intro h;rw[letter_iff] at h;unfold byteAt at h;omega
 ·rw[lettersTo_succ,hall,Bool.true_and,letter_iff];unfold byteAt;omega
 ·simp[wrapS (show i<9223372036854775807 by omega)]
 ·simp[wrapS (show i<9223372036854775807 by omega)];omega
 ·have:i=s.size:=by omega
  subst this
  simp[wordOk,hall]
theorem wordOkS_ok (s:ByteArray) (hs:okM s.size):VC Tryz.prog 120 [str s] [(false,[(.s,.sc (.bool (wordOk s)))])]:=by
 unfold okM at hs
 refine vc_of_ew good hm [0,2,3,7,19] Tryz.func120 rfl (by kernel_rfl) (by kernel_rfl) rfl ?_
 simp[Tryz.f120]
 refine ew_loop (fun E=> ∃i:Nat,i≤s.size∧lettersTo s i=true∧E= {nt:=28,sl:= [(0,str s),(3,int .i64 i)],bx:= [],rt:= []}) (fun E=>s.size- (E.num 3).toNat) _ (Gh.kb _ [0,3] [] []) ⟨0,by omega,by simp[lettersTo],by simp⟩ ?_
 rintro E1 ⟨i,hi,hall,rfl⟩
 simp
 refine ⟨fun h=>⟨h,fun h1=>⟨h1,h⟩,fun h1=>wordOk_no h ?_,fun h1 h2=> .of _ (Gh.kb _ [0,3] [] []) ⟨i+1,by omega, ?_, ?_⟩ ?_⟩,fun h=> ?_⟩
 ·rw[Bool.eq_false_iff];intro h;rw[letter_iff] at h;unfold byteAt at h;omega
 ·rw[lettersTo_succ,hall,Bool.true_and,letter_iff];unfold byteAt;omega
 ·simp[wrapS (show i<9223372036854775807 by omega)]
 ·simp[wrapS (show i<9223372036854775807 by omega)];omega
 ·have:i=s.size:=by omega
  subst this
  simp[wordOk,hall,within]
def geq (a b:ByteArray):Bool:= !Op.bytesLess a.toList b.toList
theorem wrapP {i:Nat} (h0:0<i) (h:i≤9223372036854775807):IntKind.i64.wrap ((i:Int)-1)=((i-1:Nat):Int):=by
 rw[wrapI (by omega) (by omega)]
 omega
theorem rangeAll_succ (p:Nat→Bool) (n:Nat):(List.range (n+1)).all p=((List.range n).all p&&p n):=by
 simp[List.range_succ,List.all_append]
theorem rangeAll_no {p:Nat→Bool} {n i:Nat} (hi:i<n) (h:p i=false):(List.range n).all p=false:=by
 rw[Bool.eq_false_iff]
 intro ht
 simp only[List.all_eq_true,List.mem_range] at ht
 rw[ht i hi] at h
 cases h
end Go.Proofs.YtanlbohhmoifcaaGreat
namespace Go.Proofs.YtanlbohhmoifcaaGreat
open Go Go.Proofs Go.Sm
attribute [local simp] ti eStr eInt eByte eVal vVal eCol vCol vColS vStrS eTable cTable vTable vTableS cCat vCat eValS vValS eRow cRow vRow vRowS eRows vRowsS cDb vDb eDdl cDdl vDdl eStmt cStmt vStmt eRec vRec eSlot vSlot eRecS vRecS eSlotS vSlotS vStmtS
set_option linter.unusedVariables false
set_option linter.unusedSimpArgs false
def em (s:ByteArray):Bool:=s.toList.isEmpty
def valOk (v:GVal):Bool:=(decide (v.fTy=0)&& (decide (v.fN=0)&&em v.fS))||(decide (v.fTy=1)&& ((decide (v.fN=0)||decide (v.fN=1))&&em v.fS))||(decide (v.fTy=2)&& (within v.fN (-1099511627775) 1099511627775&&em v.fS))||(decide (v.fTy=3)&& (decide (v.fN=0)&&decide ((v.fS.size:Int)≤30)))
def nullV (v:GVal):Bool:=decide (v.fTy=0)&& (decide (v.fN=0)&&em v.fS)
theorem within01 (n:Int):within n 0 1=(decide (n=0)||decide (n=1)):=by
 unfold within
 rw[Bool.eq_iff_iff]
 simp
 omega
theorem beqI (a b:Int):(a==b)=decide (a=b):=rfl
theorem l01Num_ok (n:Int):VC Tryz.prog 255 [int .i64 n] [(false,[(.s,.sc (.bool (within n (-1099511627775) 1099511627775)))])]:=by
 refine vc_of_ew good hm [0,2] Tryz.func255 rfl (by kernel_rfl) (by kernel_rfl) rfl ?_
 simp[Tryz.f255,within]
theorem valOkS_ok (v:GVal):VC Tryz.prog 223 [vVal v] [(false,[(.s,.sc (.bool (valOk v)))])]:=by
 refine vc_of_ew good hm [0,1,2,4,5,15,30,40] Tryz.func223 rfl (by kernel_rfl) (by kernel_rfl) rfl ?_
 simp[Tryz.f223]
 refine ⟨fun h=>by simp[valOk,h,em],fun h0=>⟨fun h=>by simp[valOk,h,em],fun h1=>⟨fun h=> .of (l01Num_ok _) ?_,fun h2=>⟨fun h=>by simp[valOk,h],fun h3=>by simp[valOk,h0,h1,h2,h3]⟩⟩⟩⟩
 simp[valOk,h,em]
theorem valOkI_ok (v:GVal):VC Tryz.prog 243 [vVal v] [(false,[(.s,.sc (.bool (valOk v)))])]:=by
 refine vc_of_ew good hm [0,1,2,4,5,10,20,30] Tryz.func243 rfl (by kernel_rfl) (by kernel_rfl) rfl ?_
 simp[Tryz.f243]
 refine ⟨fun h=>by simp[valOk,h,em,beqI],fun h0=>⟨fun h=> .of (within_ok _ _ _) ?_,fun h1=>⟨fun h=> .of (within_ok _ _ _) ?_,fun h2=>⟨fun h=>by simp[valOk,h],fun h3=>by simp[valOk,h0,h1,h2,h3]⟩⟩⟩⟩
 ·simp[valOk,h,em,within01]
 ·simp[valOk,h,em]
def valLess (a b:GVal):Bool:=valOk a&&valOk b&& (decide (a.fTy<b.fTy)||(decide (a.fTy=b.fTy)&& (decide (a.fN<b.fN)||(decide (a.fN=b.fN)&&Op.bytesLess a.fS.toList b.fS.toList))))
theorem valLessS_ok (a b:GVal):VC Tryz.prog 233 [vVal a,vVal b] [(false,[(.s,.sc (.bool (valLess a b)))])]:=by
 refine vc_of_ew good hm [0,1,2,3,4,12,17] Tryz.func233 rfl (by kernel_rfl) (by kernel_rfl) rfl ?_
 simp[Tryz.f233]
 refine .of (valOkS_ok a) ?_
 simp
 refine .of (fun h=>⟨h,valOkS_ok b⟩) ?_
 simp
 grind[valLess]
theorem valLessI_ok (a b:GVal):VC Tryz.prog 237 [vVal a,vVal b] [(false,[(.s,.sc (.bool (valLess a b)))])]:=by
 refine vc_of_ew good hm [0,1,2,3,4,5,14,25] Tryz.func237 rfl (by kernel_rfl) (by kernel_rfl) rfl ?_
 simp[Tryz.f237]
 refine .of (valOkI_ok a) ?_
 simp
 refine .of (fun h=>⟨h,valOkI_ok b⟩) ?_
 simp
 grind[valLess]
end Go.Proofs.YtanlbohhmoifcaaGreat
namespace Go.Proofs.YtanlbohhmoifcaaGreat
open Go Go.Proofs Go.Sm
attribute [local simp] ti eStr eInt eByte eVal vVal eCol vCol vColS vStrS eTable cTable vTable vTableS cCat vCat eValS vValS eRow cRow vRow vRowS eRows vRowsS cDb vDb eDdl cDdl vDdl eStmt cStmt vStmt eRec vRec eSlot vSlot eRecS vRecS eSlotS vSlotS vStmtS
set_option linter.unusedVariables false
set_option linter.unusedSimpArgs false
def idxF {α:Type} (p:α→Bool) (l:List α):Int:=if l.any p then (l.findIdx p:Int) else-1
def anyT {α:Type} (p:α→Bool) (l:List α) (i:Nat):Bool:=(l.take i).any p
theorem anyT_zero {α:Type} (p:α→Bool) (l:List α):anyT p l 0=false:=by simp[anyT]
theorem anyT_all {α:Type} (p:α→Bool) (l:List α):anyT p l l.length=l.any p:=by simp[anyT]
theorem anyT_succ {α:Type} (p:α→Bool) (d:α) {l:List α} {i:Nat} (h:i<l.length):anyT p l (i+1)=(anyT p l i||p (l[i]?.getD d)):=by
 unfold anyT
 rw[List.take_succ_eq_append_getElem h,List.any_append,List.getElem?_eq_getElem h]
 simp
theorem idxF_at {α:Type} (p:α→Bool) (d:α) {l:List α} {i:Nat} (h:i<l.length) (h0:anyT p l i=false) (hp:p (l[i]?.getD d)=true):idxF p l=i:=by
 rw[List.getElem?_eq_getElem h,Option.getD_some] at hp
 have ha:l.any p=true:=List.any_eq_true.2 ⟨_,List.getElem_mem h,hp⟩
 rw[idxF,if_pos ha,(List.findIdx_eq h).2 ⟨hp,fun j hj=> ?_⟩]
 rw[anyT,List.any_eq_false] at h0
 have:=h0 l[j] (List.mem_take_iff_getElem.2 ⟨j,by omega,rfl⟩)
 simpa using this
theorem idxF_no {α:Type} (p:α→Bool) {l:List α} (h0:l.any p=false):idxF p l= -1:=by simp[idxF,h0]
theorem idxF_ge {α:Type} (p:α→Bool) (l:List α):decide (0≤idxF p l)=l.any p:=by
 unfold idxF
 split
 ·rename_i h;simp[h]
 ·rename_i h;simp only[Bool.not_eq_true] at h;rw[h];rfl
theorem idxF_bd {α:Type} (p:α→Bool) (l:List α): -1≤idxF p l∧idxF p l<l.length:=by
 unfold idxF
 split
 ·rename_i h
  have:=List.findIdx_lt_length.2 (List.any_eq_true.1 h)
  omega
 ·omega
theorem idxRec1_ok (l:List GRec) (k:Nat) (ds:List Lf) (p:GRec→Bool) (hl:okM l.length) (hk: ∀x∈l,VC Tryz.prog k [vRec x,.p (.ps ds)] [(false,[(.s,.sc (.bool (p x)))])]):
  VC Tryz.prog 225 [vRecS l,.fn k [.ps ds]] [(false,[(.s,.sc (.int .i64 (idxF p l)))])]:=by
 unfold okM at hl
 refine vc_of_ew good hm [0,1,4,7,8,9,5,16] Tryz.func225 rfl (by kernel_rfl) (by kernel_rfl) rfl ?_
 simp[Tryz.f225]
 refine ew_loop (fun E=> ∃i:Nat,i≤l.length∧anyT p l i=false∧E= {nt:=19,sl:= [(0,vRecS l),(1,.fn k [.ps ds]),(7,int .i64 l.length),(8,int .i64 i)],bx:= [],rt:= []}) (fun E=>l.length- (E.num 8).toNat) _ (Gh.kb _ [0,1,7,8] [] []) ⟨0,by omega,anyT_zero _ _,by simp⟩ ?_
 rintro E1 ⟨i,hi,hall,rfl⟩
 simp
 refine ⟨fun h=>⟨h,.of (hk _ (getD_mem dRec h)) ?_⟩,fun h=> ?_⟩
 ·simp
  refine ⟨fun hp=>(idxF_at p dRec h hall hp).symm,fun hp=> .of _ (Gh.kb _ [0,1,7,8] [] []) ⟨i+1,by omega,by rw[anyT_succ p dRec h,hall,hp];rfl, ?_⟩ ?_⟩
  ·simp[wrapS (show i<9223372036854775807 by omega)]
  ·simp[wrapS (show i<9223372036854775807 by omega)];omega
 ·have:i=l.length:=by omega
  subst this
  rw[anyT_all] at hall
  exact (idxF_no p hall).symm
theorem idxTable1_ok (l:List GTable) (k:Nat) (ds:List Lf) (p:GTable→Bool) (hl:okM l.length) (hk: ∀x∈l,VC Tryz.prog k [vTable x,.p (.ps ds)] [(false,[(.s,.sc (.bool (p x)))])]):
  VC Tryz.prog 244 [vTableS l,.fn k [.ps ds]] [(false,[(.s,.sc (.int .i64 (idxF p l)))])]:=by
 unfold okM at hl
 refine vc_of_ew good hm [0,1,4,7,8,9,5,16] Tryz.func244 rfl (by kernel_rfl) (by kernel_rfl) rfl ?_
 simp[Tryz.f244]
 refine ew_loop (fun E=> ∃i:Nat,i≤l.length∧anyT p l i=false∧E= {nt:=19,sl:= [(0,vTableS l),(1,.fn k [.ps ds]),(7,int .i64 l.length),(8,int .i64 i)],bx:= [],rt:= []}) (fun E=>l.length- (E.num 8).toNat) _ (Gh.kb _ [0,1,7,8] [] []) ⟨0,by omega,anyT_zero _ _,by simp⟩ ?_
 rintro E1 ⟨i,hi,hall,rfl⟩
 simp
 refine ⟨fun h=>⟨h,.of (hk _ (getD_mem dTable h)) ?_⟩,fun h=> ?_⟩
 ·simp
  refine ⟨fun hp=>(idxF_at p dTable h hall hp).symm,fun hp=> .of _ (Gh.kb _ [0,1,7,8] [] []) ⟨i+1,by omega,by rw[anyT_succ p dTable h,hall,hp];rfl, ?_⟩ ?_⟩
  ·simp[wrapS (show i<9223372036854775807 by omega)]
  ·simp[wrapS (show i<9223372036854775807 by omega)];omega
 ·have:i=l.length:=by omega
  subst this
  rw[anyT_all] at hall
  exact (idxF_no p hall).symm
theorem idxCol1_ok (l:List GCol) (k:Nat) (ds:List Lf) (p:GCol→Bool) (hl:okM l.length) (hk: ∀x∈l,VC Tryz.prog k [vCol x,.p (.ps ds)] [(false,[(.s,.sc (.bool (p x)))])]):
  VC Tryz.prog 263 [vColS l,.fn k [.ps ds]] [(false,[(.s,.sc (.int .i64 (idxF p l)))])]:=by
 unfold okM at hl
 refine vc_of_ew good hm [0,1,4,7,8,9,5,16] Tryz.func263 rfl (by kernel_rfl) (by kernel_rfl) rfl ?_
 simp[Tryz.f263]
 refine ew_loop (fun E=> ∃i:Nat,i≤l.length∧anyT p l i=false∧E= {nt:=19,sl:= [(0,vColS l),(1,.fn k [.ps ds]),(7,int .i64 l.length),(8,int .i64 i)],bx:= [],rt:= []}) (fun E=>l.length- (E.num 8).toNat) _ (Gh.kb _ [0,1,7,8] [] []) ⟨0,by omega,anyT_zero _ _,by simp⟩ ?_
 rintro E1 ⟨i,hi,hall,rfl⟩
 simp
 refine ⟨fun h=>⟨h,.of (hk _ (getD_mem dCol h)) ?_⟩,fun h=> ?_⟩
 ·simp
  refine ⟨fun hp=>(idxF_at p dCol h hall hp).symm,fun hp=> .of _ (Gh.kb _ [0,1,7,8] [] []) ⟨i+1,by omega,by rw[anyT_succ p dCol h,hall,hp];rfl, ?_⟩ ?_⟩
  ·simp[wrapS (show i<9223372036854775807 by omega)]
  ·simp[wrapS (show i<9223372036854775807 by omega)];omega
 ·have:i=l.length:=by omega
  subst this
  rw[anyT_all] at hall
  exact (idxF_no p hall).symm
theorem idxVal0_ok (l:List GVal) (k:Nat) (p:GVal→Bool) (hl:okM l.length) (hk: ∀x∈l,VC Tryz.prog k [vVal x] [(false,[(.s,.sc (.bool (p x)))])]):
  VC Tryz.prog 265 [vValS l,.fn k []] [(false,[(.s,.sc (.int .i64 (idxF p l)))])]:=by
 unfold okM at hl
 refine vc_of_ew good hm [0,1,4,7,8,9,5,16] Tryz.func265 rfl (by kernel_rfl) (by kernel_rfl) rfl ?_
 simp[Tryz.f265]
 refine ew_loop (fun E=> ∃i:Nat,i≤l.length∧anyT p l i=false∧E= {nt:=19,sl:= [(0,vValS l),(1,.fn k []),(7,int .i64 l.length),(8,int .i64 i)],bx:= [],rt:= []}) (fun E=>l.length- (E.num 8).toNat) _ (Gh.kb _ [0,1,7,8] [] []) ⟨0,by omega,anyT_zero _ _,by simp⟩ ?_
 rintro E1 ⟨i,hi,hall,rfl⟩
 simp
 refine ⟨fun h=>⟨h,.of (hk _ (getD_mem dVal h)) ?_⟩,fun h=> ?_⟩
 ·simp
  refine ⟨fun hp=>(idxF_at p dVal h hall hp).symm,fun hp=> .of _ (Gh.kb _ [0,1,7,8] [] []) ⟨i+1,by omega,by rw[anyT_succ p dVal h,hall,hp];rfl, ?_⟩ ?_⟩
  ·simp[wrapS (show i<9223372036854775807 by omega)]
  ·simp[wrapS (show i<9223372036854775807 by omega)];omega
 ·have:i=l.length:=by omega
  subst this
  rw[anyT_all] at hall
  exact (idxF_no p hall).symm
theorem idxRow2_ok (l:List GRow) (k:Nat) (ds es:List Lf) (p:GRow→Bool) (hl:okM l.length) (hk: ∀x∈l,VC Tryz.prog k [vRow x,.p (.ps ds),.p (.ps es)] [(false,[(.s,.sc (.bool (p x)))])]):
  VC Tryz.prog 275 [vRowS l,.fn k [.ps ds,.ps es]] [(false,[(.s,.sc (.int .i64 (idxF p l)))])]:=by
 unfold okM at hl
 refine vc_of_ew good hm [0,1,4,7,8,9,5,16] Tryz.func275 rfl (by kernel_rfl) (by kernel_rfl) rfl ?_
 simp[Tryz.f275]
 refine ew_loop (fun E=> ∃i:Nat,i≤l.length∧anyT p l i=false∧E= {nt:=19,sl:= [(0,vRowS l),(1,.fn k [.ps ds,.ps es]),(7,int .i64 l.length),(8,int .i64 i)],bx:= [],rt:= []}) (fun E=>l.length- (E.num 8).toNat) _ (Gh.kb _ [0,1,7,8] [] []) ⟨0,by omega,anyT_zero _ _,by simp⟩ ?_
 rintro E1 ⟨i,hi,hall,rfl⟩
 simp
 refine ⟨fun h=>⟨h,.of (hk _ (getD_mem dRow h)) ?_⟩,fun h=> ?_⟩
 ·simp
  refine ⟨fun hp=>(idxF_at p dRow h hall hp).symm,fun hp=> .of _ (Gh.kb _ [0,1,7,8] [] []) ⟨i+1,by omega,by rw[anyT_succ p dRow h,hall,hp];rfl, ?_⟩ ?_⟩
  ·simp[wrapS (show i<9223372036854775807 by omega)]
  ·simp[wrapS (show i<9223372036854775807 by omega)];omega
 ·have:i=l.length:=by omega
  subst this
  rw[anyT_all] at hall
  exact (idxF_no p hall).symm
theorem hasRec1_ok (l:List GRec) (k:Nat) (ds:List Lf) (p:GRec→Bool) (hl:okM l.length) (hk: ∀x∈l,VC Tryz.prog k [vRec x,.p (.ps ds)] [(false,[(.s,.sc (.bool (p x)))])]):
  VC Tryz.prog 197 [vRecS l,.fn k [.ps ds]] [(false,[(.s,.sc (.bool (l.any p)))])]:=by
 refine vc_of_ew good hm [0,1,4] Tryz.func197 rfl (by kernel_rfl) (by kernel_rfl) rfl ?_
 simp[Tryz.f197]
 refine .of (idxRec1_ok l k ds p hl hk) ?_
 simp
 exact idxF_ge p l
theorem hasVal0_ok (l:List GVal) (k:Nat) (p:GVal→Bool) (hl:okM l.length) (hk: ∀x∈l,VC Tryz.prog k [vVal x] [(false,[(.s,.sc (.bool (p x)))])]):
  VC Tryz.prog 241 [vValS l,.fn k []] [(false,[(.s,.sc (.bool (l.any p)))])]:=by
 refine vc_of_ew good hm [0,1,4] Tryz.func241 rfl (by kernel_rfl) (by kernel_rfl) rfl ?_
 simp[Tryz.f241]
 refine .of (idxVal0_ok l k p hl hk) ?_
 simp
 exact idxF_ge p l
theorem indexStr_ok (l:List ByteArray) (s:ByteArray) (hl:okM l.length):
  VC Tryz.prog 271 [vStrS l,str s] [(false,[(.s,.sc (.int .i64 (idxF (fun x=>s.toList==x.toList) l)))])]:=by
 unfold okM at hl
 refine vc_of_ew good hm [0,1,4,7,8,9,5,16] Tryz.func271 rfl (by kernel_rfl) (by kernel_rfl) rfl ?_
 simp[Tryz.f271]
 refine ew_loop (fun E=> ∃i:Nat,i≤l.length∧anyT (fun x=>s.toList==x.toList) l i=false∧E= {nt:=19,sl:= [(0,vStrS l),(1,str s),(7,int .i64 l.length),(8,int .i64 i)],bx:= [],rt:= []}) (fun E=>l.length- (E.num 8).toNat) _ (Gh.kb _ [0,1,7,8] [] []) ⟨0,by omega,anyT_zero _ _,by simp⟩ ?_
 rintro E1 ⟨i,hi,hall,rfl⟩
 simp
 refine ⟨fun h=>⟨h,fun hp=>(idxF_at _ (⟨#[]⟩:ByteArray) h hall (by simpa using hp)).symm,fun hp=> .of _ (Gh.kb _ [0,1,7,8] [] []) ⟨i+1,by omega,by rw[anyT_succ _ (⟨#[]⟩:ByteArray) h,hall];simpa using hp, ?_⟩ ?_⟩,fun h=> ?_⟩
 ·simp[wrapS (show i<9223372036854775807 by omega)]
 ·simp[wrapS (show i<9223372036854775807 by omega)];omega
 ·have:i=l.length:=by omega
  subst this
  rw[anyT_all] at hall
  exact (idxF_no _ hall).symm
theorem containsStr_ok (l:List ByteArray) (s:ByteArray) (hl:okM l.length):
  VC Tryz.prog 280 [vStrS l,str s] [(false,[(.s,.sc (.bool (l.any (fun x=>s.toList==x.toList))))])]:=by
 refine vc_of_ew good hm [0,1,4] Tryz.func280 rfl (by kernel_rfl) (by kernel_rfl) rfl ?_
 simp[Tryz.f280]
 refine .of (indexStr_ok l s hl) ?_
 simp
 rw[idxF_ge]
end Go.Proofs.YtanlbohhmoifcaaGreat
namespace Go.Proofs.YtanlbohhmoifcaaGreat
open Go Go.Proofs Go.Sm
attribute [local simp] ti eStr eInt eByte eVal vVal eCol vCol vColS vStrS eTable cTable vTable vTableS cCat vCat eValS vValS eRow cRow vRow vRowS eRows vRowsS cDb vDb eDdl cDdl vDdl eStmt cStmt vStmt eRec vRec eSlot vSlot eRecS vRecS eSlotS vSlotS vStmtS
set_option linter.unusedVariables false
set_option linter.unusedSimpArgs false
def colOk (c:GCol):Bool:=wordOk c.fName&&within c.fTy 1 3&& (if c.fHas then valOk c.fDef&& (decide (c.fDef.fTy=c.fTy)||(decide (c.fDef.fTy=0)&& !c.fNot)) else nullV c.fDef)
theorem colOkS_ok (c:GCol) (hc:okCol c):VC Tryz.prog 224 [vCol c] [(false,[(.s,.sc (.bool (colOk c)))])]:=by
 refine vc_of_ew good hm [0,1,2,3,21,24] Tryz.func224 rfl (by kernel_rfl) (by kernel_rfl) rfl ?_
 simp[Tryz.f224]
 refine .of (wordOkS_ok _ hc.1) ?_
 simp[beqI]
 refine ⟨fun h=>by grind[colOk,within],fun h1 h2 h3=>⟨fun h4=>by grind[colOk,nullV,em,within],fun h4=> .of (valOkS_ok _) ?_⟩⟩
 simp
 grind[colOk,nullV,em,within,valOk]
theorem colOkI_ok (c:GCol) (hc:okCol c):VC Tryz.prog 234 [vCol c] [(false,[(.s,.sc (.bool (colOk c)))])]:=by
 refine vc_of_ew good hm [0,1,2,18,21] Tryz.func234 rfl (by kernel_rfl) (by kernel_rfl) rfl ?_
 simp[Tryz.f234]
 refine .of (wordOkI_ok _ hc.1) ?_
 simp[beqI]
 refine .of (fun h=>⟨h,within_ok _ _ _⟩) ?_
 simp[beqI]
 refine .of (fun h=>⟨h,valOkI_ok _⟩) ?_
 simp[beqI]
 grind[colOk,nullV,em,within,valOk]
def colAt (t:GTable) (s:ByteArray):Int:=idxF (fun c:GCol=>c.fName.toList==s.toList) t.fCols
theorem colAtS_ok (t:GTable) (s:ByteArray) (hl:okM t.fCols.length):VC Tryz.prog 231 [vTable t,str s] [(false,[(.s,.sc (.int .i64 (colAt t s)))])]:=by
 unfold okM at hl
 refine vc_of_ew good hm [0,1,2,4,8,9,10,11,6,5,18] Tryz.func231 rfl (by kernel_rfl) (by kernel_rfl) rfl ?_
 simp[Tryz.f231]
 refine ew_loop (fun E=> ∃i:Nat,i≤t.fCols.length∧anyT (fun c:GCol=>c.fName.toList==s.toList) t.fCols i=false∧E= {nt:=21,sl:= [(1,str s),(8,vColS t.fCols),(9,int .i64 t.fCols.length),(10,int .i64 i)],bx:= [],rt:= []}) (fun E=>t.fCols.length- (E.num 10).toNat) _ (Gh.kb _ [1,8,9,10] [] []) ⟨0,by omega,anyT_zero _ _,by simp⟩ ?_
 rintro E1 ⟨i,hi,hall,rfl⟩
 simp
 refine ⟨fun h=>⟨h,fun hp=>(idxF_at _ dCol h hall (by simpa using hp)).symm,fun hp=> .of _ (Gh.kb _ [1,8,9,10] [] []) ⟨i+1,by omega,by rw[anyT_succ _ dCol h,hall];simpa using hp, ?_⟩ ?_⟩,fun h=> ?_⟩
 ·simp[wrapS (show i<9223372036854775807 by omega)]
 ·simp[wrapS (show i<9223372036854775807 by omega)];omega
 ·have:i=t.fCols.length:=by omega
  subst this
  rw[anyT_all] at hall
  exact (idxF_no _ hall).symm
theorem colAt1_ok (c:GCol) (s:ByteArray):VC Tryz.prog 264 [vCol c,.p (.ps [.sc (.string s)])] [(false,[(.s,.sc (.bool (c.fName.toList==s.toList)))])]:=by
 refine vc_of_ew good hm [0,1,2,3] Tryz.func264 rfl (by kernel_rfl) (by kernel_rfl) rfl ?_
 simp[Tryz.f264]
theorem colAtI_ok (t:GTable) (s:ByteArray) (hl:okM t.fCols.length):VC Tryz.prog 235 [vTable t,str s] [(false,[(.s,.sc (.int .i64 (colAt t s)))])]:=by
 refine vc_of_ew good hm [0,1,2,3,4] Tryz.func235 rfl (by kernel_rfl) (by kernel_rfl) rfl ?_
 simp[Tryz.f235]
 refine .of (idxCol1_ok t.fCols _ _ (fun c:GCol=>c.fName.toList==s.toList) hl (fun x _=>colAt1_ok x s)) ?_
 simp[colAt]
end Go.Proofs.YtanlbohhmoifcaaGreat
namespace Go.Proofs.YtanlbohhmoifcaaGreat
open Go Go.Proofs Go.Sm
attribute [local simp] ti eStr eInt eByte eVal vVal eCol vCol vColS vStrS eTable cTable vTable vTableS cCat vCat eValS vValS eRow cRow vRow vRowS eRows vRowsS cDb vDb eDdl cDdl vDdl eStmt cStmt vStmt eRec vRec eSlot vSlot eRecS vRecS eSlotS vSlotS vStmtS
set_option linter.unusedVariables false
set_option linter.unusedSimpArgs false
def colsOkAt (t:GTable) (i:Nat):Bool:=colOk (t.fCols[i]?.getD dCol)&&decide (colAt t (t.fCols[i]?.getD dCol).fName=i)
def colsTo (t:GTable) (n:Nat):Bool:=(List.range n).all (colsOkAt t)
def lastK (t:GTable) (i:Nat):Int:=if i=0 then-1 else colAt t (t.fKeys[i-1]?.getD ⟨#[]⟩)
def keyOkAt (t:GTable) (i:Nat):Bool:=decide (lastK t i<colAt t (t.fKeys[i]?.getD ⟨#[]⟩))&& (t.fCols[(colAt t (t.fKeys[i]?.getD ⟨#[]⟩)).toNat]?.getD dCol).fNot
def keysTo (t:GTable) (n:Nat):Bool:=(List.range n).all (keyOkAt t)
def tableOk (t:GTable):Bool:=wordOk t.fName&& (within t.fCols.length 1 8&&decide (0<t.fKeys.length))&& (colsTo t t.fCols.length&&keysTo t t.fKeys.length)
theorem colsTo_no {t:GTable} {i:Nat} (hi:i<t.fCols.length) (h:colsOkAt t i=false):tableOk t=false:=by
 simp[tableOk,colsTo,rangeAll_no hi h]
theorem keysTo_no {t:GTable} {i:Nat} (hi:i<t.fKeys.length) (h:keyOkAt t i=false):tableOk t=false:=by
 simp[tableOk,keysTo,rangeAll_no hi h]
theorem lastK_succ (t:GTable) (i:Nat):lastK t (i+1)=colAt t (t.fKeys[i]?.getD ⟨#[]⟩):=by simp[lastK]
theorem lastK_ge (t:GTable) (i:Nat): -1≤lastK t i:=by
 unfold lastK
 split
 ·omega
 ·exact (idxF_bd _ _).1
theorem tableOkS_ok (t:GTable) (ht:okTable t):VC Tryz.prog 204 [vTable t] [(false,[(.s,.sc (.bool (tableOk t)))])]:=by
 obtain ⟨hn,hc,hk,_⟩:=ht
 have hcl:t.fCols.length≤9223372036854775807:=hc.1
 have hkl:t.fKeys.length≤9223372036854775807:=hk.1
 refine vc_of_ew good hm [0,1,2,30,32,33,34,35,4,3,49,5,52,53,54,55,7,8,72] Tryz.func204 rfl (by kernel_rfl) (by kernel_rfl) rfl ?_
 simp[Tryz.f204]
 refine .of (wordOkS_ok _ hn) ?_
 simp
 refine ⟨fun h=>by grind[tableOk,within],fun a1 a2 a3 a4=> ?_⟩
 refine ew_loop (fun E=> ∃i:Nat,i≤t.fCols.length∧colsTo t i=true∧E= {nt:=75,sl:= [(1,.p (.bx 1 0)),(32,vColS t.fCols),(33,int .i64 t.fCols.length),(34,int .i64 i)],bx:= [(1,cTable t)],rt:= []}) (fun E=>t.fCols.length- (E.num 34).toNat) _ (Gh.kb _ [1,32,33,34] [1] []) ⟨0,by omega,by simp[colsTo],by simp⟩ ?_
 rintro E1 ⟨i,hi,hall,rfl⟩
 simp
 refine ⟨fun h=>⟨h,.of (colOkS_ok _ (hc.2 _ (getD_mem dCol h))) ?_⟩,fun h=> ?_⟩
 ·simp
  refine .of (fun h=>⟨h,colAtS_ok _ _ hc.1⟩) ?_
  simp
  have hat:colsOkAt t i=(colOk (t.fCols[i]?.getD dCol)&&decide (colAt t (t.fCols[i]?.getD dCol).fName=i)):=rfl
  refine ⟨fun hb=>colsTo_no h (by grind),fun h1 h2=> .of _ (Gh.kb _ [1,32,33,34] [1] []) ⟨i+1,by omega, ?_, ?_⟩ ?_⟩
  ·rw[colsTo,rangeAll_succ];unfold colsTo at hall;grind
  ·simp[wrapS (show i<9223372036854775807 by omega)]
  ·simp[wrapS (show i<9223372036854775807 by omega)];omega
 ·have hil:i=t.fCols.length:=by omega
  subst hil
  refine ew_loop (fun E=> ∃i:Nat,i≤t.fKeys.length∧keysTo t i=true∧E= {nt:=75,sl:= [(1,.p (.bx 1 0)),(5,int .i64 (lastK t i)),(52,vStrS t.fKeys),(53,int .i64 t.fKeys.length),(54,int .i64 i)],bx:= [(1,cTable t)],rt:= []}) (fun E=>t.fKeys.length- (E.num 54).toNat) _ (Gh.kb _ [1,5,52,53,54] [1] []) ⟨0,by omega,by simp[keysTo],by simp[lastK]⟩ ?_
  rintro E1 ⟨j,hj,hkall,rfl⟩
  simp
  refine ⟨fun h=>⟨h,.of (colAtS_ok _ _ hc.1) ?_⟩,fun h=> ?_⟩
  ·simp
   have hb:=idxF_bd (fun c:GCol=>c.fName.toList==(t.fKeys[j]?.getD ⟨#[]⟩).toList) t.fCols
   have hlg:=lastK_ge t j
   rw[show idxF (fun c:GCol=>c.fName.toList==(t.fKeys[j]?.getD ⟨#[]⟩).toList) t.fCols=colAt t (t.fKeys[j]?.getD ⟨#[]⟩) from rfl] at hb
   have hat:keyOkAt t j=(decide (lastK t j<colAt t (t.fKeys[j]?.getD ⟨#[]⟩))&& (t.fCols[(colAt t (t.fKeys[j]?.getD ⟨#[]⟩)).toNat]?.getD dCol).fNot):=rfl
   refine ⟨fun h1=>⟨h1,by omega,by omega⟩,fun hb=>keysTo_no h (by grind),fun h1 h2=> .of _ (Gh.kb _ [1,5,52,53,54] [1] []) ⟨j+1,by omega, ?_, ?_⟩ ?_⟩
   ·rw[keysTo,rangeAll_succ];unfold keysTo at hkall;grind
   ·simp[wrapS (show j<9223372036854775807 by omega),lastK_succ]
   ·simp[wrapS (show j<9223372036854775807 by omega)];omega
  ·have hjl:j=t.fKeys.length:=by omega
   subst hjl
   grind[tableOk,within]
theorem tableOkI_ok (t:GTable) (ht:okTable t):VC Tryz.prog 211 [vTable t] [(false,[(.s,.sc (.bool (tableOk t)))])]:=by
 obtain ⟨hn,hc,hk,_⟩:=ht
 have hcl:t.fCols.length≤9223372036854775807:=hc.1
 have hkl:t.fKeys.length≤9223372036854775807:=hk.1
 refine vc_of_ew good hm [0,1,2,10,11,12,13,4,3,27,5,30,31,32,33,7,8,50] Tryz.func211 rfl (by kernel_rfl) (by kernel_rfl) rfl ?_
 simp[Tryz.f211]
 refine ew_loop (fun E=> ∃i:Nat,i≤t.fCols.length∧colsTo t i=true∧E= {nt:=68,sl:= [(1,.p (.bx 1 0)),(10,vColS t.fCols),(11,int .i64 t.fCols.length),(12,int .i64 i)],bx:= [(1,cTable t)],rt:= []}) (fun E=>t.fCols.length- (E.num 12).toNat) _ (Gh.kb _ [1,10,11,12] [1] []) ⟨0,by omega,by simp[colsTo],by simp⟩ ?_
 rintro E1 ⟨i,hi,hall,rfl⟩
 simp
 refine ⟨fun h=>⟨h,.of (colOkI_ok _ (hc.2 _ (getD_mem dCol h))) ?_⟩,fun h=> ?_⟩
 ·simp
  refine .of (fun h=>⟨h,colAtI_ok _ _ hc.1⟩) ?_
  simp
  have hat:colsOkAt t i=(colOk (t.fCols[i]?.getD dCol)&&decide (colAt t (t.fCols[i]?.getD dCol).fName=i)):=rfl
  refine ⟨fun hb=>colsTo_no h (by grind),fun h1 h2=> .of _ (Gh.kb _ [1,10,11,12] [1] []) ⟨i+1,by omega, ?_, ?_⟩ ?_⟩
  ·rw[colsTo,rangeAll_succ];unfold colsTo at hall;grind
  ·simp[wrapS (show i<9223372036854775807 by omega)]
  ·simp[wrapS (show i<9223372036854775807 by omega)];omega
 ·have hil:i=t.fCols.length:=by omega
  subst hil
  refine ew_loop (fun E=> ∃i:Nat,i≤t.fKeys.length∧keysTo t i=true∧E= {nt:=68,sl:= [(1,.p (.bx 1 0)),(5,int .i64 (lastK t i)),(30,vStrS t.fKeys),(31,int .i64 t.fKeys.length),(32,int .i64 i)],bx:= [(1,cTable t)],rt:= []}) (fun E=>t.fKeys.length- (E.num 32).toNat) _ (Gh.kb _ [1,5,30,31,32] [1] []) ⟨0,by omega,by simp[keysTo],by simp[lastK]⟩ ?_
  rintro E1 ⟨j,hj,hkall,rfl⟩
  simp
  refine ⟨fun h=>⟨h,.of (colAtI_ok _ _ hc.1) ?_⟩,fun h=> ?_⟩
  ·simp
   have hb:=idxF_bd (fun c:GCol=>c.fName.toList==(t.fKeys[j]?.getD ⟨#[]⟩).toList) t.fCols
   have hlg:=lastK_ge t j
   rw[show idxF (fun c:GCol=>c.fName.toList==(t.fKeys[j]?.getD ⟨#[]⟩).toList) t.fCols=colAt t (t.fKeys[j]?.getD ⟨#[]⟩) from rfl] at hb
   have hat:keyOkAt t j=(decide (lastK t j<colAt t (t.fKeys[j]?.getD ⟨#[]⟩))&& (t.fCols[(colAt t (t.fKeys[j]?.getD ⟨#[]⟩)).toNat]?.getD dCol).fNot):=rfl
   refine ⟨fun h1=>⟨h1,by omega,by omega⟩,fun hb=>keysTo_no h (by grind),fun h1 h2=> .of _ (Gh.kb _ [1,5,30,31,32] [1] []) ⟨j+1,by omega, ?_, ?_⟩ ?_⟩
   ·rw[keysTo,rangeAll_succ];unfold keysTo at hkall;grind
   ·simp[wrapS (show j<9223372036854775807 by omega),lastK_succ]
   ·simp[wrapS (show j<9223372036854775807 by omega)];omega
  ·have hjl:j=t.fKeys.length:=by omega
   subst hjl
   refine .of (wordOkI_ok _ hn) ?_
   simp
   refine .of (fun h=>⟨h,within_ok _ _ _⟩) ?_
   simp
   grind[tableOk,within]
end Go.Proofs.YtanlbohhmoifcaaGreat
namespace Go.Proofs.YtanlbohhmoifcaaGreat
open Go Go.Proofs Go.Sm
attribute [local simp] ti eStr eInt eByte eVal vVal eCol vCol vColS vStrS eTable cTable vTable vTableS cCat vCat eValS vValS eRow cRow vRow vRowS eRows vRowsS cDb vDb eDdl cDdl vDdl eStmt cStmt vStmt eRec vRec eSlot vSlot eRecS vRecS eSlotS vSlotS vStmtS
set_option linter.unusedVariables false
set_option linter.unusedSimpArgs false
def keyOf (t:GTable) (r:GRow):List GVal:=t.fKeys.map fun k=>r.fVals[(colAt t k).toNat]?.getD dVal
def keysIn (t:GTable) (r:GRow):Prop:= ∀k∈t.fKeys,0≤colAt t k∧colAt t k<r.fVals.length
def keyTo (t:GTable) (r:GRow) (i:Nat):List GVal:=(t.fKeys.take i).map fun k=>r.fVals[(colAt t k).toNat]?.getD dVal
theorem keyTo_zero (t:GTable) (r:GRow):keyTo t r 0= []:=rfl
theorem keyTo_all (t:GTable) (r:GRow):keyTo t r t.fKeys.length=keyOf t r:=by simp[keyTo,keyOf]
theorem keyTo_len (t:GTable) (r:GRow) {i:Nat} (h:i≤t.fKeys.length):(keyTo t r i).length=i:=by simp[keyTo];omega
theorem keyTo_succ (t:GTable) (r:GRow) {i:Nat} (h:i<t.fKeys.length):keyTo t r (i+1)=keyTo t r i++ [r.fVals[(colAt t (t.fKeys[i]?.getD ⟨#[]⟩)).toNat]?.getD dVal]:=by
 unfold keyTo
 rw[List.take_succ_eq_append_getElem h,List.map_append,List.getElem?_eq_getElem h]
 rfl
theorem keyS_ok (t:GTable) (r:GRow) (ht:okTable t) (hk:t.fKeys.length≤1048576) (hin:keysIn t r):VC Tryz.prog 207 [vTable t,vRow r] [(false,mValS (keyOf t r))]:=by
 refine vc_of_ew good hm [0,1,2,3,4,5,10,11,12,13,7] Tryz.func207 rfl (by kernel_rfl) (by kernel_rfl) rfl ?_
 simp[Tryz.f207,mValS]
 refine ew_loop (fun E=> ∃i:Nat,i≤t.fKeys.length∧E= {nt:=28,sl:= [(2,.p (.bx 2 0)),(3,.p (.bx 3 0)),(5,.v false [.r [8]]),(10,vStrS t.fKeys),(11,int .i64 t.fKeys.length),(12,int .i64 i)],bx:= [(2,cTable t),(3,cRow r)],rt:= [(8,.o 152 (fun _=> [.s,.s,.s]),.ls [.sc (.int .i64 0),.sc (.int .i64 0),.sc (.string ⟨#[]⟩)] ((keyTo t r i).map eVal))]}) (fun E=>t.fKeys.length- (E.num 12).toNat) _ (Gh.kb _ [2,3,5,10,11,12] [2,3] [8]) ⟨0,by omega,by simp[keyTo_zero]⟩ ?_
 rintro E1 ⟨i,hi,rfl⟩
 have hl:=keyTo_len t r hi
 simp
 refine ⟨fun h=>⟨h,.of (colAtS_ok t _ ht.2.1.1) ?_⟩,fun h=> ?_⟩
 ·simp
  have hb:=hin _ (getD_mem (⟨#[]⟩:ByteArray) h)
  refine ⟨hb,by rw[hl];omega,.of _ ((Gh.kb _ [2,3,5,10,11,12] [2,3] [25]).trans (Gh.rn _ 25 8)) ⟨i+1,by omega, ?_⟩ ?_⟩
  ·simp[wrapS (show i<9223372036854775807 by omega),keyTo_succ t r h]
  ·simp[wrapS (show i<9223372036854775807 by omega)];omega
 ·have:i=t.fKeys.length:=by omega
  subst this
  rw[keyTo_all]
theorem keyI_ok (t:GTable) (r:GRow) (ht:okTable t) (hk:t.fKeys.length≤1048576) (hin:keysIn t r):VC Tryz.prog 214 [vTable t,vRow r] [(false,mValS (keyOf t r))]:=by
 refine vc_of_ew good hm [0,1,2,3,4,5,10,11,12,13,7] Tryz.func214 rfl (by kernel_rfl) (by kernel_rfl) rfl ?_
 simp[Tryz.f214,mValS]
 refine ew_loop (fun E=> ∃i:Nat,i≤t.fKeys.length∧E= {nt:=28,sl:= [(2,.p (.bx 2 0)),(3,.p (.bx 3 0)),(5,.v false [.r [8]]),(10,vStrS t.fKeys),(11,int .i64 t.fKeys.length),(12,int .i64 i)],bx:= [(2,cTable t),(3,cRow r)],rt:= [(8,.o 152 (fun _=> [.s,.s,.s]),.ls [.sc (.int .i64 0),.sc (.int .i64 0),.sc (.string ⟨#[]⟩)] ((keyTo t r i).map eVal))]}) (fun E=>t.fKeys.length- (E.num 12).toNat) _ (Gh.kb _ [2,3,5,10,11,12] [2,3] [8]) ⟨0,by omega,by simp[keyTo_zero]⟩ ?_
 rintro E1 ⟨i,hi,rfl⟩
 have hl:=keyTo_len t r hi
 simp
 refine ⟨fun h=>⟨h,.of (colAtI_ok t _ ht.2.1.1) ?_⟩,fun h=> ?_⟩
 ·simp
  have hb:=hin _ (getD_mem (⟨#[]⟩:ByteArray) h)
  refine ⟨hb,by rw[hl];omega,.of _ ((Gh.kb _ [2,3,5,10,11,12] [2,3] [25]).trans (Gh.rn _ 25 8)) ⟨i+1,by omega, ?_⟩ ?_⟩
  ·simp[wrapS (show i<9223372036854775807 by omega),keyTo_succ t r h]
  ·simp[wrapS (show i<9223372036854775807 by omega)];omega
 ·have:i=t.fKeys.length:=by omega
  subst this
  rw[keyTo_all]
def veq (x y:GVal):Bool:=x.fTy==y.fTy&& (x.fN==y.fN&&x.fS.toList==y.fS.toList)
def keyLess:List GVal→List GVal→Bool
 | [],b=> !b.isEmpty
 |_::_,[]=>false
 |x::a,y::b=>if veq x y=true then keyLess a b else valLess x y
theorem keyLess_at {a b:List GVal} {i:Nat} (h1:i<a.length) (h2:i<b.length):keyLess (a.drop i) (b.drop i)=if veq (a[i]?.getD dVal) (b[i]?.getD dVal)=true then keyLess (a.drop (i+1)) (b.drop (i+1)) else valLess (a[i]?.getD dVal) (b[i]?.getD dVal):=by
 rw[List.drop_eq_getElem_cons h1,List.drop_eq_getElem_cons h2,List.getElem?_eq_getElem h1,List.getElem?_eq_getElem h2]
 rfl
theorem keyLess_end {a b:List GVal} {i:Nat} (h1:i≤a.length) (h2:i≤b.length) (h: ¬(i<a.length∧i<b.length)):keyLess (a.drop i) (b.drop i)=decide (a.length<b.length):=by
 by_cases h3:i<a.length
 ·have:b.length=i:=by omega
  rw[List.drop_eq_getElem_cons h3,List.drop_eq_nil_of_le (by omega:b.length≤i)]
  simp[keyLess]
  omega
 ·rw[List.drop_eq_nil_of_le (by omega:a.length≤i)]
  simp only[keyLess]
  rw[Bool.eq_iff_iff]
  simp
  omega
theorem keyLessS_ok (a b:List GVal) (ha:okM a.length) (hb:okM b.length):VC Tryz.prog 206 [vValS a,vValS b] [(false,[(.s,.sc (.bool (keyLess a b)))])]:=by
 unfold okM at ha hb
 refine vc_of_ew good hm [0,1,4,5,15,26] Tryz.func206 rfl (by kernel_rfl) (by kernel_rfl) rfl ?_
 simp[Tryz.f206]
 refine ew_loop (fun E=> ∃i:Nat,i≤a.length∧i≤b.length∧keyLess (a.drop i) (b.drop i)=keyLess a b∧E= {nt:=41,sl:= [(0,vValS a),(1,vValS b),(5,int .i64 i)],bx:= [],rt:= []}) (fun E=>a.length- (E.num 5).toNat) _ (Gh.kb _ [0,1,5] [] []) ⟨0,by omega,by omega,rfl,by simp⟩ ?_
 rintro E1 ⟨i,hi,hj,hall,rfl⟩
 simp
 have hE: ¬(i<a.length∧i<b.length)→(decide (a.length<b.length))=keyLess a b:=fun h=>by
  rw[←hall,keyLess_end hi hj h]
 refine ⟨fun h1 h2=>⟨h1,h2,fun hne=>⟨h1,h2,.of (valLessS_ok _ _) ?_⟩,fun e1 e2 e3=> .of _ (Gh.kb _ [0,1,5] [] []) ⟨i+1,by omega,by omega, ?_, ?_⟩ ?_⟩,fun h=> ?_⟩
 ·simp
  rw[←hall,keyLess_at h1 h2,if_neg]
  simp only[veq,Bool.and_eq_true,beq_iff_eq]
  grind
 ·rw[←hall,keyLess_at h1 h2,if_pos]
  simp[veq,e1,e2,e3]
 ·simp[wrapS (show i<9223372036854775807 by omega)]
 ·simp[wrapS (show i<9223372036854775807 by omega)];omega
 ·exact hE (by omega)
theorem keyLessI_ok (a b:List GVal) (ha:okM a.length) (hb:okM b.length):VC Tryz.prog 213 [vValS a,vValS b] [(false,[(.s,.sc (.bool (keyLess a b)))])]:=by
 unfold okM at ha hb
 refine vc_of_ew good hm [0,1,4,5,15,26] Tryz.func213 rfl (by kernel_rfl) (by kernel_rfl) rfl ?_
 simp[Tryz.f213]
 refine ew_loop (fun E=> ∃i:Nat,i≤a.length∧i≤b.length∧keyLess (a.drop i) (b.drop i)=keyLess a b∧E= {nt:=41,sl:= [(0,vValS a),(1,vValS b),(5,int .i64 i)],bx:= [],rt:= []}) (fun E=>a.length- (E.num 5).toNat) _ (Gh.kb _ [0,1,5] [] []) ⟨0,by omega,by omega,rfl,by simp⟩ ?_
 rintro E1 ⟨i,hi,hj,hall,rfl⟩
 simp
 have hE: ¬(i<a.length∧i<b.length)→(decide (a.length<b.length))=keyLess a b:=fun h=>by
  rw[←hall,keyLess_end hi hj h]
 refine ⟨fun h1 h2=>⟨h1,h2,fun hne=>⟨h1,h2,.of (valLessI_ok _ _) ?_⟩,fun e1 e2 e3=> .of _ (Gh.kb _ [0,1,5] [] []) ⟨i+1,by omega,by omega, ?_, ?_⟩ ?_⟩,fun h=> ?_⟩
 ·simp
  rw[←hall,keyLess_at h1 h2,if_neg]
  simp only[veq,Bool.and_eq_true,beq_iff_eq]
  grind
 ·rw[←hall,keyLess_at h1 h2,if_pos]
  simp[veq,e1,e2,e3]
 ·simp[wrapS (show i<9223372036854775807 by omega)]
 ·simp[wrapS (show i<9223372036854775807 by omega)];omega
 ·exact hE (by omega)
def stands (c:GCol) (v:GVal):Bool:=valOk v&& (decide (v.fTy=c.fTy)||(decide (v.fTy=0)&& !c.fNot))
def fits (c:GCol) (v:GVal):Bool:=if v.fTy=0 then valOk v&& !c.fNot else valOk v&&decide (v.fTy=c.fTy)
theorem fits_eq {c:GCol} (h:colOk c=true) (v:GVal):fits c v=stands c v:=by
 have:1≤c.fTy:=by
  simp only[colOk,within,Bool.and_eq_true,decide_eq_true_eq] at h
  exact h.1.2.1
 unfold fits stands
 grind
theorem fits_ok (c:GCol) (v:GVal):VC Tryz.prog 232 [vCol c,vVal v] [(false,[(.s,.sc (.bool (fits c v)))])]:=by
 refine vc_of_ew good hm [0,1,2,3,4,7] Tryz.func232 rfl (by kernel_rfl) (by kernel_rfl) rfl ?_
 simp[Tryz.f232,beqI]
 refine ⟨fun h=> .of (valOkS_ok v) ?_,fun h=> .of (valOkS_ok v) ?_⟩
 ·simp
  grind[fits]
 ·simp[beqI]
  grind[fits]
theorem stands_ok (c:GCol) (v:GVal):VC Tryz.prog 236 [vCol c,vVal v] [(false,[(.s,.sc (.bool (stands c v)))])]:=by
 refine vc_of_ew good hm [0,1,2,3,4] Tryz.func236 rfl (by kernel_rfl) (by kernel_rfl) rfl ?_
 simp[Tryz.f236,beqI]
 refine .of (valOkI_ok v) ?_
 simp[beqI]
 grind[stands]
def rowAt (t:GTable) (r:GRow) (i:Nat):Bool:=stands (t.fCols[i]?.getD dCol) (r.fVals[i]?.getD dVal)
def rowTo (t:GTable) (r:GRow) (n:Nat):Bool:=(List.range n).all (rowAt t r)
def rowFit (t:GTable) (r:GRow):Bool:=decide (r.fVals.length=t.fCols.length)&&rowTo t r r.fVals.length
theorem tableOk_col {t:GTable} (h:tableOk t=true) {i:Nat} (hi:i<t.fCols.length):colOk (t.fCols[i]?.getD dCol)=true:=by
 simp only[tableOk,colsTo,Bool.and_eq_true,List.all_eq_true,List.mem_range] at h
 have:=h.2.1 i hi
 simp only[colsOkAt,Bool.and_eq_true] at this
 exact this.1
theorem tableOk_keys {t:GTable} (h:tableOk t=true) {r:GRow} (hr:rowFit t r=true):keysIn t r:=by
 intro k hk
 simp only[tableOk,keysTo,Bool.and_eq_true,List.all_eq_true,List.mem_range] at h
 obtain ⟨j,hj,rfl⟩:=List.getElem_of_mem hk
 have h1:=h.2.2 j hj
 have h2:=lastK_ge t j
 have hb:=idxF_bd (fun c:GCol=>c.fName.toList==(t.fKeys[j]).toList) t.fCols
 rw[show idxF (fun c:GCol=>c.fName.toList==(t.fKeys[j]).toList) t.fCols=colAt t (t.fKeys[j]) from rfl] at hb
 simp only[keyOkAt,Bool.and_eq_true,decide_eq_true_eq,List.getElem?_eq_getElem hj,Option.getD_some] at h1
 simp only[rowFit,Bool.and_eq_true,decide_eq_true_eq] at hr
 omega
theorem rowFit_no {t:GTable} {r:GRow} {i:Nat} (hi:i<r.fVals.length) (h:rowAt t r i=false):rowFit t r=false:=by
 simp[rowFit,rowTo,rangeAll_no hi h]
theorem rowOkS_ok (t:GTable) (r:GRow) (ht:okTable t) (hr:okM r.fVals.length):VC Tryz.prog 205 [vTable t,vRow r] [(false,[(.s,.sc (.bool (tableOk t&&rowFit t r)))])]:=by
 have hcl:t.fCols.length≤9223372036854775807:=ht.2.1.1
 refine vc_of_ew good hm [0,1,2,3,4,18,20,21,22,23,6,5,34] Tryz.func205 rfl (by kernel_rfl) (by kernel_rfl) rfl ?_
 simp[Tryz.f205]
 refine .of (tableOkS_ok t ht) ?_
 simp
 refine ⟨fun h h1=>by grind[rowFit],fun h1 h2=> ?_⟩
 have h2':r.fVals.length=t.fCols.length:=by omega
 refine ew_loop (fun E=> ∃i:Nat,i≤t.fCols.length∧rowTo t r i=true∧E= {nt:=36,sl:= [(3,.p (.bx 3 0)),(20,vColS t.fCols),(21,int .i64 t.fCols.length),(22,int .i64 i)],bx:= [(3,cRow r)],rt:= []}) (fun E=>t.fCols.length- (E.num 22).toNat) _ (Gh.kb _ [3,20,21,22] [3] []) ⟨0,by omega,by simp[rowTo],by simp⟩ ?_
 rintro E1 ⟨i,hi,hall,rfl⟩
 simp
 refine ⟨fun h=>⟨h,by omega,.of (fits_ok _ _) ?_⟩,fun h=> ?_⟩
 ·simp
  rw[fits_eq (tableOk_col h1 h)]
  have hat:rowAt t r i=stands (t.fCols[i]?.getD dCol) (r.fVals[i]?.getD dVal):=rfl
  refine ⟨fun hb=>by rw[rowFit_no (by omega) (hat.trans hb)];simp,fun hb=> .of _ (Gh.kb _ [3,20,21,22] [3] []) ⟨i+1,by omega, ?_, ?_⟩ ?_⟩
  ·rw[rowTo,rangeAll_succ];unfold rowTo at hall;grind
  ·simp[wrapS (show i<9223372036854775807 by omega)]
  ·simp[wrapS (show i<9223372036854775807 by omega)];omega
 ·have:i=t.fCols.length:=by omega
  subst this
  rw[←h2'] at hall
  simp[rowFit,h1,h2',hall]
  rwa [h2'] at hall
theorem rowOkI_ok (t:GTable) (r:GRow) (ht:okTable t) (hr:okM r.fVals.length):VC Tryz.prog 212 [vTable t,vRow r] [(false,[(.s,.sc (.bool (rowFit t r)))])]:=by
 have hcl:r.fVals.length≤9223372036854775807:=hr
 refine vc_of_ew good hm [0,1,2,3,4,13,15,16,17,18,6,5,29] Tryz.func212 rfl (by kernel_rfl) (by kernel_rfl) rfl ?_
 simp[Tryz.f212]
 refine ⟨fun h=>by grind[rowFit],fun h2=> ?_⟩
 have h2':r.fVals.length=t.fCols.length:=by omega
 refine ew_loop (fun E=> ∃i:Nat,i≤r.fVals.length∧rowTo t r i=true∧E= {nt:=31,sl:= [(2,.p (.bx 2 0)),(15,vValS r.fVals),(16,int .i64 r.fVals.length),(17,int .i64 i)],bx:= [(2,cTable t)],rt:= []}) (fun E=>r.fVals.length- (E.num 17).toNat) _ (Gh.kb _ [2,15,16,17] [2] []) ⟨0,by omega,by simp[rowTo],by simp⟩ ?_
 rintro E1 ⟨i,hi,hall,rfl⟩
 simp
 refine ⟨fun h=>⟨h,by omega,.of (stands_ok _ _) ?_⟩,fun h=> ?_⟩
 ·simp
  have hat:rowAt t r i=stands (t.fCols[i]?.getD dCol) (r.fVals[i]?.getD dVal):=rfl
  refine ⟨fun hb=>by rw[rowFit_no h (hat.trans hb)],fun hb=> .of _ (Gh.kb _ [2,15,16,17] [2] []) ⟨i+1,by omega, ?_, ?_⟩ ?_⟩
  ·rw[rowTo,rangeAll_succ];unfold rowTo at hall;grind
  ·simp[wrapS (show i<9223372036854775807 by omega)]
  ·simp[wrapS (show i<9223372036854775807 by omega)];omega
 ·have:i=r.fVals.length:=by omega
  subst this
  simp[rowFit,h2']
  rwa [h2'] at hall
def rowsAt (t:GTable) (l:List GRow) (i:Nat):Bool:=rowFit t (l[i]?.getD dRow)&& !(decide (0<i)&& !keyLess (keyOf t (l[i-1]?.getD dRow)) (keyOf t (l[i]?.getD dRow)))
def rowsTo (t:GTable) (l:List GRow) (n:Nat):Bool:=(List.range n).all (rowsAt t l)
def rowsOk (t:GTable) (l:List GRow):Bool:=tableOk t&& (decide ((l.length:Int)≤60)&&rowsTo t l l.length)
theorem rowsTo_at {t:GTable} {l:List GRow} {n i:Nat} (h:rowsTo t l n=true) (hi:i<n):rowFit t (l[i]?.getD dRow)=true:=by
 simp only[rowsTo,List.all_eq_true,List.mem_range] at h
 have:=h i hi
 simp only[rowsAt,Bool.and_eq_true] at this
 exact this.1
theorem rowsOk_no {t:GTable} {l:List GRow} {i:Nat} (hi:i<l.length) (h:rowsAt t l i=false):rowsOk t l=false:=by
 simp[rowsOk,rowsTo,rangeAll_no hi h]
theorem keyOf_len (t:GTable) (r:GRow):(keyOf t r).length=t.fKeys.length:=by simp[keyOf]
theorem rowsOkS_ok (t:GTable) (l:List GRow) (ht:okTable t) (hl:okRowS l) (hk:t.fKeys.length≤1048576):VC Tryz.prog 182 [vTable t,vRowS l] [(false,[(.s,.sc (.bool (rowsOk t l)))])]:=by
 have hll:l.length≤9223372036854775807:=hl.1
 refine vc_of_ew good hm [0,1,2,4,14,15,16,17,18,6,5,43] Tryz.func182 rfl (by kernel_rfl) (by kernel_rfl) rfl ?_
 simp[Tryz.f182]
 refine .of (tableOkS_ok t ht) ?_
 simp
 refine ⟨fun h=>by grind[rowsOk],fun h1 h2=> ?_⟩
 refine ew_loop (fun E=> ∃i:Nat,i≤l.length∧rowsTo t l i=true∧E= {nt:=45,sl:= [(1,vRowS l),(2,.p (.bx 2 0)),(15,vRowS l),(16,int .i64 l.length),(17,int .i64 i)],bx:= [(2,cTable t)],rt:= []}) (fun E=>l.length- (E.num 17).toNat) _ (Gh.kb _ [1,2,15,16,17] [2] []) ⟨0,by omega,by simp[rowsTo],by simp⟩ ?_
 rintro E1 ⟨i,hi,hall,rfl⟩
 have hw:0<i→IntKind.i64.wrap ((i:Int)-1)=((i-1:Nat):Int):=fun h0=>wrapP h0 (by omega)
 simp
 refine ⟨fun h=>⟨h,.of (rowOkS_ok t _ ht (hl.2 _ (getD_mem dRow h)).1.1) ?_⟩,fun h=> ?_⟩
 ·simp[h1]
  have hbnd:0<i→0≤IntKind.i64.wrap ((i:Int)-1)∧IntKind.i64.wrap ((i:Int)-1)<l.length:=fun h0=>by rw[hw h0];omega
  have hprev:0<i→rowFit t (l[(IntKind.i64.wrap ((i:Int)-1)).toNat]?.getD dRow)=true:=fun h0=>by
   rw[hw h0,Int.toNat_natCast]
   exact rowsTo_at hall (by omega)
  refine ⟨by grind,.of (fun g=>⟨g,keyS_ok t _ ht hk (tableOk_keys h1 (hprev g.2))⟩) ?_⟩
  simp[mValS]
  refine .of (fun g=>⟨g,keyS_ok t (l[i]?.getD dRow) ht hk (tableOk_keys h1 (by grind))⟩) ?_
  simp[mValS]
  refine .of (fun g=>⟨by grind,keyLessS_ok (keyOf t _) (keyOf t _) (by rw[keyOf_len];exact ht.2.2.1.1) (by rw[keyOf_len];exact ht.2.2.1.1)⟩) ?_
  simp
  have hat:rowsAt t l i=(rowFit t (l[i]?.getD dRow)&& (decide (i=0)||keyLess (keyOf t (l[(IntKind.i64.wrap ((i:Int)-1)).toNat]?.getD dRow)) (keyOf t (l[i]?.getD dRow)))):=by
   unfold rowsAt
   rcases Nat.eq_zero_or_pos i with h0|h0
   ·simp[h0]
   ·rw[hw h0];simp[Nat.ne_of_gt h0];simp[h0]
  refine ⟨by grind,fun hb=>rowsOk_no h (by grind),fun g1 g2=> .of _ (Gh.kb _ [1,2,15,16,17] [2] []) ⟨i+1,by omega, ?_, ?_⟩ ?_⟩
  ·rw[rowsTo,rangeAll_succ];unfold rowsTo at hall;grind
  ·simp[wrapS (show i<9223372036854775807 by omega)]
  ·simp[wrapS (show i<9223372036854775807 by omega)];omega
 ·have:i=l.length:=by omega
  subst this
  grind[rowsOk]
theorem rowsOkI_ok (t:GTable) (l:List GRow) (ht:okTable t) (hl:okRowS l) (hk:t.fKeys.length≤1048576):VC Tryz.prog 188 [vTable t,vRowS l] [(false,[(.s,.sc (.bool (rowsOk t l)))])]:=by
 have hll:l.length≤9223372036854775807:=hl.1
 refine vc_of_ew good hm [0,1,2,4,14,15,16,17,18,6,5,43] Tryz.func188 rfl (by kernel_rfl) (by kernel_rfl) rfl ?_
 simp[Tryz.f188]
 refine .of (tableOkI_ok t ht) ?_
 simp
 refine ⟨fun h=>by grind[rowsOk],fun h1 h2=> ?_⟩
 refine ew_loop (fun E=> ∃i:Nat,i≤l.length∧rowsTo t l i=true∧E= {nt:=45,sl:= [(1,vRowS l),(2,.p (.bx 2 0)),(15,vRowS l),(16,int .i64 l.length),(17,int .i64 i)],bx:= [(2,cTable t)],rt:= []}) (fun E=>l.length- (E.num 17).toNat) _ (Gh.kb _ [1,2,15,16,17] [2] []) ⟨0,by omega,by simp[rowsTo],by simp⟩ ?_
 rintro E1 ⟨i,hi,hall,rfl⟩
 have hw:0<i→IntKind.i64.wrap ((i:Int)-1)=((i-1:Nat):Int):=fun h0=>wrapP h0 (by omega)
 simp
 refine ⟨fun h=>⟨h,.of (rowOkI_ok t _ ht (hl.2 _ (getD_mem dRow h)).1.1) ?_⟩,fun h=> ?_⟩
 ·simp[h1]
  have hbnd:0<i→0≤IntKind.i64.wrap ((i:Int)-1)∧IntKind.i64.wrap ((i:Int)-1)<l.length:=fun h0=>by rw[hw h0];omega
  have hprev:0<i→rowFit t (l[(IntKind.i64.wrap ((i:Int)-1)).toNat]?.getD dRow)=true:=fun h0=>by
   rw[hw h0,Int.toNat_natCast]
   exact rowsTo_at hall (by omega)
  refine ⟨by grind,.of (fun g=>⟨g,keyI_ok t _ ht hk (tableOk_keys h1 (hprev g.2))⟩) ?_⟩
  simp[mValS]
  refine .of (fun g=>⟨g,keyI_ok t (l[i]?.getD dRow) ht hk (tableOk_keys h1 (by grind))⟩) ?_
  simp[mValS]
  refine .of (fun g=>⟨by grind,keyLessI_ok (keyOf t _) (keyOf t _) (by rw[keyOf_len];exact ht.2.2.1.1) (by rw[keyOf_len];exact ht.2.2.1.1)⟩) ?_
  simp
  have hat:rowsAt t l i=(rowFit t (l[i]?.getD dRow)&& (decide (i=0)||keyLess (keyOf t (l[(IntKind.i64.wrap ((i:Int)-1)).toNat]?.getD dRow)) (keyOf t (l[i]?.getD dRow)))):=by
   unfold rowsAt
   rcases Nat.eq_zero_or_pos i with h0|h0
   ·simp[h0]
   ·rw[hw h0];simp[Nat.ne_of_gt h0];simp[h0]
  refine ⟨by grind,fun hb=>rowsOk_no h (by grind),fun g1 g2=> .of _ (Gh.kb _ [1,2,15,16,17] [2] []) ⟨i+1,by omega, ?_, ?_⟩ ?_⟩
  ·rw[rowsTo,rangeAll_succ];unfold rowsTo at hall;grind
  ·simp[wrapS (show i<9223372036854775807 by omega)]
  ·simp[wrapS (show i<9223372036854775807 by omega)];omega
 ·have:i=l.length:=by omega
  subst this
  grind[rowsOk]
def catAt (l:List GTable) (i:Nat):Bool:=tableOk (l[i]?.getD dTable)&& !(decide (0<i)&&geq (l[i-1]?.getD dTable).fName (l[i]?.getD dTable).fName)
def catTo (l:List GTable) (n:Nat):Bool:=(List.range n).all (catAt l)
def catOk (c:GCat):Bool:=catTo c.fTables c.fTables.length&&decide ((c.fTables.length:Int)≤6)
theorem catOk_no {c:GCat} {i:Nat} (hi:i<c.fTables.length) (h:catAt c.fTables i=false):catOk c=false:=by
 simp[catOk,catTo,rangeAll_no hi h]
theorem cat_hat (l:List GTable) (i:Nat) (hw:0<i→IntKind.i64.wrap ((i:Int)-1)=((i-1:Nat):Int)):catAt l i=(tableOk (l[i]?.getD dTable)&& (decide (i=0)||Op.bytesLess (l[(IntKind.i64.wrap ((i:Int)-1)).toNat]?.getD dTable).fName.toList (l[i]?.getD dTable).fName.toList)):=by
 unfold catAt geq
 rcases Nat.eq_zero_or_pos i with h0|h0
 ·simp[h0]
 ·rw[hw h0];simp[Nat.ne_of_gt h0];simp[h0]
theorem catOkS_ok (c:GCat) (hc:okCat c):VC Tryz.prog 181 [vCat c] [(false,[(.s,.sc (.bool (catOk c)))])]:=by
 have hll:c.fTables.length≤9223372036854775807:=hc.1.1
 refine vc_of_ew good hm [0,1,2,8,10,11,12,13,4,3,35] Tryz.func181 rfl (by kernel_rfl) (by kernel_rfl) rfl ?_
 simp[Tryz.f181]
 refine ⟨fun h=>by grind[catOk],fun h2=> ?_⟩
 refine ew_loop (fun E=> ∃i:Nat,i≤c.fTables.length∧catTo c.fTables i=true∧E= {nt:=37,sl:= [(1,.p (.bx 1 0)),(10,vTableS c.fTables),(11,int .i64 c.fTables.length),(12,int .i64 i)],bx:= [(1,cCat c)],rt:= []}) (fun E=>c.fTables.length- (E.num 12).toNat) _ (Gh.kb _ [1,10,11,12] [1] []) ⟨0,by omega,by simp[catTo],by simp⟩ ?_
 rintro E1 ⟨i,hi,hall,rfl⟩
 have hw:0<i→IntKind.i64.wrap ((i:Int)-1)=((i-1:Nat):Int):=fun h0=>wrapP h0 (by omega)
 simp
 refine ⟨fun h=>⟨h,.of (tableOkS_ok _ (hc.1.2 _ (getD_mem dTable h))) ?_⟩,fun h=> ?_⟩
 ·simp
  have hbnd:0<i→0≤IntKind.i64.wrap ((i:Int)-1)∧IntKind.i64.wrap ((i:Int)-1)<c.fTables.length:=fun h0=>by rw[hw h0];omega
  have hat:=cat_hat c.fTables i hw
  refine ⟨by grind,by grind,fun hb=>catOk_no h (by grind),fun g1 g2=> .of _ (Gh.kb _ [1,10,11,12] [1] []) ⟨i+1,by omega, ?_, ?_⟩ ?_⟩
  ·rw[catTo,rangeAll_succ];unfold catTo at hall;grind
  ·simp[wrapS (show i<9223372036854775807 by omega)]
  ·simp[wrapS (show i<9223372036854775807 by omega)];omega
 ·have:i=c.fTables.length:=by omega
  subst this
  grind[catOk]
theorem catOkI_ok (c:GCat) (hc:okCat c):VC Tryz.prog 187 [vCat c] [(false,[(.s,.sc (.bool (catOk c)))])]:=by
 have hll:c.fTables.length≤9223372036854775807:=hc.1.1
 refine vc_of_ew good hm [0,1,2,6,7,8,9,4,3,31] Tryz.func187 rfl (by kernel_rfl) (by kernel_rfl) rfl ?_
 simp[Tryz.f187]
 refine ew_loop (fun E=> ∃i:Nat,i≤c.fTables.length∧catTo c.fTables i=true∧E= {nt:=37,sl:= [(1,.p (.bx 1 0)),(6,vTableS c.fTables),(7,int .i64 c.fTables.length),(8,int .i64 i)],bx:= [(1,cCat c)],rt:= []}) (fun E=>c.fTables.length- (E.num 8).toNat) _ (Gh.kb _ [1,6,7,8] [1] []) ⟨0,by omega,by simp[catTo],by simp⟩ ?_
 rintro E1 ⟨i,hi,hall,rfl⟩
 have hw:0<i→IntKind.i64.wrap ((i:Int)-1)=((i-1:Nat):Int):=fun h0=>wrapP h0 (by omega)
 simp
 refine ⟨fun h=>⟨h,.of (tableOkI_ok _ (hc.1.2 _ (getD_mem dTable h))) ?_⟩,fun h=> ?_⟩
 ·simp
  have hbnd:0<i→0≤IntKind.i64.wrap ((i:Int)-1)∧IntKind.i64.wrap ((i:Int)-1)<c.fTables.length:=fun h0=>by rw[hw h0];omega
  have hat:=cat_hat c.fTables i hw
  refine ⟨by grind,by grind,fun hb=>catOk_no h (by grind),fun g1 g2=> .of _ (Gh.kb _ [1,6,7,8] [1] []) ⟨i+1,by omega, ?_, ?_⟩ ?_⟩
  ·rw[catTo,rangeAll_succ];unfold catTo at hall;grind
  ·simp[wrapS (show i<9223372036854775807 by omega)]
  ·simp[wrapS (show i<9223372036854775807 by omega)];omega
 ·have:i=c.fTables.length:=by omega
  subst this
  grind[catOk]
def dbAt (d:GDb) (i:Nat):Bool:=rowsOk (d.fCat.fTables[i]?.getD dTable) (d.fData[i]?.getD dRows).fRows
def dbTo (d:GDb) (n:Nat):Bool:=(List.range n).all (dbAt d)
def dbOk (d:GDb):Bool:=catOk d.fCat&& (decide ((d.fData.length:Int)=d.fCat.fTables.length)&&dbTo d d.fCat.fTables.length)
theorem dbOk_no {d:GDb} {i:Nat} (hi:i<d.fCat.fTables.length) (h:dbAt d i=false):dbOk d=false:=by
 simp[dbOk,dbTo,rangeAll_no hi h]
theorem dbOkS_ok (d:GDb) (hd:okDb d) (hs: ∀t∈d.fCat.fTables,t.fKeys.length≤1048576):VC Tryz.prog 154 [vDb d] [(false,[(.s,.sc (.bool (dbOk d)))])]:=by
 have hll:d.fCat.fTables.length≤9223372036854775807:=hd.1.1.1
 refine vc_of_ew good hm [0,1,2,18,21,22,23,24,4,3,36] Tryz.func154 rfl (by kernel_rfl) (by kernel_rfl) rfl ?_
 simp[Tryz.f154]
 refine .of (catOkS_ok d.fCat hd.1) ?_
 simp
 refine ⟨fun h=>by grind[dbOk],fun h1 h2=> ?_⟩
 refine ew_loop (fun E=> ∃i:Nat,i≤d.fCat.fTables.length∧dbTo d i=true∧E= {nt:=38,sl:= [(1,.p (.bx 1 0)),(21,vTableS d.fCat.fTables),(22,int .i64 d.fCat.fTables.length),(23,int .i64 i)],bx:= [(1,cDb d)],rt:= []}) (fun E=>d.fCat.fTables.length- (E.num 23).toNat) _ (Gh.kb _ [1,21,22,23] [1] []) ⟨0,by omega,by simp[dbTo],by simp⟩ ?_
 rintro E1 ⟨i,hi,hall,rfl⟩
 simp
 refine ⟨fun h=>⟨h,by omega,.of (rowsOkS_ok (d.fCat.fTables[i]?.getD dTable) (d.fData[i]?.getD dRows).fRows (hd.1.1.2 _ (getD_mem dTable h)) (hd.2.1.2 _ (getD_mem dRows (by omega))).1 (hs _ (getD_mem dTable h))) ?_⟩,fun h=> ?_⟩
 ·simp
  have hat:dbAt d i=rowsOk (d.fCat.fTables[i]?.getD dTable) (d.fData[i]?.getD dRows).fRows:=rfl
  refine ⟨fun hb=>by rw[dbOk_no h (hat.trans hb)],fun hb=> .of _ (Gh.kb _ [1,21,22,23] [1] []) ⟨i+1,by omega, ?_, ?_⟩ ?_⟩
  ·rw[dbTo,rangeAll_succ];unfold dbTo at hall;grind
  ·simp[wrapS (show i<9223372036854775807 by omega)]
  ·simp[wrapS (show i<9223372036854775807 by omega)];omega
 ·have:i=d.fCat.fTables.length:=by omega
  subst this
  grind[dbOk]
theorem dbOkI_ok (d:GDb) (hd:okDb d) (hs: ∀t∈d.fCat.fTables,t.fKeys.length≤1048576):VC Tryz.prog 158 [vDb d] [(false,[(.s,.sc (.bool (dbOk d)))])]:=by
 have hll:d.fCat.fTables.length≤9223372036854775807:=hd.1.1.1
 refine vc_of_ew good hm [0,1,2,18,21,22,23,24,4,3,36] Tryz.func158 rfl (by kernel_rfl) (by kernel_rfl) rfl ?_
 simp[Tryz.f158]
 refine .of (catOkI_ok d.fCat hd.1) ?_
 simp
 refine ⟨fun h=>by grind[dbOk],fun h1 h2=> ?_⟩
 refine ew_loop (fun E=> ∃i:Nat,i≤d.fCat.fTables.length∧dbTo d i=true∧E= {nt:=38,sl:= [(1,.p (.bx 1 0)),(21,vTableS d.fCat.fTables),(22,int .i64 d.fCat.fTables.length),(23,int .i64 i)],bx:= [(1,cDb d)],rt:= []}) (fun E=>d.fCat.fTables.length- (E.num 23).toNat) _ (Gh.kb _ [1,21,22,23] [1] []) ⟨0,by omega,by simp[dbTo],by simp⟩ ?_
 rintro E1 ⟨i,hi,hall,rfl⟩
 simp
 refine ⟨fun h=>⟨h,by omega,.of (rowsOkI_ok (d.fCat.fTables[i]?.getD dTable) (d.fData[i]?.getD dRows).fRows (hd.1.1.2 _ (getD_mem dTable h)) (hd.2.1.2 _ (getD_mem dRows (by omega))).1 (hs _ (getD_mem dTable h))) ?_⟩,fun h=> ?_⟩
 ·simp
  have hat:dbAt d i=rowsOk (d.fCat.fTables[i]?.getD dTable) (d.fData[i]?.getD dRows).fRows:=rfl
  refine ⟨fun hb=>by rw[dbOk_no h (hat.trans hb)],fun hb=> .of _ (Gh.kb _ [1,21,22,23] [1] []) ⟨i+1,by omega, ?_, ?_⟩ ?_⟩
  ·rw[dbTo,rangeAll_succ];unfold dbTo at hall;grind
  ·simp[wrapS (show i<9223372036854775807 by omega)]
  ·simp[wrapS (show i<9223372036854775807 by omega)];omega
 ·have:i=d.fCat.fTables.length:=by omega
  subst this
  grind[dbOk]
end Go.Proofs.YtanlbohhmoifcaaGreat
namespace Go.Proofs.YtanlbohhmoifcaaGreat
open Go Go.Proofs Go.Sm
attribute [local simp] ti eStr eInt eByte eVal vVal eCol vCol vColS vStrS eTable cTable vTable vTableS cCat vCat eValS vValS eRow cRow vRow vRowS eRows vRowsS cDb vDb eDdl cDdl vDdl eStmt cStmt vStmt eRec vRec eSlot vSlot eRecS vRecS eSlotS vSlotS vStmtS
set_option linter.unusedVariables false
set_option linter.unusedSimpArgs false
theorem tableOk_kcol {t:GTable} (h:tableOk t=true) {i:Nat} (hi:i<t.fKeys.length):0≤colAt t (t.fKeys[i]?.getD ⟨#[]⟩)∧colAt t (t.fKeys[i]?.getD ⟨#[]⟩)<t.fCols.length∧(t.fCols[(colAt t (t.fKeys[i]?.getD ⟨#[]⟩)).toNat]?.getD dCol).fNot=true:=by
 simp only[tableOk,keysTo,Bool.and_eq_true,List.all_eq_true,List.mem_range] at h
 have h1:=h.2.2 i hi
 have h2:=lastK_ge t i
 have hb:=idxF_bd (fun c:GCol=>c.fName.toList==(t.fKeys[i]?.getD ⟨#[]⟩).toList) t.fCols
 rw[show idxF (fun c:GCol=>c.fName.toList==(t.fKeys[i]?.getD ⟨#[]⟩).toList) t.fCols=colAt t (t.fKeys[i]?.getD ⟨#[]⟩) from rfl] at hb
 simp only[keyOkAt,Bool.and_eq_true,decide_eq_true_eq] at h1
 exact ⟨by omega,hb.2,h1.2⟩
def kcol (t:GTable) (i:Nat):GCol:=t.fCols[(colAt t (t.fKeys[i]?.getD ⟨#[]⟩)).toNat]?.getD dCol
def kvAt (t:GTable) (key:List GVal) (i:Nat):Bool:=valOk (key[i]?.getD dVal)&&decide ((key[i]?.getD dVal).fTy=(kcol t i).fTy)
def kvTo (t:GTable) (key:List GVal) (n:Nat):Bool:=(List.range n).all (kvAt t key)
def keyOk (t:GTable) (key:List GVal):Bool:=tableOk t&& (decide ((key.length:Int)=t.fKeys.length)&&kvTo t key t.fKeys.length)
theorem keyOk_no {t:GTable} {key:List GVal} {i:Nat} (hi:i<t.fKeys.length) (h:kvAt t key i=false):keyOk t key=false:=by
 simp[keyOk,kvTo,rangeAll_no hi h]
theorem kfits {t:GTable} (h:tableOk t=true) (key:List GVal) {i:Nat} (hi:i<t.fKeys.length):fits (kcol t i) (key[i]?.getD dVal)=kvAt t key i:=by
 obtain ⟨h1,h2,h3⟩:=tableOk_kcol h hi
 have h4:=tableOk_col h (i:=(colAt t (t.fKeys[i]?.getD ⟨#[]⟩)).toNat) (by omega)
 rw[show t.fCols[(colAt t (t.fKeys[i]?.getD ⟨#[]⟩)).toNat]?.getD dCol=kcol t i from rfl] at h3 h4
 have h5:1≤(kcol t i).fTy:=by
  simp only[colOk,within,Bool.and_eq_true,decide_eq_true_eq] at h4
  exact h4.1.2.1
 unfold fits kvAt
 split
 ·rename_i h6
  rw[h3,h6,decide_eq_false (show¬(0:Int)=(kcol t i).fTy by omega)]
  simp
 ·rfl
theorem keyOkI_ok (t:GTable) (key:List GVal) (ht:okTable t) (hk:okM key.length):VC Tryz.prog 252 [vTable t,vValS key] [(false,[(.s,.sc (.bool (keyOk t key)))])]:=by
 have hkl:t.fKeys.length≤9223372036854775807:=ht.2.2.1.1
 refine vc_of_ew good hm [0,1,2,4,17,19,20,21,22,5,6,47] Tryz.func252 rfl (by kernel_rfl) (by kernel_rfl) rfl ?_
 simp[Tryz.f252]
 refine .of (tableOkI_ok t ht) ?_
 simp
 refine ⟨fun h=>by grind[keyOk],fun h1 h2=> ?_⟩
 refine ew_loop (fun E=> ∃i:Nat,i≤t.fKeys.length∧kvTo t key i=true∧E= {nt:=49,sl:= [(1,vValS key),(2,.p (.bx 2 0)),(19,vStrS t.fKeys),(20,int .i64 t.fKeys.length),(21,int .i64 i)],bx:= [(2,cTable t)],rt:= []}) (fun E=>t.fKeys.length- (E.num 21).toNat) _ (Gh.kb _ [1,2,19,20,21] [2] []) ⟨0,by omega,by simp[kvTo],by simp⟩ ?_
 rintro E1 ⟨i,hi,hall,rfl⟩
 simp
 refine ⟨fun h=>⟨h,by omega,.of (valOkI_ok _) ?_⟩,fun h=> ?_⟩
 ·obtain ⟨b1,b2,b3⟩:=tableOk_kcol h1 h
  have hat:kvAt t key i=(valOk (key[i]?.getD dVal)&&decide ((key[i]?.getD dVal).fTy=(kcol t i).fTy)):=rfl
  simp[beqI]
  refine ⟨fun g=>⟨g,by omega⟩,.of (fun g=>⟨g,colAtI_ok t _ ht.2.1.1⟩) ?_⟩
  simp[beqI]
  rw[show t.fCols[(colAt t (t.fKeys[i]?.getD ⟨#[]⟩)).toNat]?.getD dCol=kcol t i from rfl]
  refine ⟨fun g=>⟨g,b1,b2⟩,fun hb=>keyOk_no h (by grind),fun g1 g2=> .of _ (Gh.kb _ [1,2,19,20,21] [2] []) ⟨i+1,by omega, ?_, ?_⟩ ?_⟩
  ·rw[kvTo,rangeAll_succ];unfold kvTo at hall;grind
  ·simp[wrapS (show i<9223372036854775807 by omega)]
  ·simp[wrapS (show i<9223372036854775807 by omega)];omega
 ·have:i=t.fKeys.length:=by omega
  subst this
  grind[keyOk]
theorem keyOkS_ok (t:GTable) (key:List GVal) (ht:okTable t) (hk:okM key.length):VC Tryz.prog 261 [vTable t,vValS key] [(false,[(.s,.sc (.bool (keyOk t key)))])]:=by
 have hkl:t.fKeys.length≤9223372036854775807:=ht.2.2.1.1
 refine vc_of_ew good hm [0,1,2,4,17,19,20,21,22,5,6,38] Tryz.func261 rfl (by kernel_rfl) (by kernel_rfl) rfl ?_
 simp[Tryz.f261]
 refine .of (tableOkS_ok t ht) ?_
 simp
 refine ⟨fun h=>by grind[keyOk],fun h1 h2=> ?_⟩
 refine ew_loop (fun E=> ∃i:Nat,i≤t.fKeys.length∧kvTo t key i=true∧E= {nt:=40,sl:= [(1,vValS key),(2,.p (.bx 2 0)),(19,vStrS t.fKeys),(20,int .i64 t.fKeys.length),(21,int .i64 i)],bx:= [(2,cTable t)],rt:= []}) (fun E=>t.fKeys.length- (E.num 21).toNat) _ (Gh.kb _ [1,2,19,20,21] [2] []) ⟨0,by omega,by simp[kvTo],by simp⟩ ?_
 rintro E1 ⟨i,hi,hall,rfl⟩
 simp
 refine ⟨fun h=>⟨h,.of (colAtS_ok t _ ht.2.1.1) ?_⟩,fun h=> ?_⟩
 ·obtain ⟨b1,b2,b3⟩:=tableOk_kcol h1 h
  simp
  refine ⟨⟨b1,b2⟩,by omega, ?_⟩
  rw[show t.fCols[(colAt t (t.fKeys[i]?.getD ⟨#[]⟩)).toNat]?.getD dCol=kcol t i from rfl]
  refine .of (fits_ok _ _) ?_
  simp
  rw[kfits h1 key h]
  refine ⟨fun hb=>keyOk_no h hb,fun g1=> .of _ (Gh.kb _ [1,2,19,20,21] [2] []) ⟨i+1,by omega, ?_, ?_⟩ ?_⟩
  ·rw[kvTo,rangeAll_succ];unfold kvTo at hall;grind
  ·simp[wrapS (show i<9223372036854775807 by omega)]
  ·simp[wrapS (show i<9223372036854775807 by omega)];omega
 ·have:i=t.fKeys.length:=by omega
  subst this
  grind[keyOk]
end Go.Proofs.YtanlbohhmoifcaaGreat
namespace Go.Proofs.YtanlbohhmoifcaaGreat
open Go Go.Proofs Go.Sm
attribute [local simp] ti eStr eInt eByte eVal vVal eCol vCol vColS vStrS eTable cTable vTable vTableS cCat vCat eValS vValS eRow cRow vRow vRowS eRows vRowsS cDb vDb eDdl cDdl vDdl eStmt cStmt vStmt eRec vRec eSlot vSlot eRecS vRecS eSlotS vSlotS vStmtS
set_option linter.unusedVariables false
set_option linter.unusedSimpArgs false
theorem bl_irrefl: ∀x:List UInt8,Op.bytesLess x x=false
 | []=>rfl
 |a::x=>by simp[Op.bytesLess,bl_irrefl x]
theorem bl_trans: ∀x y z:List UInt8,Op.bytesLess x y=true→Op.bytesLess y z=true→Op.bytesLess x z=true
 |_,[],_,h,_=>by simp[Op.bytesLess] at h
 |_,_::_,[],_,h=>by simp[Op.bytesLess] at h
 | [],_::_,_::_,_,_=>by simp[Op.bytesLess]
 |a::x,b::y,c::z,h1,h2=>by
  simp only[Op.bytesLess,Bool.or_eq_true,decide_eq_true_eq,Bool.and_eq_true,beq_iff_eq] at h1 h2⊢
  rcases h1 with h1|⟨rfl,h1⟩<;>rcases h2 with h2|⟨rfl,h2⟩
  ·left;simp only[UInt8.lt_iff_toNat_lt] at*;omega
  ·left;exact h1
  ·left;exact h2
  ·right;exact ⟨rfl,bl_trans x y z h1 h2⟩
theorem bl_total: ∀x y:List UInt8,x≠y→Op.bytesLess x y=true∨Op.bytesLess y x=true
 | [],[],h=>absurd rfl h
 |_::_,[],_=>by simp[Op.bytesLess]
 | [],_::_,_=>by simp[Op.bytesLess]
 |a::x,b::y,h=>by
  simp only[Op.bytesLess,Bool.or_eq_true,decide_eq_true_eq,Bool.and_eq_true,beq_iff_eq]
  by_cases hab:a=b
  ·subst hab
   have:=bl_total x y (fun e=>h (by rw[e]))
   rcases this with h|h<;>simp[h]
  ·have:a.toNat≠b.toNat:=fun e=>hab (UInt8.toNat_inj.1 e)
   simp only[UInt8.lt_iff_toNat_lt]
   omega
theorem bl_asymm {x y:List UInt8} (h:Op.bytesLess x y=true):Op.bytesLess y x=false:=by
 rw[Bool.eq_false_iff]
 intro h2
 have:=bl_trans _ _ _ h h2
 rw[bl_irrefl] at this
 cases this
theorem tl_inj {x y:ByteArray} (h:x.toList=y.toList):x=y:=by
 rw[Lib.toList_data,Lib.toList_data] at h
 exact ByteArray.ext (Array.toList_inj.1 h)
theorem veq_iff (x y:GVal):veq x y=true↔x=y:=by
 obtain ⟨a,b,c⟩:=x
 obtain ⟨a',b',c'⟩:=y
 simp only[veq,Bool.and_eq_true,beq_iff_eq,GVal.mk.injEq]
 exact ⟨fun ⟨h1,h2,h3⟩=>⟨h1,h2,tl_inj h3⟩,fun ⟨h1,h2,h3⟩=>⟨h1,h2,by rw[h3]⟩⟩
theorem vl_irrefl (x:GVal):valLess x x=false:=by simp[valLess,bl_irrefl]
theorem vl_trans {x y z:GVal} (h1:valLess x y=true) (h2:valLess y z=true):valLess x z=true:=by
 simp only[valLess,Bool.and_eq_true,Bool.or_eq_true,decide_eq_true_eq] at h1 h2⊢
 refine ⟨⟨h1.1.1,h2.1.2⟩, ?_⟩
 rcases h1.2 with a|⟨a,b|⟨b,c⟩⟩<;>rcases h2.2 with a'|⟨a',b'|⟨b',c'⟩⟩<;>try (left;omega)
 ·exact .inr ⟨by omega,.inl (by omega)⟩
 ·exact .inr ⟨by omega,.inl (by omega)⟩
 ·exact .inr ⟨by omega,.inl (by omega)⟩
 ·exact .inr ⟨by omega,.inr ⟨by omega,bl_trans _ _ _ c c'⟩⟩
theorem vl_total {x y:GVal} (hx:valOk x=true) (hy:valOk y=true) (h:x≠y):valLess x y=true∨valLess y x=true:=by
 simp only[valLess,hx,hy,Bool.and_eq_true,Bool.or_eq_true,decide_eq_true_eq,true_and]
 by_cases h1:x.fTy=y.fTy
 ·by_cases h2:x.fN=y.fN
  ·have h3:x.fS.toList≠y.fS.toList:=fun e=>h ((veq_iff x y).1 (by simp[veq,h1,h2,e]))
   rcases bl_total _ _ h3 with h4|h4<;>simp[h1,h2,h4]
  ·omega
 ·omega
theorem kl_same (x:GVal) (a b:List GVal):keyLess (x::a) (x::b)=keyLess a b:=by
 rw[keyLess,if_pos ((veq_iff x x).2 rfl)]
theorem kl_diff {x y:GVal} (h:x≠y) (a b:List GVal):keyLess (x::a) (y::b)=valLess x y:=by
 rw[keyLess,if_neg (fun e=>h ((veq_iff x y).1 e))]
theorem kl_irrefl: ∀a:List GVal,keyLess a a=false
 | []=>rfl
 |x::a=>by rw[kl_same,kl_irrefl a]
open Classical in
theorem kl_trans: ∀a b c:List GVal,keyLess a b=true→keyLess b c=true→keyLess a c=true
 | [],[],_,h,_=>by simp[keyLess] at h
 | [],_::_,[],_,h=>by simp[keyLess] at h
 | [],_::_,_::_,_,_=>by simp[keyLess]
 |_::_,[],_,h,_=>by simp[keyLess] at h
 |_::_,_::_,[],_,h=>by simp[keyLess] at h
 |x::a,y::b,z::c,h1,h2=>by
  by_cases e:x=y
  ·subst e
   rw[kl_same] at h1
   by_cases e:x=z
   ·subst e
    rw[kl_same] at h2⊢
    exact kl_trans a b c h1 h2
   ·rw[kl_diff e] at h2⊢
    exact h2
  ·rw[kl_diff e] at h1
   by_cases e2:y=z
   ·subst e2
    rw[kl_diff e]
    exact h1
   ·rw[kl_diff e2] at h2
    have h3:=vl_trans h1 h2
    rw[kl_diff (fun e=>by subst e;rw[vl_irrefl] at h3;cases h3)]
    exact h3
theorem kl_asymm {a b:List GVal} (h:keyLess a b=true):keyLess b a=false:=by
 rw[Bool.eq_false_iff]
 intro h2
 have:=kl_trans _ _ _ h h2
 rw[kl_irrefl] at this
 cases this
open Classical in
theorem kl_total: ∀a b:List GVal,a.length=b.length→(∀x∈a,valOk x=true)→(∀x∈b,valOk x=true)→a≠b→keyLess a b=true∨keyLess b a=true
 | [],[],_,_,_,h=>absurd rfl h
 | [],_::_,h,_,_,_=>by simp at h
 |_::_,[],h,_,_,_=>by simp at h
 |x::a,y::b,hl,ha,hb,h=>by
  by_cases e:x=y
  ·subst e
   rw[kl_same,kl_same]
   exact kl_total a b (by simpa using hl) (fun u hu=>ha u (by simp[hu])) (fun u hu=>hb u (by simp[hu])) (fun e=>h (by rw[e]))
  ·rw[kl_diff e,kl_diff (Ne.symm e)]
   exact vl_total (ha x (by simp)) (hb y (by simp)) e
theorem adj_pw {α:Type} (R:α→α→Bool) (tr: ∀a b c,R a b=true→R b c=true→R a c=true) (d:α): ∀l:List α,(∀i,i<l.length→0<i→R (l[i-1]?.getD d) (l[i]?.getD d)=true)↔l.Pairwise (fun a b=>R a b=true)
 | []=>by simp
 | [x]=>by
  simp only[List.length_cons,List.length_nil,List.pairwise_cons,List.not_mem_nil,false_imp_iff,implies_true,List.Pairwise.nil,and_self,iff_true]
  intro i h1 h2
  omega
 |x::y::l=>by
  have ih:=adj_pw R tr d (y::l)
  rw[List.pairwise_cons,←ih]
  constructor
  ·intro h
   have h2: ∀i,i< (y::l).length→0<i→R ((y::l)[i-1]?.getD d) ((y::l)[i]?.getD d)=true:=fun i h1 h0=>by
    have:=h (i+1) (by simp only[List.length_cons] at*;omega) (by omega)
    rw[show i+1-1=(i-1)+1 by omega,List.getElem?_cons_succ,List.getElem?_cons_succ] at this
    exact this
   refine ⟨?_,h2⟩
   have hp:=ih.1 h2
   have h01:R x y=true:=by simpa using h 1 (by simp) (by omega)
   intro z hz
   rcases List.mem_cons.1 hz with rfl|hz
   ·exact h01
   ·exact tr _ _ _ h01 ((List.pairwise_cons.1 hp).1 z hz)
  ·rintro ⟨h1,h2⟩ i hi h0
   rcases Nat.lt_or_ge 1 i with hlt|hge
   ·have:=h2 (i-1) (by simp only[List.length_cons] at*;omega) (by omega)
    obtain ⟨k,rfl⟩: ∃k,i=k+2:=⟨i-2,by omega⟩
    simpa using this
   ·have:i=1:=by omega
    subst this
    simpa using h1 y (by simp)
theorem all_iff {α:Type} (p:α→Bool) (d:α) (l:List α):(∀i,i<l.length→p (l[i]?.getD d)=true)↔ ∀x∈l,p x=true:=by
 constructor
 ·intro h x hx
  obtain ⟨i,hi,rfl⟩:=List.getElem_of_mem hx
  simpa [List.getElem?_eq_getElem hi] using h i hi
 ·intro h i hi
  exact h _ (getD_mem d hi)
def rowLt (t:GTable) (a b:GRow):Bool:=keyLess (keyOf t a) (keyOf t b)
theorem rowsOk_iff (t:GTable) (l:List GRow):rowsOk t l=true↔tableOk t=true∧l.length≤60∧(∀r∈l,rowFit t r=true)∧l.Pairwise (fun a b=>rowLt t a b=true):=by
 rw[←adj_pw (rowLt t) (fun a b c=>kl_trans _ _ _) dRow l,←all_iff (rowFit t) dRow l]
 simp only[rowsOk,rowsTo,rowsAt,Bool.and_eq_true,decide_eq_true_eq,List.all_eq_true,List.mem_range,Bool.not_eq_true',rowLt]
 constructor
 ·rintro ⟨h1,h2,h3⟩
  refine ⟨h1,by omega,fun i hi=>(h3 i hi).1,fun i hi h0=> ?_⟩
  have:=(h3 i hi).2
  simpa [h0] using this
 ·rintro ⟨h1,h2,h3,h4⟩
  refine ⟨h1,by omega,fun i hi=>⟨h3 i hi, ?_⟩⟩
  rcases Nat.eq_zero_or_pos i with rfl|h0
  ·simp
  ·simpa [h0] using h4 i hi h0
def tabLt (a b:GTable):Bool:=Op.bytesLess a.fName.toList b.fName.toList
theorem catOk_iff (c:GCat):catOk c=true↔ (∀t∈c.fTables,tableOk t=true)∧c.fTables.length≤6∧c.fTables.Pairwise (fun a b=>tabLt a b=true):=by
 rw[←adj_pw tabLt (fun a b c=>bl_trans _ _ _) dTable c.fTables,←all_iff tableOk dTable c.fTables]
 simp only[catOk,catTo,catAt,Bool.and_eq_true,decide_eq_true_eq,List.all_eq_true,List.mem_range,tabLt,geq]
 constructor
 ·rintro ⟨h1,h2⟩
  refine ⟨fun i hi=>(h1 i hi).1,by omega,fun i hi h0=> ?_⟩
  have:=(h1 i hi).2
  simpa [h0] using this
 ·rintro ⟨h1,h2,h3⟩
  refine ⟨fun i hi=>⟨h1 i hi, ?_⟩,by omega⟩
  rcases Nat.eq_zero_or_pos i with rfl|h0
  ·simp
  ·simpa [h0] using h3 i hi h0
theorem dbOk_iff (d:GDb):dbOk d=true↔catOk d.fCat=true∧d.fData.length=d.fCat.fTables.length∧ ∀i,i<d.fCat.fTables.length→rowsOk (d.fCat.fTables[i]?.getD dTable) (d.fData[i]?.getD dRows).fRows=true:=by
 simp only[dbOk,dbTo,dbAt,Bool.and_eq_true,decide_eq_true_eq,List.all_eq_true,List.mem_range]
 constructor
 ·rintro ⟨h1,h2,h3⟩
  exact ⟨h1,by omega,h3⟩
 ·rintro ⟨h1,h2,h3⟩
  exact ⟨h1,by omega,h3⟩
end Go.Proofs.YtanlbohhmoifcaaGreat
namespace Go.Proofs.YtanlbohhmoifcaaGreat
open Go Go.Proofs Go.Sm
attribute [local simp] ti eStr eInt eByte eVal vVal eCol vCol vColS vStrS eTable cTable vTable vTableS cCat vCat eValS vValS eRow cRow vRow vRowS eRows vRowsS cDb vDb eDdl cDdl vDdl eStmt cStmt vStmt eRec vRec eSlot vSlot eRecS vRecS eSlotS vSlotS vStmtS
set_option linter.unusedVariables false
set_option linter.unusedSimpArgs false
def cnm (l:List GCol):List ByteArray:=l.map (·.fName)
def pos (l:List ByteArray) (s:ByteArray):Nat:=l.findIdx (fun x=>x.toList==s.toList)
theorem tl_beq (x y:ByteArray):(x.toList==y.toList)=true↔x=y:=by
 simp only[beq_iff_eq]
 exact ⟨tl_inj,fun h=>by rw[h]⟩
theorem pos_cons (x:ByteArray) (l:List ByteArray) (s:ByteArray):pos (x::l) s=if x=s then 0 else pos l s+1:=by
 unfold pos
 rw[List.findIdx_cons]
 by_cases h:x=s
 ·rw[if_pos h,(tl_beq x s).2 h];rfl
 ·rw[if_neg h,Bool.eq_false_iff.2 (fun e=>h ((tl_beq x s).1 e))];rfl
theorem pos_lt {l:List ByteArray} {s:ByteArray} (h:s∈l):pos l s<l.length:=
 List.findIdx_lt_length_of_exists ⟨s,h,by simp⟩
theorem pos_get {l:List ByteArray} {s:ByteArray} (h:s∈l):l[pos l s]'(pos_lt h)=s:=by
 have:=List.findIdx_getElem (w:=pos_lt h) (p:=fun x:ByteArray=>x.toList==s.toList)
 exact (tl_beq _ _).1 this
theorem pos_at {l:List ByteArray} (hn:l.Nodup) {i:Nat} (hi:i<l.length):pos l l[i]=i:=by
 have h1:=pos_lt (List.getElem_mem hi)
 have h2:=pos_get (List.getElem_mem hi)
 exact (List.getElem_inj hn).1 h2
open Classical in
theorem colAt_eq (t:GTable) (s:ByteArray):colAt t s=if s∈cnm t.fCols then (pos (cnm t.fCols) s:Int) else-1:=by
 have h1:t.fCols.any (fun c:GCol=>c.fName.toList==s.toList)=true↔s∈cnm t.fCols:=by
  simp only[List.any_eq_true,cnm,List.mem_map,tl_beq]
 have h2:t.fCols.findIdx (fun c:GCol=>c.fName.toList==s.toList)=pos (cnm t.fCols) s:=by
  unfold pos cnm
  rw[List.findIdx_map]
  rfl
 unfold colAt idxF
 rw[h2]
 by_cases h:s∈cnm t.fCols
 ·rw[if_pos h,if_pos (h1.2 h)]
 ·rw[if_neg h,if_neg (fun e=>h (h1.1 e))]
theorem colAt_nn {t:GTable} {s:ByteArray}:0≤colAt t s↔s∈cnm t.fCols:=by
 rw[colAt_eq]
 split<;>rename_i h<;>simp[h]
theorem colAt_toNat {t:GTable} {s:ByteArray} (h:s∈cnm t.fCols):(colAt t s).toNat=pos (cnm t.fCols) s:=by
 rw[colAt_eq,if_pos h];rfl
theorem sub_pos: ∀ (l ks:List ByteArray),(∀k∈ks,k∈l)→ks.Pairwise (fun a b=>pos l a<pos l b)→ks.Sublist l
 |_,[],_,_=>List.nil_sublist _
 | [],k::_,h,_=>by have:=h k (by simp);cases this
 |x::l,k::ks,h,hp=>by
  rw[List.pairwise_cons] at hp
  have hge: ∀a∈ks,a≠x:=fun a ha e=>by
   have:=hp.1 a ha
   rw[pos_cons x l a,if_pos e.symm] at this
   omega
  have hks: ∀a∈ks,a∈l:=fun a ha=>by
   rcases List.mem_cons.1 (h a (by simp[ha])) with e|e
   ·exact absurd e (hge a ha)
   ·exact e
  have hpw:ks.Pairwise (fun a b=>pos l a<pos l b):=by
   refine List.Pairwise.imp_of_mem (fun {a b} ha hb hab=> ?_) hp.2
   rw[pos_cons,pos_cons,if_neg (Ne.symm (hge a ha)),if_neg (Ne.symm (hge b hb))] at hab
   omega
  by_cases hk:x=k
  ·subst hk
   exact (sub_pos l ks hks hpw).cons_cons _
  ·refine (sub_pos l (k::ks) (fun a ha=> ?_) ?_).cons _
   ·rcases List.mem_cons.1 ha with rfl|ha
    ·rcases List.mem_cons.1 (h a (by simp)) with e|e
     ·exact absurd e.symm hk
     ·exact e
    ·exact hks a ha
   ·refine List.pairwise_cons.2 ⟨fun a ha=> ?_,hpw⟩
    have:=hp.1 a ha
    rw[pos_cons,pos_cons,if_neg hk,if_neg (Ne.symm (hge a ha))] at this
    omega
theorem pos_sub {l ks:List ByteArray} (hn:l.Nodup) (h:ks.Sublist l):ks.Pairwise (fun a b=>pos l a<pos l b):=by
 refine List.Pairwise.sublist h (List.pairwise_iff_getElem.2 fun i j hi hj hij=> ?_)
 rw[pos_at hn hi,pos_at hn hj]
 exact hij
theorem colsTo_iff (t:GTable):colsTo t t.fCols.length=true↔ (∀c∈t.fCols,colOk c=true)∧(cnm t.fCols).Nodup:=by
 rw[←all_iff colOk dCol t.fCols]
 simp only[colsTo,colsOkAt,List.all_eq_true,List.mem_range,Bool.and_eq_true,decide_eq_true_eq]
 have hl:(cnm t.fCols).length=t.fCols.length:=by simp[cnm]
 have hg: ∀i (hi:i<t.fCols.length),(t.fCols[i]?.getD dCol).fName=(cnm t.fCols)[i]'(by omega):=fun i hi=>by simp[cnm,List.getElem?_eq_getElem hi]
 constructor
 ·intro h
  refine ⟨fun i hi=>(h i hi).1,List.pairwise_iff_getElem.2 fun i j hi hj hij e=> ?_⟩
  have h1:=(h i (by omega)).2
  have h2:=(h j (by omega)).2
  rw[hg i (by omega)] at h1
  rw[hg j (by omega),←e,h1] at h2
  omega
 ·rintro ⟨h1,h2⟩ i hi
  refine ⟨h1 i hi, ?_⟩
  rw[hg i hi,colAt_eq,if_pos (List.getElem_mem _),pos_at h2]
theorem keysTo_iff (t:GTable) (hn:(cnm t.fCols).Nodup):keysTo t t.fKeys.length=true↔t.fKeys.Sublist (cnm t.fCols)∧ ∀c∈t.fCols,c.fName∈t.fKeys→c.fNot=true:=by
 have hl:(cnm t.fCols).length=t.fCols.length:=by simp[cnm]
 simp only[keysTo,keyOkAt,List.all_eq_true,List.mem_range,Bool.and_eq_true,decide_eq_true_eq]
 have hcol: ∀c∈t.fCols,t.fCols[(colAt t c.fName).toNat]?.getD dCol=c:=fun c hc=>by
  obtain ⟨i,hi,rfl⟩:=List.getElem_of_mem hc
  have hm:t.fCols[i].fName∈cnm t.fCols:=List.mem_map.2 ⟨_,hc,rfl⟩
  have h2:pos (cnm t.fCols) t.fCols[i].fName=i:=by
   have:=pos_at hn (i:=i) (by omega)
   simpa [cnm] using this
  rw[colAt_toNat hm,h2,List.getElem?_eq_getElem hi]
  rfl
 constructor
 ·intro h
  have hnn: ∀i,i<t.fKeys.length→0≤colAt t (t.fKeys[i]?.getD ⟨#[]⟩):=fun i hi=>by
   have h1:=(h i hi).1
   have h2:=lastK_ge t i
   omega
  have hmem: ∀k∈t.fKeys,k∈cnm t.fCols:=fun k hk=>by
   obtain ⟨i,hi,rfl⟩:=List.getElem_of_mem hk
   have:=hnn i hi
   rw[List.getElem?_eq_getElem hi] at this
   exact colAt_nn.1 this
  refine ⟨sub_pos _ _ hmem ?_,fun c hc hk=> ?_⟩
  ·have h1:=(adj_pw (fun a b=>decide (colAt t a<colAt t b)) (fun a b c h1 h2=>by simp only[decide_eq_true_eq] at*;omega) (⟨#[]⟩:ByteArray) t.fKeys).1 (fun i hi h0=>by
    have:=(h i hi).1
    rw[lastK,if_neg (by omega)] at this
    simpa using this)
   refine List.Pairwise.imp_of_mem (fun {a b} ha hb hab=> ?_) h1
   rw[decide_eq_true_eq,colAt_eq,colAt_eq,if_pos (hmem a ha),if_pos (hmem b hb)] at hab
   omega
  ·obtain ⟨i,hi,he⟩:=List.getElem_of_mem hk
   have:=(h i hi).2
   rw[List.getElem?_eq_getElem hi,Option.getD_some,he,hcol c hc] at this
   exact this
 ·rintro ⟨hs,hnot⟩ i hi
  have hmem: ∀k∈t.fKeys,k∈cnm t.fCols:=fun k hk=>hs.subset hk
  have hki:t.fKeys[i]?.getD ⟨#[]⟩∈t.fKeys:=getD_mem _ hi
  refine ⟨?_, ?_⟩
  ·unfold lastK
   split
   ·have:=colAt_nn.2 (hmem _ hki)
    omega
   ·have hkj:t.fKeys[i-1]?.getD ⟨#[]⟩∈t.fKeys:=getD_mem _ (by omega)
    have h1:=List.pairwise_iff_getElem.1 (pos_sub hn hs) (i-1) i (by omega) hi (by omega)
    rw[colAt_eq,colAt_eq,if_pos (hmem _ hki),if_pos (hmem _ hkj),List.getElem?_eq_getElem hi,List.getElem?_eq_getElem (show i-1<t.fKeys.length by omega)]
    simp only[Option.getD_some]
    omega
  ·obtain ⟨c,hc,he⟩:=List.mem_map.1 (hmem _ hki)
   have:=hnot c hc (by rw[he];exact hki)
   rw[←he,hcol c hc]
   exact this
theorem tableOk_iff (t:GTable):tableOk t=true↔wordOk t.fName=true∧1≤t.fCols.length∧t.fCols.length≤8∧t.fKeys≠ []∧(∀c∈t.fCols,colOk c=true)∧(cnm t.fCols).Nodup∧t.fKeys.Sublist (cnm t.fCols)∧ ∀c∈t.fCols,c.fName∈t.fKeys→c.fNot=true:=by
 simp only[tableOk,within,Bool.and_eq_true,decide_eq_true_eq,colsTo_iff]
 constructor
 ·rintro ⟨⟨h1,h2,h3⟩,⟨h4,h5⟩,h6⟩
  refine ⟨h1,by omega,by omega,fun e=>by simp[e] at h3,h4,h5,(keysTo_iff t h5).1 h6⟩
 ·rintro ⟨h1,h2,h3,h4,h5,h6,h7⟩
  refine ⟨⟨h1,by omega,List.length_pos_iff.2 h4⟩,⟨h5,h6⟩,(keysTo_iff t h6).2 h7⟩
theorem rowFit_iff (t:GTable) (r:GRow):rowFit t r=true↔r.fVals.length=t.fCols.length∧ ∀i,i<t.fCols.length→stands (t.fCols[i]?.getD dCol) (r.fVals[i]?.getD dVal)=true:=by
 simp only[rowFit,rowTo,rowAt,Bool.and_eq_true,decide_eq_true_eq,List.all_eq_true,List.mem_range]
 constructor
 ·rintro ⟨h1,h2⟩
  exact ⟨h1,fun i hi=>h2 i (by omega)⟩
 ·rintro ⟨h1,h2⟩
  exact ⟨h1,fun i hi=>h2 i (by omega)⟩
theorem stands_valOk {c:GCol} {v:GVal} (h:stands c v=true):valOk v=true:=by
 simp only[stands,Bool.and_eq_true] at h
 exact h.1
theorem rowFit_vals {t:GTable} {r:GRow} (h:rowFit t r=true): ∀v∈r.fVals,valOk v=true:=by
 rw[rowFit_iff] at h
 intro v hv
 obtain ⟨i,hi,rfl⟩:=List.getElem_of_mem hv
 have:=stands_valOk (h.2 i (by omega))
 rwa [List.getElem?_eq_getElem hi] at this
theorem valOk_d:valOk dVal=true:=by simp[valOk,dVal,em]
theorem key_vals {t:GTable} {r:GRow} (h:rowFit t r=true): ∀v∈keyOf t r,valOk v=true:=by
 intro v hv
 obtain ⟨k,_,rfl⟩:=List.mem_map.1 hv
 cases hx:r.fVals[(colAt t k).toNat]? with
 |none=>exact valOk_d
 |some x=>exact rowFit_vals h x (List.mem_of_getElem? hx)
theorem rowLt_total {t:GTable} {a b:GRow} (ha:rowFit t a=true) (hb:rowFit t b=true) (h:keyOf t a≠keyOf t b):rowLt t a b=true∨rowLt t b a=true:=
 kl_total _ _ (by rw[keyOf_len,keyOf_len]) (key_vals ha) (key_vals hb) h
theorem rowLt_asymm {t:GTable} {a b:GRow} (h:rowLt t a b=true):rowLt t b a=false:=kl_asymm h
theorem rowLt_trans {t:GTable} {a b c:GRow} (h:rowLt t a b=true) (h2:rowLt t b c=true):rowLt t a c=true:=kl_trans _ _ _ h h2
end Go.Proofs.YtanlbohhmoifcaaGreat
