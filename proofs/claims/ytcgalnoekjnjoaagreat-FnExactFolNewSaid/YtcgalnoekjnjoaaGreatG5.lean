import Derived.Test.YtcgalnoekjnjoaaGreatG4
import Derived.Test.YtcgalnoekjnjoaaGreatProg
import Derived.KernelRfl
set_option maxHeartbeats 8000000
set_option maxRecDepth 8000
namespace Go.Proofs.YtcgalnoekjnjoaaGreat
open Go Go.Proofs Go.Sm
def ti:TT
 |2=> {ok:=true,desc:= .int .i64,sz:=1,by_:=8,zv:= .int .i64 0,z:= [.sc (.int .i64 0)]}
 |3=> {ok:=true,desc:= .int .i64,sz:=1,by_:=8,zv:= .int .i64 0,z:= [.sc (.int .i64 0)]}
 |4=> {ok:=true,desc:= .bool,sz:=1,by_:=1,zv:= .bool false,z:= [.sc (.bool false)]}
 |5=> {ok:=true,desc:= .int .u8,sz:=1,by_:=1,zv:= .int .u8 0,z:= [.sc (.int .u8 0)]}
 |9=> {ok:=true,desc:= .string,sz:=1,by_:=16,zv:= .string ⟨#[]⟩,z:= [.sc (.string ⟨#[]⟩)]}
 |21=> {ok:=true,desc:= .int .i32,sz:=1,by_:=4,zv:= .int .i32 0,z:= [.sc (.int .i32 0)]}
 |22=> {ok:=true,desc:= .slice 302,sz:=1,by_:=24,zv:= .slice none 0 0,z:= [.ls [.sc (.string ⟨#[]⟩),.ls [.sc (.string ⟨#[]⟩),.sc (.int .i64 0),.sc (.bool false),.sc (.bool false),.sc (.int .i64 0),.sc (.int .i64 0),.sc (.string ⟨#[]⟩)] [],.ls [.sc (.string ⟨#[]⟩)] []] []],ms:= [.o 302 (fun _=> [.s,.o 339 (fun _=> [.s,.s,.s,.s,.s,.s,.s]),.o 9 (fun _=> [.s])])]}
 |24=> {ok:=true,desc:= .struct #[fld "Tables" 22 0 0 ""],sz:=1,by_:=24,zv:= .agg #[.slice none 0 0],z:= [.ls [.sc (.string ⟨#[]⟩),.ls [.sc (.string ⟨#[]⟩),.sc (.int .i64 0),.sc (.bool false),.sc (.bool false),.sc (.int .i64 0),.sc (.int .i64 0),.sc (.string ⟨#[]⟩)] [],.ls [.sc (.string ⟨#[]⟩)] []] []],ms:= [.o 302 (fun _=> [.s,.o 339 (fun _=> [.s,.s,.s,.s,.s,.s,.s]),.o 9 (fun _=> [.s])])]}
 |25=> {ok:=true,desc:= .slice 241,sz:=1,by_:=24,zv:= .slice none 0 0,z:= [.ls [.ls [.ls [.sc (.int .i64 0),.sc (.int .i64 0),.sc (.string ⟨#[]⟩)] []] []] []],ms:= [.o 241 (fun _=> [.o 63 (fun _=> [.o 311 (fun _=> [.s,.s,.s])])])]}
 |27=> {ok:=true,desc:= .struct #[fld "Cat" 24 0 0 "",fld "Data" 25 1 24 ""],sz:=2,by_:=48,zv:= .agg #[.slice none 0 0,.slice none 0 0],z:= [.ls [.sc (.string ⟨#[]⟩),.ls [.sc (.string ⟨#[]⟩),.sc (.int .i64 0),.sc (.bool false),.sc (.bool false),.sc (.int .i64 0),.sc (.int .i64 0),.sc (.string ⟨#[]⟩)] [],.ls [.sc (.string ⟨#[]⟩)] []] [],.ls [.ls [.ls [.sc (.int .i64 0),.sc (.int .i64 0),.sc (.string ⟨#[]⟩)] []] []] []],ms:= [.o 302 (fun _=> [.s,.o 339 (fun _=> [.s,.s,.s,.s,.s,.s,.s]),.o 9 (fun _=> [.s])]),.o 241 (fun _=> [.o 63 (fun _=> [.o 311 (fun _=> [.s,.s,.s])])])]}
 |28=> {ok:=true,desc:= .slice 216,sz:=1,by_:=24,zv:= .slice none 0 0,z:= [.ls [.sc (.int .i64 0),.sc (.int .i64 0),.sc (.int .i64 0),.sc (.string ⟨#[]⟩),.ls [.sc (.int .i64 0),.sc (.int .i64 0),.sc (.string ⟨#[]⟩)] [],.ls [.sc (.int .i64 0),.sc (.int .i64 0),.sc (.string ⟨#[]⟩)] [],.sc (.int .i64 0),.sc (.string ⟨#[]⟩),.ls [.sc (.string ⟨#[]⟩),.sc (.int .i64 0),.sc (.bool false),.sc (.bool false),.sc (.int .i64 0),.sc (.int .i64 0),.sc (.string ⟨#[]⟩)] [],.ls [.sc (.string ⟨#[]⟩)] [],.sc (.string ⟨#[]⟩),.sc (.string ⟨#[]⟩)] []],ms:= [.o 216 (fun _=> [.s,.s,.s,.s,.o 311 (fun _=> [.s,.s,.s]),.o 311 (fun _=> [.s,.s,.s]),.s,.s,.o 339 (fun _=> [.s,.s,.s,.s,.s,.s,.s]),.o 9 (fun _=> [.s]),.s,.s])]}
 |30=> {ok:=true,desc:= .struct #[fld "Base" 3 0 0 "",fld "Db" 27 1 8 "",fld "Recs" 28 3 56 ""],sz:=4,by_:=80,zv:= .agg #[.int .i64 0,.slice none 0 0,.slice none 0 0,.slice none 0 0],z:= [.sc (.int .i64 0),.ls [.sc (.string ⟨#[]⟩),.ls [.sc (.string ⟨#[]⟩),.sc (.int .i64 0),.sc (.bool false),.sc (.bool false),.sc (.int .i64 0),.sc (.int .i64 0),.sc (.string ⟨#[]⟩)] [],.ls [.sc (.string ⟨#[]⟩)] []] [],.ls [.ls [.ls [.sc (.int .i64 0),.sc (.int .i64 0),.sc (.string ⟨#[]⟩)] []] []] [],.ls [.sc (.int .i64 0),.sc (.int .i64 0),.sc (.int .i64 0),.sc (.string ⟨#[]⟩),.ls [.sc (.int .i64 0),.sc (.int .i64 0),.sc (.string ⟨#[]⟩)] [],.ls [.sc (.int .i64 0),.sc (.int .i64 0),.sc (.string ⟨#[]⟩)] [],.sc (.int .i64 0),.sc (.string ⟨#[]⟩),.ls [.sc (.string ⟨#[]⟩),.sc (.int .i64 0),.sc (.bool false),.sc (.bool false),.sc (.int .i64 0),.sc (.int .i64 0),.sc (.string ⟨#[]⟩)] [],.ls [.sc (.string ⟨#[]⟩)] [],.sc (.string ⟨#[]⟩),.sc (.string ⟨#[]⟩)] []],ms:= [.s,.o 302 (fun _=> [.s,.o 339 (fun _=> [.s,.s,.s,.s,.s,.s,.s]),.o 9 (fun _=> [.s])]),.o 241 (fun _=> [.o 63 (fun _=> [.o 311 (fun _=> [.s,.s,.s])])]),.o 216 (fun _=> [.s,.s,.s,.s,.o 311 (fun _=> [.s,.s,.s]),.o 311 (fun _=> [.s,.s,.s]),.s,.s,.o 339 (fun _=> [.s,.s,.s,.s,.s,.s,.s]),.o 9 (fun _=> [.s]),.s,.s])]}
 |33=> {ok:=true,desc:= .slice 162,sz:=1,by_:=24,zv:= .slice none 0 0,z:= [.ls [.sc (.string ⟨#[]⟩),.ls [.sc (.string ⟨#[]⟩),.sc (.int .i64 0),.sc (.bool false),.sc (.bool false),.sc (.int .i64 0),.sc (.int .i64 0),.sc (.string ⟨#[]⟩)] [],.ls [.sc (.string ⟨#[]⟩)] []] []],ms:= [.o 162 (fun _=> [.s,.o 168 (fun _=> [.s,.s,.s,.s,.s,.s,.s]),.o 9 (fun _=> [.s])])]}
 |35=> {ok:=true,desc:= .struct #[fld "Tables" 33 0 0 ""],sz:=1,by_:=24,zv:= .agg #[.slice none 0 0],z:= [.ls [.sc (.string ⟨#[]⟩),.ls [.sc (.string ⟨#[]⟩),.sc (.int .i64 0),.sc (.bool false),.sc (.bool false),.sc (.int .i64 0),.sc (.int .i64 0),.sc (.string ⟨#[]⟩)] [],.ls [.sc (.string ⟨#[]⟩)] []] []],ms:= [.o 162 (fun _=> [.s,.o 168 (fun _=> [.s,.s,.s,.s,.s,.s,.s]),.o 9 (fun _=> [.s])])]}
 |36=> {ok:=true,desc:= .slice 171,sz:=1,by_:=24,zv:= .slice none 0 0,z:= [.ls [.ls [.ls [.sc (.int .i64 0),.sc (.int .i64 0),.sc (.string ⟨#[]⟩)] []] []] []],ms:= [.o 171 (fun _=> [.o 75 (fun _=> [.o 166 (fun _=> [.s,.s,.s])])])]}
 |38=> {ok:=true,desc:= .struct #[fld "Cat" 35 0 0 "",fld "Data" 36 1 24 ""],sz:=2,by_:=48,zv:= .agg #[.slice none 0 0,.slice none 0 0],z:= [.ls [.sc (.string ⟨#[]⟩),.ls [.sc (.string ⟨#[]⟩),.sc (.int .i64 0),.sc (.bool false),.sc (.bool false),.sc (.int .i64 0),.sc (.int .i64 0),.sc (.string ⟨#[]⟩)] [],.ls [.sc (.string ⟨#[]⟩)] []] [],.ls [.ls [.ls [.sc (.int .i64 0),.sc (.int .i64 0),.sc (.string ⟨#[]⟩)] []] []] []],ms:= [.o 162 (fun _=> [.s,.o 168 (fun _=> [.s,.s,.s,.s,.s,.s,.s]),.o 9 (fun _=> [.s])]),.o 171 (fun _=> [.o 75 (fun _=> [.o 166 (fun _=> [.s,.s,.s])])])]}
 |39=> {ok:=true,desc:= .slice 219,sz:=1,by_:=24,zv:= .slice none 0 0,z:= [.ls [.sc (.int .i64 0),.sc (.int .i64 0),.sc (.int .i64 0),.sc (.string ⟨#[]⟩),.ls [.sc (.int .i64 0),.sc (.int .i64 0),.sc (.string ⟨#[]⟩)] [],.ls [.sc (.int .i64 0),.sc (.int .i64 0),.sc (.string ⟨#[]⟩)] [],.sc (.int .i64 0),.sc (.string ⟨#[]⟩),.ls [.sc (.string ⟨#[]⟩),.sc (.int .i64 0),.sc (.bool false),.sc (.bool false),.sc (.int .i64 0),.sc (.int .i64 0),.sc (.string ⟨#[]⟩)] [],.ls [.sc (.string ⟨#[]⟩)] [],.sc (.string ⟨#[]⟩),.sc (.string ⟨#[]⟩)] []],ms:= [.o 219 (fun _=> [.s,.s,.s,.s,.o 166 (fun _=> [.s,.s,.s]),.o 166 (fun _=> [.s,.s,.s]),.s,.s,.o 168 (fun _=> [.s,.s,.s,.s,.s,.s,.s]),.o 9 (fun _=> [.s]),.s,.s])]}
 |41=> {ok:=true,desc:= .struct #[fld "Base" 3 0 0 "",fld "Db" 38 1 8 "",fld "Recs" 39 3 56 ""],sz:=4,by_:=80,zv:= .agg #[.int .i64 0,.slice none 0 0,.slice none 0 0,.slice none 0 0],z:= [.sc (.int .i64 0),.ls [.sc (.string ⟨#[]⟩),.ls [.sc (.string ⟨#[]⟩),.sc (.int .i64 0),.sc (.bool false),.sc (.bool false),.sc (.int .i64 0),.sc (.int .i64 0),.sc (.string ⟨#[]⟩)] [],.ls [.sc (.string ⟨#[]⟩)] []] [],.ls [.ls [.ls [.sc (.int .i64 0),.sc (.int .i64 0),.sc (.string ⟨#[]⟩)] []] []] [],.ls [.sc (.int .i64 0),.sc (.int .i64 0),.sc (.int .i64 0),.sc (.string ⟨#[]⟩),.ls [.sc (.int .i64 0),.sc (.int .i64 0),.sc (.string ⟨#[]⟩)] [],.ls [.sc (.int .i64 0),.sc (.int .i64 0),.sc (.string ⟨#[]⟩)] [],.sc (.int .i64 0),.sc (.string ⟨#[]⟩),.ls [.sc (.string ⟨#[]⟩),.sc (.int .i64 0),.sc (.bool false),.sc (.bool false),.sc (.int .i64 0),.sc (.int .i64 0),.sc (.string ⟨#[]⟩)] [],.ls [.sc (.string ⟨#[]⟩)] [],.sc (.string ⟨#[]⟩),.sc (.string ⟨#[]⟩)] []],ms:= [.s,.o 162 (fun _=> [.s,.o 168 (fun _=> [.s,.s,.s,.s,.s,.s,.s]),.o 9 (fun _=> [.s])]),.o 171 (fun _=> [.o 75 (fun _=> [.o 166 (fun _=> [.s,.s,.s])])]),.o 219 (fun _=> [.s,.s,.s,.s,.o 166 (fun _=> [.s,.s,.s]),.o 166 (fun _=> [.s,.s,.s]),.s,.s,.o 168 (fun _=> [.s,.s,.s,.s,.s,.s,.s]),.o 9 (fun _=> [.s]),.s,.s])]}
 |46=> {ok:=true,desc:= .struct #[fld "Lsn" 3 0 0 "",fld "Db" 27 1 8 ""],sz:=3,by_:=56,zv:= .agg #[.int .i64 0,.slice none 0 0,.slice none 0 0],z:= [.sc (.int .i64 0),.ls [.sc (.string ⟨#[]⟩),.ls [.sc (.string ⟨#[]⟩),.sc (.int .i64 0),.sc (.bool false),.sc (.bool false),.sc (.int .i64 0),.sc (.int .i64 0),.sc (.string ⟨#[]⟩)] [],.ls [.sc (.string ⟨#[]⟩)] []] [],.ls [.ls [.ls [.sc (.int .i64 0),.sc (.int .i64 0),.sc (.string ⟨#[]⟩)] []] []] []],ms:= [.s,.o 302 (fun _=> [.s,.o 339 (fun _=> [.s,.s,.s,.s,.s,.s,.s]),.o 9 (fun _=> [.s])]),.o 241 (fun _=> [.o 63 (fun _=> [.o 311 (fun _=> [.s,.s,.s])])])]}
 |50=> {ok:=true,desc:= .struct #[fld "Lsn" 3 0 0 "",fld "Db" 38 1 8 ""],sz:=3,by_:=56,zv:= .agg #[.int .i64 0,.slice none 0 0,.slice none 0 0],z:= [.sc (.int .i64 0),.ls [.sc (.string ⟨#[]⟩),.ls [.sc (.string ⟨#[]⟩),.sc (.int .i64 0),.sc (.bool false),.sc (.bool false),.sc (.int .i64 0),.sc (.int .i64 0),.sc (.string ⟨#[]⟩)] [],.ls [.sc (.string ⟨#[]⟩)] []] [],.ls [.ls [.ls [.sc (.int .i64 0),.sc (.int .i64 0),.sc (.string ⟨#[]⟩)] []] []] []],ms:= [.s,.o 162 (fun _=> [.s,.o 168 (fun _=> [.s,.s,.s,.s,.s,.s,.s]),.o 9 (fun _=> [.s])]),.o 171 (fun _=> [.o 75 (fun _=> [.o 166 (fun _=> [.s,.s,.s])])])]}
 |61=> {ok:=true,desc:= .slice 311,sz:=1,by_:=24,zv:= .slice none 0 0,z:= [.ls [.sc (.int .i64 0),.sc (.int .i64 0),.sc (.string ⟨#[]⟩)] []],ms:= [.o 311 (fun _=> [.s,.s,.s])]}
 |63=> {ok:=true,desc:= .struct #[fld "Vals" 61 0 0 ""],sz:=1,by_:=24,zv:= .agg #[.slice none 0 0],z:= [.ls [.sc (.int .i64 0),.sc (.int .i64 0),.sc (.string ⟨#[]⟩)] []],ms:= [.o 311 (fun _=> [.s,.s,.s])]}
 |64=> {ok:=true,desc:= .slice 339,sz:=1,by_:=24,zv:= .slice none 0 0,z:= [.ls [.sc (.string ⟨#[]⟩),.sc (.int .i64 0),.sc (.bool false),.sc (.bool false),.sc (.int .i64 0),.sc (.int .i64 0),.sc (.string ⟨#[]⟩)] []],ms:= [.o 339 (fun _=> [.s,.s,.s,.s,.s,.s,.s])]}
 |65=> {ok:=true,desc:= .slice 9,sz:=1,by_:=24,zv:= .slice none 0 0,z:= [.ls [.sc (.string ⟨#[]⟩)] []],ms:= [.o 9 (fun _=> [.s])]}
 |67=> {ok:=true,desc:= .struct #[fld "Kind" 3 0 0 "",fld "Table" 9 1 8 "",fld "Cols" 64 2 24 "",fld "Keys" 65 3 48 "",fld "Name" 9 4 72 "",fld "To" 9 5 88 ""],sz:=6,by_:=104,zv:= .agg #[.int .i64 0,.string ⟨#[]⟩,.slice none 0 0,.slice none 0 0,.string ⟨#[]⟩,.string ⟨#[]⟩],z:= [.sc (.int .i64 0),.sc (.string ⟨#[]⟩),.ls [.sc (.string ⟨#[]⟩),.sc (.int .i64 0),.sc (.bool false),.sc (.bool false),.sc (.int .i64 0),.sc (.int .i64 0),.sc (.string ⟨#[]⟩)] [],.ls [.sc (.string ⟨#[]⟩)] [],.sc (.string ⟨#[]⟩),.sc (.string ⟨#[]⟩)],ms:= [.s,.s,.o 339 (fun _=> [.s,.s,.s,.s,.s,.s,.s]),.o 9 (fun _=> [.s]),.s,.s]}
 |69=> {ok:=true,desc:= .struct #[fld "Kind" 3 0 0 "",fld "Table" 9 1 8 "",fld "Key" 61 2 24 "",fld "Row" 63 3 48 "",fld "Ddl" 67 4 72 ""],sz:=10,by_:=176,zv:= .agg #[.int .i64 0,.string ⟨#[]⟩,.slice none 0 0,.slice none 0 0,.int .i64 0,.string ⟨#[]⟩,.slice none 0 0,.slice none 0 0,.string ⟨#[]⟩,.string ⟨#[]⟩],z:= [.sc (.int .i64 0),.sc (.string ⟨#[]⟩),.ls [.sc (.int .i64 0),.sc (.int .i64 0),.sc (.string ⟨#[]⟩)] [],.ls [.sc (.int .i64 0),.sc (.int .i64 0),.sc (.string ⟨#[]⟩)] [],.sc (.int .i64 0),.sc (.string ⟨#[]⟩),.ls [.sc (.string ⟨#[]⟩),.sc (.int .i64 0),.sc (.bool false),.sc (.bool false),.sc (.int .i64 0),.sc (.int .i64 0),.sc (.string ⟨#[]⟩)] [],.ls [.sc (.string ⟨#[]⟩)] [],.sc (.string ⟨#[]⟩),.sc (.string ⟨#[]⟩)],ms:= [.s,.s,.o 311 (fun _=> [.s,.s,.s]),.o 311 (fun _=> [.s,.s,.s]),.s,.s,.o 339 (fun _=> [.s,.s,.s,.s,.s,.s,.s]),.o 9 (fun _=> [.s]),.s,.s]}
 |71=> {ok:=true,desc:= .struct #[fld "Stmt" 69 0 0 "",fld "Cols" 65 10 176 "",fld "Keys" 65 11 200 ""],sz:=12,by_:=224,zv:= .agg #[.int .i64 0,.string ⟨#[]⟩,.slice none 0 0,.slice none 0 0,.int .i64 0,.string ⟨#[]⟩,.slice none 0 0,.slice none 0 0,.string ⟨#[]⟩,.string ⟨#[]⟩,.slice none 0 0,.slice none 0 0],z:= [.sc (.int .i64 0),.sc (.string ⟨#[]⟩),.ls [.sc (.int .i64 0),.sc (.int .i64 0),.sc (.string ⟨#[]⟩)] [],.ls [.sc (.int .i64 0),.sc (.int .i64 0),.sc (.string ⟨#[]⟩)] [],.sc (.int .i64 0),.sc (.string ⟨#[]⟩),.ls [.sc (.string ⟨#[]⟩),.sc (.int .i64 0),.sc (.bool false),.sc (.bool false),.sc (.int .i64 0),.sc (.int .i64 0),.sc (.string ⟨#[]⟩)] [],.ls [.sc (.string ⟨#[]⟩)] [],.sc (.string ⟨#[]⟩),.sc (.string ⟨#[]⟩),.ls [.sc (.string ⟨#[]⟩)] [],.ls [.sc (.string ⟨#[]⟩)] []],ms:= [.s,.s,.o 311 (fun _=> [.s,.s,.s]),.o 311 (fun _=> [.s,.s,.s]),.s,.s,.o 339 (fun _=> [.s,.s,.s,.s,.s,.s,.s]),.o 9 (fun _=> [.s]),.s,.s,.o 9 (fun _=> [.s]),.o 9 (fun _=> [.s])]}
 |73=> {ok:=true,desc:= .slice 166,sz:=1,by_:=24,zv:= .slice none 0 0,z:= [.ls [.sc (.int .i64 0),.sc (.int .i64 0),.sc (.string ⟨#[]⟩)] []],ms:= [.o 166 (fun _=> [.s,.s,.s])]}
 |75=> {ok:=true,desc:= .struct #[fld "Vals" 73 0 0 ""],sz:=1,by_:=24,zv:= .agg #[.slice none 0 0],z:= [.ls [.sc (.int .i64 0),.sc (.int .i64 0),.sc (.string ⟨#[]⟩)] []],ms:= [.o 166 (fun _=> [.s,.s,.s])]}
 |76=> {ok:=true,desc:= .slice 168,sz:=1,by_:=24,zv:= .slice none 0 0,z:= [.ls [.sc (.string ⟨#[]⟩),.sc (.int .i64 0),.sc (.bool false),.sc (.bool false),.sc (.int .i64 0),.sc (.int .i64 0),.sc (.string ⟨#[]⟩)] []],ms:= [.o 168 (fun _=> [.s,.s,.s,.s,.s,.s,.s])]}
 |78=> {ok:=true,desc:= .struct #[fld "Kind" 3 0 0 "",fld "Table" 9 1 8 "",fld "Cols" 76 2 24 "",fld "Keys" 65 3 48 "",fld "Name" 9 4 72 "",fld "To" 9 5 88 ""],sz:=6,by_:=104,zv:= .agg #[.int .i64 0,.string ⟨#[]⟩,.slice none 0 0,.slice none 0 0,.string ⟨#[]⟩,.string ⟨#[]⟩],z:= [.sc (.int .i64 0),.sc (.string ⟨#[]⟩),.ls [.sc (.string ⟨#[]⟩),.sc (.int .i64 0),.sc (.bool false),.sc (.bool false),.sc (.int .i64 0),.sc (.int .i64 0),.sc (.string ⟨#[]⟩)] [],.ls [.sc (.string ⟨#[]⟩)] [],.sc (.string ⟨#[]⟩),.sc (.string ⟨#[]⟩)],ms:= [.s,.s,.o 168 (fun _=> [.s,.s,.s,.s,.s,.s,.s]),.o 9 (fun _=> [.s]),.s,.s]}
 |80=> {ok:=true,desc:= .struct #[fld "Kind" 3 0 0 "",fld "Table" 9 1 8 "",fld "Key" 73 2 24 "",fld "Row" 75 3 48 "",fld "Ddl" 78 4 72 ""],sz:=10,by_:=176,zv:= .agg #[.int .i64 0,.string ⟨#[]⟩,.slice none 0 0,.slice none 0 0,.int .i64 0,.string ⟨#[]⟩,.slice none 0 0,.slice none 0 0,.string ⟨#[]⟩,.string ⟨#[]⟩],z:= [.sc (.int .i64 0),.sc (.string ⟨#[]⟩),.ls [.sc (.int .i64 0),.sc (.int .i64 0),.sc (.string ⟨#[]⟩)] [],.ls [.sc (.int .i64 0),.sc (.int .i64 0),.sc (.string ⟨#[]⟩)] [],.sc (.int .i64 0),.sc (.string ⟨#[]⟩),.ls [.sc (.string ⟨#[]⟩),.sc (.int .i64 0),.sc (.bool false),.sc (.bool false),.sc (.int .i64 0),.sc (.int .i64 0),.sc (.string ⟨#[]⟩)] [],.ls [.sc (.string ⟨#[]⟩)] [],.sc (.string ⟨#[]⟩),.sc (.string ⟨#[]⟩)],ms:= [.s,.s,.o 166 (fun _=> [.s,.s,.s]),.o 166 (fun _=> [.s,.s,.s]),.s,.s,.o 168 (fun _=> [.s,.s,.s,.s,.s,.s,.s]),.o 9 (fun _=> [.s]),.s,.s]}
 |84=> {ok:=true,desc:= .struct #[fld "Stmt" 80 0 0 "",fld "Cols" 65 10 176 "",fld "Keys" 65 11 200 ""],sz:=12,by_:=224,zv:= .agg #[.int .i64 0,.string ⟨#[]⟩,.slice none 0 0,.slice none 0 0,.int .i64 0,.string ⟨#[]⟩,.slice none 0 0,.slice none 0 0,.string ⟨#[]⟩,.string ⟨#[]⟩,.slice none 0 0,.slice none 0 0],z:= [.sc (.int .i64 0),.sc (.string ⟨#[]⟩),.ls [.sc (.int .i64 0),.sc (.int .i64 0),.sc (.string ⟨#[]⟩)] [],.ls [.sc (.int .i64 0),.sc (.int .i64 0),.sc (.string ⟨#[]⟩)] [],.sc (.int .i64 0),.sc (.string ⟨#[]⟩),.ls [.sc (.string ⟨#[]⟩),.sc (.int .i64 0),.sc (.bool false),.sc (.bool false),.sc (.int .i64 0),.sc (.int .i64 0),.sc (.string ⟨#[]⟩)] [],.ls [.sc (.string ⟨#[]⟩)] [],.sc (.string ⟨#[]⟩),.sc (.string ⟨#[]⟩),.ls [.sc (.string ⟨#[]⟩)] [],.ls [.sc (.string ⟨#[]⟩)] []],ms:= [.s,.s,.o 166 (fun _=> [.s,.s,.s]),.o 166 (fun _=> [.s,.s,.s]),.s,.s,.o 168 (fun _=> [.s,.s,.s,.s,.s,.s,.s]),.o 9 (fun _=> [.s]),.s,.s,.o 9 (fun _=> [.s]),.o 9 (fun _=> [.s])]}
 |92=> {ok:=true,desc:= .struct #[fld "Db" 38 0 0 "",fld "At" 3 2 48 "",fld "Halt" 3 3 56 ""],sz:=4,by_:=64,zv:= .agg #[.slice none 0 0,.slice none 0 0,.int .i64 0,.int .i64 0],z:= [.ls [.sc (.string ⟨#[]⟩),.ls [.sc (.string ⟨#[]⟩),.sc (.int .i64 0),.sc (.bool false),.sc (.bool false),.sc (.int .i64 0),.sc (.int .i64 0),.sc (.string ⟨#[]⟩)] [],.ls [.sc (.string ⟨#[]⟩)] []] [],.ls [.ls [.ls [.sc (.int .i64 0),.sc (.int .i64 0),.sc (.string ⟨#[]⟩)] []] []] [],.sc (.int .i64 0),.sc (.int .i64 0)],ms:= [.o 162 (fun _=> [.s,.o 168 (fun _=> [.s,.s,.s,.s,.s,.s,.s]),.o 9 (fun _=> [.s])]),.o 171 (fun _=> [.o 75 (fun _=> [.o 166 (fun _=> [.s,.s,.s])])]),.s,.s]}
 |98=> {ok:=true,desc:= .slice 69,sz:=1,by_:=24,zv:= .slice none 0 0,z:= [.ls [.sc (.int .i64 0),.sc (.string ⟨#[]⟩),.ls [.sc (.int .i64 0),.sc (.int .i64 0),.sc (.string ⟨#[]⟩)] [],.ls [.sc (.int .i64 0),.sc (.int .i64 0),.sc (.string ⟨#[]⟩)] [],.sc (.int .i64 0),.sc (.string ⟨#[]⟩),.ls [.sc (.string ⟨#[]⟩),.sc (.int .i64 0),.sc (.bool false),.sc (.bool false),.sc (.int .i64 0),.sc (.int .i64 0),.sc (.string ⟨#[]⟩)] [],.ls [.sc (.string ⟨#[]⟩)] [],.sc (.string ⟨#[]⟩),.sc (.string ⟨#[]⟩)] []],ms:= [.o 69 (fun _=> [.s,.s,.o 311 (fun _=> [.s,.s,.s]),.o 311 (fun _=> [.s,.s,.s]),.s,.s,.o 339 (fun _=> [.s,.s,.s,.s,.s,.s,.s]),.o 9 (fun _=> [.s]),.s,.s])]}
 |100=> {ok:=true,desc:= .slice 84,sz:=1,by_:=24,zv:= .slice none 0 0,z:= [.ls [.sc (.int .i64 0),.sc (.string ⟨#[]⟩),.ls [.sc (.int .i64 0),.sc (.int .i64 0),.sc (.string ⟨#[]⟩)] [],.ls [.sc (.int .i64 0),.sc (.int .i64 0),.sc (.string ⟨#[]⟩)] [],.sc (.int .i64 0),.sc (.string ⟨#[]⟩),.ls [.sc (.string ⟨#[]⟩),.sc (.int .i64 0),.sc (.bool false),.sc (.bool false),.sc (.int .i64 0),.sc (.int .i64 0),.sc (.string ⟨#[]⟩)] [],.ls [.sc (.string ⟨#[]⟩)] [],.sc (.string ⟨#[]⟩),.sc (.string ⟨#[]⟩),.ls [.sc (.string ⟨#[]⟩)] [],.ls [.sc (.string ⟨#[]⟩)] []] []],ms:= [.o 84 (fun _=> [.s,.s,.o 166 (fun _=> [.s,.s,.s]),.o 166 (fun _=> [.s,.s,.s]),.s,.s,.o 168 (fun _=> [.s,.s,.s,.s,.s,.s,.s]),.o 9 (fun _=> [.s]),.s,.s,.o 9 (fun _=> [.s]),.o 9 (fun _=> [.s])])]}
 |103=> {ok:=true,desc:= .slice 80,sz:=1,by_:=24,zv:= .slice none 0 0,z:= [.ls [.sc (.int .i64 0),.sc (.string ⟨#[]⟩),.ls [.sc (.int .i64 0),.sc (.int .i64 0),.sc (.string ⟨#[]⟩)] [],.ls [.sc (.int .i64 0),.sc (.int .i64 0),.sc (.string ⟨#[]⟩)] [],.sc (.int .i64 0),.sc (.string ⟨#[]⟩),.ls [.sc (.string ⟨#[]⟩),.sc (.int .i64 0),.sc (.bool false),.sc (.bool false),.sc (.int .i64 0),.sc (.int .i64 0),.sc (.string ⟨#[]⟩)] [],.ls [.sc (.string ⟨#[]⟩)] [],.sc (.string ⟨#[]⟩),.sc (.string ⟨#[]⟩)] []],ms:= [.o 80 (fun _=> [.s,.s,.o 166 (fun _=> [.s,.s,.s]),.o 166 (fun _=> [.s,.s,.s]),.s,.s,.o 168 (fun _=> [.s,.s,.s,.s,.s,.s,.s]),.o 9 (fun _=> [.s]),.s,.s])]}
 |113=> {ok:=true,desc:= .struct #[fld "Db" 27 0 0 "",fld "At" 3 2 48 "",fld "Halt" 3 3 56 ""],sz:=4,by_:=64,zv:= .agg #[.slice none 0 0,.slice none 0 0,.int .i64 0,.int .i64 0],z:= [.ls [.sc (.string ⟨#[]⟩),.ls [.sc (.string ⟨#[]⟩),.sc (.int .i64 0),.sc (.bool false),.sc (.bool false),.sc (.int .i64 0),.sc (.int .i64 0),.sc (.string ⟨#[]⟩)] [],.ls [.sc (.string ⟨#[]⟩)] []] [],.ls [.ls [.ls [.sc (.int .i64 0),.sc (.int .i64 0),.sc (.string ⟨#[]⟩)] []] []] [],.sc (.int .i64 0),.sc (.int .i64 0)],ms:= [.o 302 (fun _=> [.s,.o 339 (fun _=> [.s,.s,.s,.s,.s,.s,.s]),.o 9 (fun _=> [.s])]),.o 241 (fun _=> [.o 63 (fun _=> [.o 311 (fun _=> [.s,.s,.s])])]),.s,.s]}
 |114=> {ok:=true,desc:= .slice 71,sz:=1,by_:=24,zv:= .slice none 0 0,z:= [.ls [.sc (.int .i64 0),.sc (.string ⟨#[]⟩),.ls [.sc (.int .i64 0),.sc (.int .i64 0),.sc (.string ⟨#[]⟩)] [],.ls [.sc (.int .i64 0),.sc (.int .i64 0),.sc (.string ⟨#[]⟩)] [],.sc (.int .i64 0),.sc (.string ⟨#[]⟩),.ls [.sc (.string ⟨#[]⟩),.sc (.int .i64 0),.sc (.bool false),.sc (.bool false),.sc (.int .i64 0),.sc (.int .i64 0),.sc (.string ⟨#[]⟩)] [],.ls [.sc (.string ⟨#[]⟩)] [],.sc (.string ⟨#[]⟩),.sc (.string ⟨#[]⟩),.ls [.sc (.string ⟨#[]⟩)] [],.ls [.sc (.string ⟨#[]⟩)] []] []],ms:= [.o 71 (fun _=> [.s,.s,.o 311 (fun _=> [.s,.s,.s]),.o 311 (fun _=> [.s,.s,.s]),.s,.s,.o 339 (fun _=> [.s,.s,.s,.s,.s,.s,.s]),.o 9 (fun _=> [.s]),.s,.s,.o 9 (fun _=> [.s]),.o 9 (fun _=> [.s])])]}
 |116=> {ok:=true,desc:= .struct #[fld "Lsn" 3 0 0 "",fld "Prev" 3 1 8 "",fld "Parts" 114 2 16 ""],sz:=3,by_:=40,zv:= .agg #[.int .i64 0,.int .i64 0,.slice none 0 0],z:= [.sc (.int .i64 0),.sc (.int .i64 0),.ls [.sc (.int .i64 0),.sc (.string ⟨#[]⟩),.ls [.sc (.int .i64 0),.sc (.int .i64 0),.sc (.string ⟨#[]⟩)] [],.ls [.sc (.int .i64 0),.sc (.int .i64 0),.sc (.string ⟨#[]⟩)] [],.sc (.int .i64 0),.sc (.string ⟨#[]⟩),.ls [.sc (.string ⟨#[]⟩),.sc (.int .i64 0),.sc (.bool false),.sc (.bool false),.sc (.int .i64 0),.sc (.int .i64 0),.sc (.string ⟨#[]⟩)] [],.ls [.sc (.string ⟨#[]⟩)] [],.sc (.string ⟨#[]⟩),.sc (.string ⟨#[]⟩),.ls [.sc (.string ⟨#[]⟩)] [],.ls [.sc (.string ⟨#[]⟩)] []] []],ms:= [.s,.s,.o 71 (fun _=> [.s,.s,.o 311 (fun _=> [.s,.s,.s]),.o 311 (fun _=> [.s,.s,.s]),.s,.s,.o 339 (fun _=> [.s,.s,.s,.s,.s,.s,.s]),.o 9 (fun _=> [.s]),.s,.s,.o 9 (fun _=> [.s]),.o 9 (fun _=> [.s])])]}
 |123=> {ok:=true,desc:= .struct #[fld "Lsn" 3 0 0 "",fld "Prev" 3 1 8 "",fld "Parts" 100 2 16 ""],sz:=3,by_:=40,zv:= .agg #[.int .i64 0,.int .i64 0,.slice none 0 0],z:= [.sc (.int .i64 0),.sc (.int .i64 0),.ls [.sc (.int .i64 0),.sc (.string ⟨#[]⟩),.ls [.sc (.int .i64 0),.sc (.int .i64 0),.sc (.string ⟨#[]⟩)] [],.ls [.sc (.int .i64 0),.sc (.int .i64 0),.sc (.string ⟨#[]⟩)] [],.sc (.int .i64 0),.sc (.string ⟨#[]⟩),.ls [.sc (.string ⟨#[]⟩),.sc (.int .i64 0),.sc (.bool false),.sc (.bool false),.sc (.int .i64 0),.sc (.int .i64 0),.sc (.string ⟨#[]⟩)] [],.ls [.sc (.string ⟨#[]⟩)] [],.sc (.string ⟨#[]⟩),.sc (.string ⟨#[]⟩),.ls [.sc (.string ⟨#[]⟩)] [],.ls [.sc (.string ⟨#[]⟩)] []] []],ms:= [.s,.s,.o 84 (fun _=> [.s,.s,.o 166 (fun _=> [.s,.s,.s]),.o 166 (fun _=> [.s,.s,.s]),.s,.s,.o 168 (fun _=> [.s,.s,.s,.s,.s,.s,.s]),.o 9 (fun _=> [.s]),.s,.s,.o 9 (fun _=> [.s]),.o 9 (fun _=> [.s])])]}
 |128=> {ok:=true,desc:= .slice 116,sz:=1,by_:=24,zv:= .slice none 0 0,z:= [.ls [.sc (.int .i64 0),.sc (.int .i64 0),.ls [.sc (.int .i64 0),.sc (.string ⟨#[]⟩),.ls [.sc (.int .i64 0),.sc (.int .i64 0),.sc (.string ⟨#[]⟩)] [],.ls [.sc (.int .i64 0),.sc (.int .i64 0),.sc (.string ⟨#[]⟩)] [],.sc (.int .i64 0),.sc (.string ⟨#[]⟩),.ls [.sc (.string ⟨#[]⟩),.sc (.int .i64 0),.sc (.bool false),.sc (.bool false),.sc (.int .i64 0),.sc (.int .i64 0),.sc (.string ⟨#[]⟩)] [],.ls [.sc (.string ⟨#[]⟩)] [],.sc (.string ⟨#[]⟩),.sc (.string ⟨#[]⟩),.ls [.sc (.string ⟨#[]⟩)] [],.ls [.sc (.string ⟨#[]⟩)] []] []] []],ms:= [.o 116 (fun _=> [.s,.s,.o 71 (fun _=> [.s,.s,.o 311 (fun _=> [.s,.s,.s]),.o 311 (fun _=> [.s,.s,.s]),.s,.s,.o 339 (fun _=> [.s,.s,.s,.s,.s,.s,.s]),.o 9 (fun _=> [.s]),.s,.s,.o 9 (fun _=> [.s]),.o 9 (fun _=> [.s])])])]}
 |130=> {ok:=true,desc:= .slice 3,sz:=1,by_:=24,zv:= .slice none 0 0,z:= [.ls [.sc (.int .i64 0)] []],ms:= [.o 3 (fun _=> [.s])]}
 |133=> {ok:=true,desc:= .slice 123,sz:=1,by_:=24,zv:= .slice none 0 0,z:= [.ls [.sc (.int .i64 0),.sc (.int .i64 0),.ls [.sc (.int .i64 0),.sc (.string ⟨#[]⟩),.ls [.sc (.int .i64 0),.sc (.int .i64 0),.sc (.string ⟨#[]⟩)] [],.ls [.sc (.int .i64 0),.sc (.int .i64 0),.sc (.string ⟨#[]⟩)] [],.sc (.int .i64 0),.sc (.string ⟨#[]⟩),.ls [.sc (.string ⟨#[]⟩),.sc (.int .i64 0),.sc (.bool false),.sc (.bool false),.sc (.int .i64 0),.sc (.int .i64 0),.sc (.string ⟨#[]⟩)] [],.ls [.sc (.string ⟨#[]⟩)] [],.sc (.string ⟨#[]⟩),.sc (.string ⟨#[]⟩),.ls [.sc (.string ⟨#[]⟩)] [],.ls [.sc (.string ⟨#[]⟩)] []] []] []],ms:= [.o 123 (fun _=> [.s,.s,.o 84 (fun _=> [.s,.s,.o 166 (fun _=> [.s,.s,.s]),.o 166 (fun _=> [.s,.s,.s]),.s,.s,.o 168 (fun _=> [.s,.s,.s,.s,.s,.s,.s]),.o 9 (fun _=> [.s]),.s,.s,.o 9 (fun _=> [.s]),.o 9 (fun _=> [.s])])])]}
 |158=> {ok:=true,desc:= .slice 5,sz:=1,by_:=24,zv:= .slice none 0 0,z:= [.ls [.sc (.int .u8 0)] []],ms:= [.o 5 (fun _=> [.s])]}
 |162=> {ok:=true,desc:= .struct #[fld "Name" 9 0 0 "",fld "Cols" 76 1 16 "",fld "Keys" 65 2 40 ""],sz:=3,by_:=64,zv:= .agg #[.string ⟨#[]⟩,.slice none 0 0,.slice none 0 0],z:= [.sc (.string ⟨#[]⟩),.ls [.sc (.string ⟨#[]⟩),.sc (.int .i64 0),.sc (.bool false),.sc (.bool false),.sc (.int .i64 0),.sc (.int .i64 0),.sc (.string ⟨#[]⟩)] [],.ls [.sc (.string ⟨#[]⟩)] []],ms:= [.s,.o 168 (fun _=> [.s,.s,.s,.s,.s,.s,.s]),.o 9 (fun _=> [.s])]}
 |166=> {ok:=true,desc:= .struct #[fld "Ty" 3 0 0 "",fld "N" 3 1 8 "",fld "S" 9 2 16 ""],sz:=3,by_:=32,zv:= .agg #[.int .i64 0,.int .i64 0,.string ⟨#[]⟩],z:= [.sc (.int .i64 0),.sc (.int .i64 0),.sc (.string ⟨#[]⟩)],eqb:=true}
 |168=> {ok:=true,desc:= .struct #[fld "Name" 9 0 0 "",fld "Ty" 3 1 16 "",fld "Not" 4 2 24 "",fld "Has" 4 3 25 "",fld "Def" 166 4 32 ""],sz:=7,by_:=64,zv:= .agg #[.string ⟨#[]⟩,.int .i64 0,.bool false,.bool false,.int .i64 0,.int .i64 0,.string ⟨#[]⟩],z:= [.sc (.string ⟨#[]⟩),.sc (.int .i64 0),.sc (.bool false),.sc (.bool false),.sc (.int .i64 0),.sc (.int .i64 0),.sc (.string ⟨#[]⟩)],eqb:=true}
 |169=> {ok:=true,desc:= .slice 75,sz:=1,by_:=24,zv:= .slice none 0 0,z:= [.ls [.ls [.sc (.int .i64 0),.sc (.int .i64 0),.sc (.string ⟨#[]⟩)] []] []],ms:= [.o 75 (fun _=> [.o 166 (fun _=> [.s,.s,.s])])]}
 |171=> {ok:=true,desc:= .struct #[fld "Rows" 169 0 0 ""],sz:=1,by_:=24,zv:= .agg #[.slice none 0 0],z:= [.ls [.ls [.sc (.int .i64 0),.sc (.int .i64 0),.sc (.string ⟨#[]⟩)] []] []],ms:= [.o 75 (fun _=> [.o 166 (fun _=> [.s,.s,.s])])]}
 |216=> {ok:=true,desc:= .struct #[fld "Kind" 3 0 0 "",fld "Xid" 3 1 8 "",fld "Stmt" 69 2 16 ""],sz:=12,by_:=192,zv:= .agg #[.int .i64 0,.int .i64 0,.int .i64 0,.string ⟨#[]⟩,.slice none 0 0,.slice none 0 0,.int .i64 0,.string ⟨#[]⟩,.slice none 0 0,.slice none 0 0,.string ⟨#[]⟩,.string ⟨#[]⟩],z:= [.sc (.int .i64 0),.sc (.int .i64 0),.sc (.int .i64 0),.sc (.string ⟨#[]⟩),.ls [.sc (.int .i64 0),.sc (.int .i64 0),.sc (.string ⟨#[]⟩)] [],.ls [.sc (.int .i64 0),.sc (.int .i64 0),.sc (.string ⟨#[]⟩)] [],.sc (.int .i64 0),.sc (.string ⟨#[]⟩),.ls [.sc (.string ⟨#[]⟩),.sc (.int .i64 0),.sc (.bool false),.sc (.bool false),.sc (.int .i64 0),.sc (.int .i64 0),.sc (.string ⟨#[]⟩)] [],.ls [.sc (.string ⟨#[]⟩)] [],.sc (.string ⟨#[]⟩),.sc (.string ⟨#[]⟩)],ms:= [.s,.s,.s,.s,.o 311 (fun _=> [.s,.s,.s]),.o 311 (fun _=> [.s,.s,.s]),.s,.s,.o 339 (fun _=> [.s,.s,.s,.s,.s,.s,.s]),.o 9 (fun _=> [.s]),.s,.s]}
 |219=> {ok:=true,desc:= .struct #[fld "Kind" 3 0 0 "",fld "Xid" 3 1 8 "",fld "Stmt" 80 2 16 ""],sz:=12,by_:=192,zv:= .agg #[.int .i64 0,.int .i64 0,.int .i64 0,.string ⟨#[]⟩,.slice none 0 0,.slice none 0 0,.int .i64 0,.string ⟨#[]⟩,.slice none 0 0,.slice none 0 0,.string ⟨#[]⟩,.string ⟨#[]⟩],z:= [.sc (.int .i64 0),.sc (.int .i64 0),.sc (.int .i64 0),.sc (.string ⟨#[]⟩),.ls [.sc (.int .i64 0),.sc (.int .i64 0),.sc (.string ⟨#[]⟩)] [],.ls [.sc (.int .i64 0),.sc (.int .i64 0),.sc (.string ⟨#[]⟩)] [],.sc (.int .i64 0),.sc (.string ⟨#[]⟩),.ls [.sc (.string ⟨#[]⟩),.sc (.int .i64 0),.sc (.bool false),.sc (.bool false),.sc (.int .i64 0),.sc (.int .i64 0),.sc (.string ⟨#[]⟩)] [],.ls [.sc (.string ⟨#[]⟩)] [],.sc (.string ⟨#[]⟩),.sc (.string ⟨#[]⟩)],ms:= [.s,.s,.s,.s,.o 166 (fun _=> [.s,.s,.s]),.o 166 (fun _=> [.s,.s,.s]),.s,.s,.o 168 (fun _=> [.s,.s,.s,.s,.s,.s,.s]),.o 9 (fun _=> [.s]),.s,.s]}
 |239=> {ok:=true,desc:= .slice 63,sz:=1,by_:=24,zv:= .slice none 0 0,z:= [.ls [.ls [.sc (.int .i64 0),.sc (.int .i64 0),.sc (.string ⟨#[]⟩)] []] []],ms:= [.o 63 (fun _=> [.o 311 (fun _=> [.s,.s,.s])])]}
 |241=> {ok:=true,desc:= .struct #[fld "Rows" 239 0 0 ""],sz:=1,by_:=24,zv:= .agg #[.slice none 0 0],z:= [.ls [.ls [.sc (.int .i64 0),.sc (.int .i64 0),.sc (.string ⟨#[]⟩)] []] []],ms:= [.o 63 (fun _=> [.o 311 (fun _=> [.s,.s,.s])])]}
 |302=> {ok:=true,desc:= .struct #[fld "Name" 9 0 0 "",fld "Cols" 64 1 16 "",fld "Keys" 65 2 40 ""],sz:=3,by_:=64,zv:= .agg #[.string ⟨#[]⟩,.slice none 0 0,.slice none 0 0],z:= [.sc (.string ⟨#[]⟩),.ls [.sc (.string ⟨#[]⟩),.sc (.int .i64 0),.sc (.bool false),.sc (.bool false),.sc (.int .i64 0),.sc (.int .i64 0),.sc (.string ⟨#[]⟩)] [],.ls [.sc (.string ⟨#[]⟩)] []],ms:= [.s,.o 339 (fun _=> [.s,.s,.s,.s,.s,.s,.s]),.o 9 (fun _=> [.s])]}
 |311=> {ok:=true,desc:= .struct #[fld "Ty" 3 0 0 "",fld "N" 3 1 8 "",fld "S" 9 2 16 ""],sz:=3,by_:=32,zv:= .agg #[.int .i64 0,.int .i64 0,.string ⟨#[]⟩],z:= [.sc (.int .i64 0),.sc (.int .i64 0),.sc (.string ⟨#[]⟩)]}
 |336=> {ok:=true,desc:= .int .u64,sz:=1,by_:=8,zv:= .int .u64 0,z:= [.sc (.int .u64 0)]}
 |339=> {ok:=true,desc:= .struct #[fld "Name" 9 0 0 "",fld "Ty" 3 1 16 "",fld "Not" 4 2 24 "",fld "Has" 4 3 25 "",fld "Def" 311 4 32 ""],sz:=7,by_:=64,zv:= .agg #[.string ⟨#[]⟩,.int .i64 0,.bool false,.bool false,.int .i64 0,.int .i64 0,.string ⟨#[]⟩],z:= [.sc (.string ⟨#[]⟩),.sc (.int .i64 0),.sc (.bool false),.sc (.bool false),.sc (.int .i64 0),.sc (.int .i64 0),.sc (.string ⟨#[]⟩)]}
 |366=> {ok:=true,desc:= .int .u32,sz:=1,by_:=4,zv:= .int .u32 0,z:= [.sc (.int .u32 0)]}
 |368=> {ok:=true,desc:= .int .u64,sz:=1,by_:=8,zv:= .int .u64 0,z:= [.sc (.int .u64 0)]}
 |_=> {}
def ck:Nat→List CK
 |2=> [.int .i64]
 |3=> [.int .i64]
 |4=> [.bool]
 |5=> [.int .u8]
 |9=> [.str]
 |21=> [.int .i32]
 |22=> [.sl 302]
 |24=> [.sl 302]
 |25=> [.sl 241]
 |27=> [.sl 302,.sl 241]
 |28=> [.sl 216]
 |30=> [.int .i64,.sl 302,.sl 241,.sl 216]
 |33=> [.sl 162]
 |35=> [.sl 162]
 |36=> [.sl 171]
 |38=> [.sl 162,.sl 171]
 |39=> [.sl 219]
 |41=> [.int .i64,.sl 162,.sl 171,.sl 219]
 |46=> [.int .i64,.sl 302,.sl 241]
 |50=> [.int .i64,.sl 162,.sl 171]
 |61=> [.sl 311]
 |63=> [.sl 311]
 |64=> [.sl 339]
 |65=> [.sl 9]
 |67=> [.int .i64,.str,.sl 339,.sl 9,.str,.str]
 |69=> [.int .i64,.str,.sl 311,.sl 311,.int .i64,.str,.sl 339,.sl 9,.str,.str]
 |71=> [.int .i64,.str,.sl 311,.sl 311,.int .i64,.str,.sl 339,.sl 9,.str,.str,.sl 9,.sl 9]
 |73=> [.sl 166]
 |75=> [.sl 166]
 |76=> [.sl 168]
 |78=> [.int .i64,.str,.sl 168,.sl 9,.str,.str]
 |80=> [.int .i64,.str,.sl 166,.sl 166,.int .i64,.str,.sl 168,.sl 9,.str,.str]
 |84=> [.int .i64,.str,.sl 166,.sl 166,.int .i64,.str,.sl 168,.sl 9,.str,.str,.sl 9,.sl 9]
 |92=> [.sl 162,.sl 171,.int .i64,.int .i64]
 |98=> [.sl 69]
 |100=> [.sl 84]
 |103=> [.sl 80]
 |113=> [.sl 302,.sl 241,.int .i64,.int .i64]
 |114=> [.sl 71]
 |116=> [.int .i64,.int .i64,.sl 71]
 |123=> [.int .i64,.int .i64,.sl 84]
 |128=> [.sl 116]
 |130=> [.sl 3]
 |133=> [.sl 123]
 |158=> [.sl 5]
 |162=> [.str,.sl 168,.sl 9]
 |166=> [.int .i64,.int .i64,.str]
 |168=> [.str,.int .i64,.bool,.bool,.int .i64,.int .i64,.str]
 |169=> [.sl 75]
 |171=> [.sl 75]
 |216=> [.int .i64,.int .i64,.int .i64,.str,.sl 311,.sl 311,.int .i64,.str,.sl 339,.sl 9,.str,.str]
 |219=> [.int .i64,.int .i64,.int .i64,.str,.sl 166,.sl 166,.int .i64,.str,.sl 168,.sl 9,.str,.str]
 |239=> [.sl 63]
 |241=> [.sl 63]
 |302=> [.str,.sl 339,.sl 9]
 |311=> [.int .i64,.int .i64,.str]
 |336=> [.int .u64]
 |339=> [.str,.int .i64,.bool,.bool,.int .i64,.int .i64,.str]
 |366=> [.int .u32]
 |368=> [.int .u64]
 |_=> []
theorem good2:(ti 2).good Tryz.prog 2:=good_sc (v:= .int .i64 0) rfl rfl rfl rfl (by decide) rfl (by intro _ _ h;cases h) (by kernel_rfl) (by kernel_rfl) (fun _=>rfl)
theorem good3:(ti 3).good Tryz.prog 3:=good_sc (v:= .int .i64 0) rfl rfl rfl rfl (by decide) rfl (by intro _ _ h;cases h) (by kernel_rfl) (by kernel_rfl) (fun _=>rfl)
theorem good4:(ti 4).good Tryz.prog 4:=good_sc (v:= .bool false) rfl rfl rfl rfl (by decide) rfl (by intro _ _ h;cases h) (by kernel_rfl) (by kernel_rfl) (fun _=>rfl)
theorem good5:(ti 5).good Tryz.prog 5:=good_sc (v:= .int .u8 0) rfl rfl rfl rfl (by decide) rfl (by intro _ _ h;cases h) (by kernel_rfl) (by kernel_rfl) (fun _=>rfl)
theorem good9:(ti 9).good Tryz.prog 9:=good_sc (v:= .string ⟨#[]⟩) rfl rfl rfl rfl (by decide) rfl (by intro _ _ h;cases h) (by kernel_rfl) (by kernel_rfl) (fun _=>rfl)
theorem good21:(ti 21).good Tryz.prog 21:=good_sc (v:= .int .i32 0) rfl rfl rfl rfl (by decide) rfl (by intro _ _ h;cases h) (by kernel_rfl) (by kernel_rfl) (fun _=>rfl)
theorem good22:(ti 22).good Tryz.prog 22:=good_sl (zz:= [.sc (.string ⟨#[]⟩),.ls [.sc (.string ⟨#[]⟩),.sc (.int .i64 0),.sc (.bool false),.sc (.bool false),.sc (.int .i64 0),.sc (.int .i64 0),.sc (.string ⟨#[]⟩)] [],.ls [.sc (.string ⟨#[]⟩)] []]) rfl rfl rfl rfl (by decide) (by kernel_rfl) (by kernel_rfl)
theorem good24:(ti 24).good Tryz.prog 24:=good_st (fs:= #[fld "Tables" 22 0 0 ""]) (cs:= #[.slice none 0 0]) rfl rfl rfl rfl (by decide) (by decide) (zOk_ok rfl) (by kernel_rfl) (by kernel_rfl) (by kernel_rfl)
theorem good25:(ti 25).good Tryz.prog 25:=good_sl (zz:= [.ls [.ls [.sc (.int .i64 0),.sc (.int .i64 0),.sc (.string ⟨#[]⟩)] []] []]) rfl rfl rfl rfl (by decide) (by kernel_rfl) (by kernel_rfl)
theorem good27:(ti 27).good Tryz.prog 27:=good_st (fs:= #[fld "Cat" 24 0 0 "",fld "Data" 25 1 24 ""]) (cs:= #[.slice none 0 0,.slice none 0 0]) rfl rfl rfl rfl (by decide) (by decide) (zOk_ok rfl) (by kernel_rfl) (by kernel_rfl) (by kernel_rfl)
theorem good28:(ti 28).good Tryz.prog 28:=good_sl (zz:= [.sc (.int .i64 0),.sc (.int .i64 0),.sc (.int .i64 0),.sc (.string ⟨#[]⟩),.ls [.sc (.int .i64 0),.sc (.int .i64 0),.sc (.string ⟨#[]⟩)] [],.ls [.sc (.int .i64 0),.sc (.int .i64 0),.sc (.string ⟨#[]⟩)] [],.sc (.int .i64 0),.sc (.string ⟨#[]⟩),.ls [.sc (.string ⟨#[]⟩),.sc (.int .i64 0),.sc (.bool false),.sc (.bool false),.sc (.int .i64 0),.sc (.int .i64 0),.sc (.string ⟨#[]⟩)] [],.ls [.sc (.string ⟨#[]⟩)] [],.sc (.string ⟨#[]⟩),.sc (.string ⟨#[]⟩)]) rfl rfl rfl rfl (by decide) (by kernel_rfl) (by kernel_rfl)
theorem good30:(ti 30).good Tryz.prog 30:=good_st (fs:= #[fld "Base" 3 0 0 "",fld "Db" 27 1 8 "",fld "Recs" 28 3 56 ""]) (cs:= #[.int .i64 0,.slice none 0 0,.slice none 0 0,.slice none 0 0]) rfl rfl rfl rfl (by decide) (by decide) (zOk_ok rfl) (by kernel_rfl) (by kernel_rfl) (by kernel_rfl)
theorem good33:(ti 33).good Tryz.prog 33:=good_sl (zz:= [.sc (.string ⟨#[]⟩),.ls [.sc (.string ⟨#[]⟩),.sc (.int .i64 0),.sc (.bool false),.sc (.bool false),.sc (.int .i64 0),.sc (.int .i64 0),.sc (.string ⟨#[]⟩)] [],.ls [.sc (.string ⟨#[]⟩)] []]) rfl rfl rfl rfl (by decide) (by kernel_rfl) (by kernel_rfl)
theorem good35:(ti 35).good Tryz.prog 35:=good_st (fs:= #[fld "Tables" 33 0 0 ""]) (cs:= #[.slice none 0 0]) rfl rfl rfl rfl (by decide) (by decide) (zOk_ok rfl) (by kernel_rfl) (by kernel_rfl) (by kernel_rfl)
theorem good36:(ti 36).good Tryz.prog 36:=good_sl (zz:= [.ls [.ls [.sc (.int .i64 0),.sc (.int .i64 0),.sc (.string ⟨#[]⟩)] []] []]) rfl rfl rfl rfl (by decide) (by kernel_rfl) (by kernel_rfl)
theorem good38:(ti 38).good Tryz.prog 38:=good_st (fs:= #[fld "Cat" 35 0 0 "",fld "Data" 36 1 24 ""]) (cs:= #[.slice none 0 0,.slice none 0 0]) rfl rfl rfl rfl (by decide) (by decide) (zOk_ok rfl) (by kernel_rfl) (by kernel_rfl) (by kernel_rfl)
theorem good39:(ti 39).good Tryz.prog 39:=good_sl (zz:= [.sc (.int .i64 0),.sc (.int .i64 0),.sc (.int .i64 0),.sc (.string ⟨#[]⟩),.ls [.sc (.int .i64 0),.sc (.int .i64 0),.sc (.string ⟨#[]⟩)] [],.ls [.sc (.int .i64 0),.sc (.int .i64 0),.sc (.string ⟨#[]⟩)] [],.sc (.int .i64 0),.sc (.string ⟨#[]⟩),.ls [.sc (.string ⟨#[]⟩),.sc (.int .i64 0),.sc (.bool false),.sc (.bool false),.sc (.int .i64 0),.sc (.int .i64 0),.sc (.string ⟨#[]⟩)] [],.ls [.sc (.string ⟨#[]⟩)] [],.sc (.string ⟨#[]⟩),.sc (.string ⟨#[]⟩)]) rfl rfl rfl rfl (by decide) (by kernel_rfl) (by kernel_rfl)
theorem good41:(ti 41).good Tryz.prog 41:=good_st (fs:= #[fld "Base" 3 0 0 "",fld "Db" 38 1 8 "",fld "Recs" 39 3 56 ""]) (cs:= #[.int .i64 0,.slice none 0 0,.slice none 0 0,.slice none 0 0]) rfl rfl rfl rfl (by decide) (by decide) (zOk_ok rfl) (by kernel_rfl) (by kernel_rfl) (by kernel_rfl)
theorem good46:(ti 46).good Tryz.prog 46:=good_st (fs:= #[fld "Lsn" 3 0 0 "",fld "Db" 27 1 8 ""]) (cs:= #[.int .i64 0,.slice none 0 0,.slice none 0 0]) rfl rfl rfl rfl (by decide) (by decide) (zOk_ok rfl) (by kernel_rfl) (by kernel_rfl) (by kernel_rfl)
theorem good50:(ti 50).good Tryz.prog 50:=good_st (fs:= #[fld "Lsn" 3 0 0 "",fld "Db" 38 1 8 ""]) (cs:= #[.int .i64 0,.slice none 0 0,.slice none 0 0]) rfl rfl rfl rfl (by decide) (by decide) (zOk_ok rfl) (by kernel_rfl) (by kernel_rfl) (by kernel_rfl)
theorem good61:(ti 61).good Tryz.prog 61:=good_sl (zz:= [.sc (.int .i64 0),.sc (.int .i64 0),.sc (.string ⟨#[]⟩)]) rfl rfl rfl rfl (by decide) (by kernel_rfl) (by kernel_rfl)
theorem good63:(ti 63).good Tryz.prog 63:=good_st (fs:= #[fld "Vals" 61 0 0 ""]) (cs:= #[.slice none 0 0]) rfl rfl rfl rfl (by decide) (by decide) (zOk_ok rfl) (by kernel_rfl) (by kernel_rfl) (by kernel_rfl)
theorem good64:(ti 64).good Tryz.prog 64:=good_sl (zz:= [.sc (.string ⟨#[]⟩),.sc (.int .i64 0),.sc (.bool false),.sc (.bool false),.sc (.int .i64 0),.sc (.int .i64 0),.sc (.string ⟨#[]⟩)]) rfl rfl rfl rfl (by decide) (by kernel_rfl) (by kernel_rfl)
theorem good65:(ti 65).good Tryz.prog 65:=good_sl (zz:= [.sc (.string ⟨#[]⟩)]) rfl rfl rfl rfl (by decide) (by kernel_rfl) (by kernel_rfl)
theorem good67:(ti 67).good Tryz.prog 67:=good_st (fs:= #[fld "Kind" 3 0 0 "",fld "Table" 9 1 8 "",fld "Cols" 64 2 24 "",fld "Keys" 65 3 48 "",fld "Name" 9 4 72 "",fld "To" 9 5 88 ""]) (cs:= #[.int .i64 0,.string ⟨#[]⟩,.slice none 0 0,.slice none 0 0,.string ⟨#[]⟩,.string ⟨#[]⟩]) rfl rfl rfl rfl (by decide) (by decide) (zOk_ok rfl) (by kernel_rfl) (by kernel_rfl) (by kernel_rfl)
theorem good69:(ti 69).good Tryz.prog 69:=good_st (fs:= #[fld "Kind" 3 0 0 "",fld "Table" 9 1 8 "",fld "Key" 61 2 24 "",fld "Row" 63 3 48 "",fld "Ddl" 67 4 72 ""]) (cs:= #[.int .i64 0,.string ⟨#[]⟩,.slice none 0 0,.slice none 0 0,.int .i64 0,.string ⟨#[]⟩,.slice none 0 0,.slice none 0 0,.string ⟨#[]⟩,.string ⟨#[]⟩]) rfl rfl rfl rfl (by decide) (by decide) (zOk_ok rfl) (by kernel_rfl) (by kernel_rfl) (by kernel_rfl)
theorem good71:(ti 71).good Tryz.prog 71:=good_st (fs:= #[fld "Stmt" 69 0 0 "",fld "Cols" 65 10 176 "",fld "Keys" 65 11 200 ""]) (cs:= #[.int .i64 0,.string ⟨#[]⟩,.slice none 0 0,.slice none 0 0,.int .i64 0,.string ⟨#[]⟩,.slice none 0 0,.slice none 0 0,.string ⟨#[]⟩,.string ⟨#[]⟩,.slice none 0 0,.slice none 0 0]) rfl rfl rfl rfl (by decide) (by decide) (zOk_ok rfl) (by kernel_rfl) (by kernel_rfl) (by kernel_rfl)
theorem good73:(ti 73).good Tryz.prog 73:=good_sl (zz:= [.sc (.int .i64 0),.sc (.int .i64 0),.sc (.string ⟨#[]⟩)]) rfl rfl rfl rfl (by decide) (by kernel_rfl) (by kernel_rfl)
theorem good75:(ti 75).good Tryz.prog 75:=good_st (fs:= #[fld "Vals" 73 0 0 ""]) (cs:= #[.slice none 0 0]) rfl rfl rfl rfl (by decide) (by decide) (zOk_ok rfl) (by kernel_rfl) (by kernel_rfl) (by kernel_rfl)
theorem good76:(ti 76).good Tryz.prog 76:=good_sl (zz:= [.sc (.string ⟨#[]⟩),.sc (.int .i64 0),.sc (.bool false),.sc (.bool false),.sc (.int .i64 0),.sc (.int .i64 0),.sc (.string ⟨#[]⟩)]) rfl rfl rfl rfl (by decide) (by kernel_rfl) (by kernel_rfl)
theorem good78:(ti 78).good Tryz.prog 78:=good_st (fs:= #[fld "Kind" 3 0 0 "",fld "Table" 9 1 8 "",fld "Cols" 76 2 24 "",fld "Keys" 65 3 48 "",fld "Name" 9 4 72 "",fld "To" 9 5 88 ""]) (cs:= #[.int .i64 0,.string ⟨#[]⟩,.slice none 0 0,.slice none 0 0,.string ⟨#[]⟩,.string ⟨#[]⟩]) rfl rfl rfl rfl (by decide) (by decide) (zOk_ok rfl) (by kernel_rfl) (by kernel_rfl) (by kernel_rfl)
theorem good80:(ti 80).good Tryz.prog 80:=good_st (fs:= #[fld "Kind" 3 0 0 "",fld "Table" 9 1 8 "",fld "Key" 73 2 24 "",fld "Row" 75 3 48 "",fld "Ddl" 78 4 72 ""]) (cs:= #[.int .i64 0,.string ⟨#[]⟩,.slice none 0 0,.slice none 0 0,.int .i64 0,.string ⟨#[]⟩,.slice none 0 0,.slice none 0 0,.string ⟨#[]⟩,.string ⟨#[]⟩]) rfl rfl rfl rfl (by decide) (by decide) (zOk_ok rfl) (by kernel_rfl) (by kernel_rfl) (by kernel_rfl)
theorem good84:(ti 84).good Tryz.prog 84:=good_st (fs:= #[fld "Stmt" 80 0 0 "",fld "Cols" 65 10 176 "",fld "Keys" 65 11 200 ""]) (cs:= #[.int .i64 0,.string ⟨#[]⟩,.slice none 0 0,.slice none 0 0,.int .i64 0,.string ⟨#[]⟩,.slice none 0 0,.slice none 0 0,.string ⟨#[]⟩,.string ⟨#[]⟩,.slice none 0 0,.slice none 0 0]) rfl rfl rfl rfl (by decide) (by decide) (zOk_ok rfl) (by kernel_rfl) (by kernel_rfl) (by kernel_rfl)
theorem good92:(ti 92).good Tryz.prog 92:=good_st (fs:= #[fld "Db" 38 0 0 "",fld "At" 3 2 48 "",fld "Halt" 3 3 56 ""]) (cs:= #[.slice none 0 0,.slice none 0 0,.int .i64 0,.int .i64 0]) rfl rfl rfl rfl (by decide) (by decide) (zOk_ok rfl) (by kernel_rfl) (by kernel_rfl) (by kernel_rfl)
theorem good98:(ti 98).good Tryz.prog 98:=good_sl (zz:= [.sc (.int .i64 0),.sc (.string ⟨#[]⟩),.ls [.sc (.int .i64 0),.sc (.int .i64 0),.sc (.string ⟨#[]⟩)] [],.ls [.sc (.int .i64 0),.sc (.int .i64 0),.sc (.string ⟨#[]⟩)] [],.sc (.int .i64 0),.sc (.string ⟨#[]⟩),.ls [.sc (.string ⟨#[]⟩),.sc (.int .i64 0),.sc (.bool false),.sc (.bool false),.sc (.int .i64 0),.sc (.int .i64 0),.sc (.string ⟨#[]⟩)] [],.ls [.sc (.string ⟨#[]⟩)] [],.sc (.string ⟨#[]⟩),.sc (.string ⟨#[]⟩)]) rfl rfl rfl rfl (by decide) (by kernel_rfl) (by kernel_rfl)
theorem good100:(ti 100).good Tryz.prog 100:=good_sl (zz:= [.sc (.int .i64 0),.sc (.string ⟨#[]⟩),.ls [.sc (.int .i64 0),.sc (.int .i64 0),.sc (.string ⟨#[]⟩)] [],.ls [.sc (.int .i64 0),.sc (.int .i64 0),.sc (.string ⟨#[]⟩)] [],.sc (.int .i64 0),.sc (.string ⟨#[]⟩),.ls [.sc (.string ⟨#[]⟩),.sc (.int .i64 0),.sc (.bool false),.sc (.bool false),.sc (.int .i64 0),.sc (.int .i64 0),.sc (.string ⟨#[]⟩)] [],.ls [.sc (.string ⟨#[]⟩)] [],.sc (.string ⟨#[]⟩),.sc (.string ⟨#[]⟩),.ls [.sc (.string ⟨#[]⟩)] [],.ls [.sc (.string ⟨#[]⟩)] []]) rfl rfl rfl rfl (by decide) (by kernel_rfl) (by kernel_rfl)
theorem good103:(ti 103).good Tryz.prog 103:=good_sl (zz:= [.sc (.int .i64 0),.sc (.string ⟨#[]⟩),.ls [.sc (.int .i64 0),.sc (.int .i64 0),.sc (.string ⟨#[]⟩)] [],.ls [.sc (.int .i64 0),.sc (.int .i64 0),.sc (.string ⟨#[]⟩)] [],.sc (.int .i64 0),.sc (.string ⟨#[]⟩),.ls [.sc (.string ⟨#[]⟩),.sc (.int .i64 0),.sc (.bool false),.sc (.bool false),.sc (.int .i64 0),.sc (.int .i64 0),.sc (.string ⟨#[]⟩)] [],.ls [.sc (.string ⟨#[]⟩)] [],.sc (.string ⟨#[]⟩),.sc (.string ⟨#[]⟩)]) rfl rfl rfl rfl (by decide) (by kernel_rfl) (by kernel_rfl)
theorem good113:(ti 113).good Tryz.prog 113:=good_st (fs:= #[fld "Db" 27 0 0 "",fld "At" 3 2 48 "",fld "Halt" 3 3 56 ""]) (cs:= #[.slice none 0 0,.slice none 0 0,.int .i64 0,.int .i64 0]) rfl rfl rfl rfl (by decide) (by decide) (zOk_ok rfl) (by kernel_rfl) (by kernel_rfl) (by kernel_rfl)
theorem good114:(ti 114).good Tryz.prog 114:=good_sl (zz:= [.sc (.int .i64 0),.sc (.string ⟨#[]⟩),.ls [.sc (.int .i64 0),.sc (.int .i64 0),.sc (.string ⟨#[]⟩)] [],.ls [.sc (.int .i64 0),.sc (.int .i64 0),.sc (.string ⟨#[]⟩)] [],.sc (.int .i64 0),.sc (.string ⟨#[]⟩),.ls [.sc (.string ⟨#[]⟩),.sc (.int .i64 0),.sc (.bool false),.sc (.bool false),.sc (.int .i64 0),.sc (.int .i64 0),.sc (.string ⟨#[]⟩)] [],.ls [.sc (.string ⟨#[]⟩)] [],.sc (.string ⟨#[]⟩),.sc (.string ⟨#[]⟩),.ls [.sc (.string ⟨#[]⟩)] [],.ls [.sc (.string ⟨#[]⟩)] []]) rfl rfl rfl rfl (by decide) (by kernel_rfl) (by kernel_rfl)
theorem good116:(ti 116).good Tryz.prog 116:=good_st (fs:= #[fld "Lsn" 3 0 0 "",fld "Prev" 3 1 8 "",fld "Parts" 114 2 16 ""]) (cs:= #[.int .i64 0,.int .i64 0,.slice none 0 0]) rfl rfl rfl rfl (by decide) (by decide) (zOk_ok rfl) (by kernel_rfl) (by kernel_rfl) (by kernel_rfl)
theorem good123:(ti 123).good Tryz.prog 123:=good_st (fs:= #[fld "Lsn" 3 0 0 "",fld "Prev" 3 1 8 "",fld "Parts" 100 2 16 ""]) (cs:= #[.int .i64 0,.int .i64 0,.slice none 0 0]) rfl rfl rfl rfl (by decide) (by decide) (zOk_ok rfl) (by kernel_rfl) (by kernel_rfl) (by kernel_rfl)
theorem good128:(ti 128).good Tryz.prog 128:=good_sl (zz:= [.sc (.int .i64 0),.sc (.int .i64 0),.ls [.sc (.int .i64 0),.sc (.string ⟨#[]⟩),.ls [.sc (.int .i64 0),.sc (.int .i64 0),.sc (.string ⟨#[]⟩)] [],.ls [.sc (.int .i64 0),.sc (.int .i64 0),.sc (.string ⟨#[]⟩)] [],.sc (.int .i64 0),.sc (.string ⟨#[]⟩),.ls [.sc (.string ⟨#[]⟩),.sc (.int .i64 0),.sc (.bool false),.sc (.bool false),.sc (.int .i64 0),.sc (.int .i64 0),.sc (.string ⟨#[]⟩)] [],.ls [.sc (.string ⟨#[]⟩)] [],.sc (.string ⟨#[]⟩),.sc (.string ⟨#[]⟩),.ls [.sc (.string ⟨#[]⟩)] [],.ls [.sc (.string ⟨#[]⟩)] []] []]) rfl rfl rfl rfl (by decide) (by kernel_rfl) (by kernel_rfl)
theorem good130:(ti 130).good Tryz.prog 130:=good_sl (zz:= [.sc (.int .i64 0)]) rfl rfl rfl rfl (by decide) (by kernel_rfl) (by kernel_rfl)
theorem good133:(ti 133).good Tryz.prog 133:=good_sl (zz:= [.sc (.int .i64 0),.sc (.int .i64 0),.ls [.sc (.int .i64 0),.sc (.string ⟨#[]⟩),.ls [.sc (.int .i64 0),.sc (.int .i64 0),.sc (.string ⟨#[]⟩)] [],.ls [.sc (.int .i64 0),.sc (.int .i64 0),.sc (.string ⟨#[]⟩)] [],.sc (.int .i64 0),.sc (.string ⟨#[]⟩),.ls [.sc (.string ⟨#[]⟩),.sc (.int .i64 0),.sc (.bool false),.sc (.bool false),.sc (.int .i64 0),.sc (.int .i64 0),.sc (.string ⟨#[]⟩)] [],.ls [.sc (.string ⟨#[]⟩)] [],.sc (.string ⟨#[]⟩),.sc (.string ⟨#[]⟩),.ls [.sc (.string ⟨#[]⟩)] [],.ls [.sc (.string ⟨#[]⟩)] []] []]) rfl rfl rfl rfl (by decide) (by kernel_rfl) (by kernel_rfl)
theorem good158:(ti 158).good Tryz.prog 158:=good_sl (zz:= [.sc (.int .u8 0)]) rfl rfl rfl rfl (by decide) (by kernel_rfl) (by kernel_rfl)
theorem good162:(ti 162).good Tryz.prog 162:=good_st (fs:= #[fld "Name" 9 0 0 "",fld "Cols" 76 1 16 "",fld "Keys" 65 2 40 ""]) (cs:= #[.string ⟨#[]⟩,.slice none 0 0,.slice none 0 0]) rfl rfl rfl rfl (by decide) (by decide) (zOk_ok rfl) (by kernel_rfl) (by kernel_rfl) (by kernel_rfl)
theorem good166:(ti 166).good Tryz.prog 166:=good_st (fs:= #[fld "Ty" 3 0 0 "",fld "N" 3 1 8 "",fld "S" 9 2 16 ""]) (cs:= #[.int .i64 0,.int .i64 0,.string ⟨#[]⟩]) rfl rfl rfl rfl (by decide) (by decide) (zOk_ok rfl) (by kernel_rfl) (by kernel_rfl) (by kernel_rfl)
theorem good168:(ti 168).good Tryz.prog 168:=good_st (fs:= #[fld "Name" 9 0 0 "",fld "Ty" 3 1 16 "",fld "Not" 4 2 24 "",fld "Has" 4 3 25 "",fld "Def" 166 4 32 ""]) (cs:= #[.string ⟨#[]⟩,.int .i64 0,.bool false,.bool false,.int .i64 0,.int .i64 0,.string ⟨#[]⟩]) rfl rfl rfl rfl (by decide) (by decide) (zOk_ok rfl) (by kernel_rfl) (by kernel_rfl) (by kernel_rfl)
theorem good169:(ti 169).good Tryz.prog 169:=good_sl (zz:= [.ls [.sc (.int .i64 0),.sc (.int .i64 0),.sc (.string ⟨#[]⟩)] []]) rfl rfl rfl rfl (by decide) (by kernel_rfl) (by kernel_rfl)
theorem good171:(ti 171).good Tryz.prog 171:=good_st (fs:= #[fld "Rows" 169 0 0 ""]) (cs:= #[.slice none 0 0]) rfl rfl rfl rfl (by decide) (by decide) (zOk_ok rfl) (by kernel_rfl) (by kernel_rfl) (by kernel_rfl)
theorem good216:(ti 216).good Tryz.prog 216:=good_st (fs:= #[fld "Kind" 3 0 0 "",fld "Xid" 3 1 8 "",fld "Stmt" 69 2 16 ""]) (cs:= #[.int .i64 0,.int .i64 0,.int .i64 0,.string ⟨#[]⟩,.slice none 0 0,.slice none 0 0,.int .i64 0,.string ⟨#[]⟩,.slice none 0 0,.slice none 0 0,.string ⟨#[]⟩,.string ⟨#[]⟩]) rfl rfl rfl rfl (by decide) (by decide) (zOk_ok rfl) (by kernel_rfl) (by kernel_rfl) (by kernel_rfl)
theorem good219:(ti 219).good Tryz.prog 219:=good_st (fs:= #[fld "Kind" 3 0 0 "",fld "Xid" 3 1 8 "",fld "Stmt" 80 2 16 ""]) (cs:= #[.int .i64 0,.int .i64 0,.int .i64 0,.string ⟨#[]⟩,.slice none 0 0,.slice none 0 0,.int .i64 0,.string ⟨#[]⟩,.slice none 0 0,.slice none 0 0,.string ⟨#[]⟩,.string ⟨#[]⟩]) rfl rfl rfl rfl (by decide) (by decide) (zOk_ok rfl) (by kernel_rfl) (by kernel_rfl) (by kernel_rfl)
theorem good239:(ti 239).good Tryz.prog 239:=good_sl (zz:= [.ls [.sc (.int .i64 0),.sc (.int .i64 0),.sc (.string ⟨#[]⟩)] []]) rfl rfl rfl rfl (by decide) (by kernel_rfl) (by kernel_rfl)
theorem good241:(ti 241).good Tryz.prog 241:=good_st (fs:= #[fld "Rows" 239 0 0 ""]) (cs:= #[.slice none 0 0]) rfl rfl rfl rfl (by decide) (by decide) (zOk_ok rfl) (by kernel_rfl) (by kernel_rfl) (by kernel_rfl)
theorem good302:(ti 302).good Tryz.prog 302:=good_st (fs:= #[fld "Name" 9 0 0 "",fld "Cols" 64 1 16 "",fld "Keys" 65 2 40 ""]) (cs:= #[.string ⟨#[]⟩,.slice none 0 0,.slice none 0 0]) rfl rfl rfl rfl (by decide) (by decide) (zOk_ok rfl) (by kernel_rfl) (by kernel_rfl) (by kernel_rfl)
theorem good311:(ti 311).good Tryz.prog 311:=good_st (fs:= #[fld "Ty" 3 0 0 "",fld "N" 3 1 8 "",fld "S" 9 2 16 ""]) (cs:= #[.int .i64 0,.int .i64 0,.string ⟨#[]⟩]) rfl rfl rfl rfl (by decide) (by decide) (zOk_ok rfl) (by kernel_rfl) (by kernel_rfl) (by kernel_rfl)
theorem good336:(ti 336).good Tryz.prog 336:=good_sc (v:= .int .u64 0) rfl rfl rfl rfl (by decide) rfl (by intro _ _ h;cases h) (by kernel_rfl) (by kernel_rfl) (fun _=>rfl)
theorem good339:(ti 339).good Tryz.prog 339:=good_st (fs:= #[fld "Name" 9 0 0 "",fld "Ty" 3 1 16 "",fld "Not" 4 2 24 "",fld "Has" 4 3 25 "",fld "Def" 311 4 32 ""]) (cs:= #[.string ⟨#[]⟩,.int .i64 0,.bool false,.bool false,.int .i64 0,.int .i64 0,.string ⟨#[]⟩]) rfl rfl rfl rfl (by decide) (by decide) (zOk_ok rfl) (by kernel_rfl) (by kernel_rfl) (by kernel_rfl)
theorem good366:(ti 366).good Tryz.prog 366:=good_sc (v:= .int .u32 0) rfl rfl rfl rfl (by decide) rfl (by intro _ _ h;cases h) (by kernel_rfl) (by kernel_rfl) (fun _=>rfl)
theorem good368:(ti 368).good Tryz.prog 368:=good_sc (v:= .int .u64 0) rfl rfl rfl rfl (by decide) rfl (by intro _ _ h;cases h) (by kernel_rfl) (by kernel_rfl) (fun _=>rfl)
theorem eq3:eqAt Tryz.prog (ti 3) 3 1:=eqAt_int (n:=0) rfl rfl (by kernel_rfl)
theorem eq9:eqAt Tryz.prog (ti 9) 9 1:=eqAt_str (s:=⟨#[]⟩) rfl rfl (by kernel_rfl)
theorem eq166:eqAt Tryz.prog (ti 166) 166 2:=eqAt_st (fs:= [fld "Ty" 3 0 0 "",fld "N" 3 1 8 "",fld "S" 9 2 16 ""]) (by kernel_rfl) (by kernel_rfl) (by kernel_rfl) rfl ⟨by decide,rfl,good3,rfl,rfl,eqAt_up eq3 (by decide),⟨by decide,rfl,good3,rfl,rfl,eqAt_up eq3 (by decide),⟨by decide,rfl,good9,rfl,rfl,eqAt_up eq9 (by decide),rfl⟩⟩⟩
theorem eq4:eqAt Tryz.prog (ti 4) 4 1:=eqAt_bool (s:=false) rfl rfl (by kernel_rfl)
theorem eq168:eqAt Tryz.prog (ti 168) 168 3:=eqAt_st (fs:= [fld "Name" 9 0 0 "",fld "Ty" 3 1 16 "",fld "Not" 4 2 24 "",fld "Has" 4 3 25 "",fld "Def" 166 4 32 ""]) (by kernel_rfl) (by kernel_rfl) (by kernel_rfl) rfl ⟨by decide,rfl,good9,rfl,rfl,eqAt_up eq9 (by decide),⟨by decide,rfl,good3,rfl,rfl,eqAt_up eq3 (by decide),⟨by decide,rfl,good4,rfl,rfl,eqAt_up eq4 (by decide),⟨by decide,rfl,good4,rfl,rfl,eqAt_up eq4 (by decide),⟨by decide,rfl,good166,rfl,rfl,eqAt_up eq166 (by decide),rfl⟩⟩⟩⟩⟩
theorem good': ∀t,(ti t).ok=true→(ti t).good Tryz.prog t:=by
 intro t h
 unfold ti at h
 split at h
 ·exact good2
 ·exact good3
 ·exact good4
 ·exact good5
 ·exact good9
 ·exact good21
 ·exact good22
 ·exact good24
 ·exact good25
 ·exact good27
 ·exact good28
 ·exact good30
 ·exact good33
 ·exact good35
 ·exact good36
 ·exact good38
 ·exact good39
 ·exact good41
 ·exact good46
 ·exact good50
 ·exact good61
 ·exact good63
 ·exact good64
 ·exact good65
 ·exact good67
 ·exact good69
 ·exact good71
 ·exact good73
 ·exact good75
 ·exact good76
 ·exact good78
 ·exact good80
 ·exact good84
 ·exact good92
 ·exact good98
 ·exact good100
 ·exact good103
 ·exact good113
 ·exact good114
 ·exact good116
 ·exact good123
 ·exact good128
 ·exact good130
 ·exact good133
 ·exact good158
 ·exact good162
 ·exact good166
 ·exact good168
 ·exact good169
 ·exact good171
 ·exact good216
 ·exact good219
 ·exact good239
 ·exact good241
 ·exact good302
 ·exact good311
 ·exact good336
 ·exact good339
 ·exact good366
 ·exact good368
 ·cases h
theorem gooe: ∀t,(ti t).eqb=true→eqAt Tryz.prog (ti t) t 5000∧Tryz.prog.eqGuardType Tryz.prog.depth t=false:=by
 intro t h
 have h0:=h
 unfold ti at h
 split at h
 ·cases h
 ·cases h
 ·cases h
 ·cases h
 ·cases h
 ·cases h
 ·cases h
 ·cases h
 ·cases h
 ·cases h
 ·cases h
 ·cases h
 ·cases h
 ·cases h
 ·cases h
 ·cases h
 ·cases h
 ·cases h
 ·cases h
 ·cases h
 ·cases h
 ·cases h
 ·cases h
 ·cases h
 ·cases h
 ·cases h
 ·cases h
 ·cases h
 ·cases h
 ·cases h
 ·cases h
 ·cases h
 ·cases h
 ·cases h
 ·cases h
 ·cases h
 ·cases h
 ·cases h
 ·cases h
 ·cases h
 ·cases h
 ·cases h
 ·cases h
 ·cases h
 ·cases h
 ·cases h
 ·exact ⟨eqAt_up eq166 (by decide),by kernel_rfl⟩
 ·exact ⟨eqAt_up eq168 (by decide),by kernel_rfl⟩
 ·cases h
 ·cases h
 ·cases h
 ·cases h
 ·cases h
 ·cases h
 ·cases h
 ·cases h
 ·cases h
 ·cases h
 ·cases h
 ·cases h
 ·cases h
theorem good:TGood Tryz.prog ti:=⟨good',gooe⟩
theorem cg2:ckOk ti ck 2:=by simp[ckOk,ti,ck]
theorem cg3:ckOk ti ck 3:=by simp[ckOk,ti,ck]
theorem cg4:ckOk ti ck 4:=by simp[ckOk,ti,ck]
theorem cg5:ckOk ti ck 5:=by simp[ckOk,ti,ck]
theorem cg9:ckOk ti ck 9:=by simp[ckOk,ti,ck]
theorem cg21:ckOk ti ck 21:=by simp[ckOk,ti,ck]
theorem cg22:ckOk ti ck 22:=by simp[ckOk,ti,ck]
theorem cg24:ckOk ti ck 24:=by simp[ckOk,ti,ck,contig]
theorem cg25:ckOk ti ck 25:=by simp[ckOk,ti,ck]
theorem cg27:ckOk ti ck 27:=by simp[ckOk,ti,ck,contig]
theorem cg28:ckOk ti ck 28:=by simp[ckOk,ti,ck]
theorem cg30:ckOk ti ck 30:=by simp[ckOk,ti,ck,contig]
theorem cg33:ckOk ti ck 33:=by simp[ckOk,ti,ck]
theorem cg35:ckOk ti ck 35:=by simp[ckOk,ti,ck,contig]
theorem cg36:ckOk ti ck 36:=by simp[ckOk,ti,ck]
theorem cg38:ckOk ti ck 38:=by simp[ckOk,ti,ck,contig]
theorem cg39:ckOk ti ck 39:=by simp[ckOk,ti,ck]
theorem cg41:ckOk ti ck 41:=by simp[ckOk,ti,ck,contig]
theorem cg46:ckOk ti ck 46:=by simp[ckOk,ti,ck,contig]
theorem cg50:ckOk ti ck 50:=by simp[ckOk,ti,ck,contig]
theorem cg61:ckOk ti ck 61:=by simp[ckOk,ti,ck]
theorem cg63:ckOk ti ck 63:=by simp[ckOk,ti,ck,contig]
theorem cg64:ckOk ti ck 64:=by simp[ckOk,ti,ck]
theorem cg65:ckOk ti ck 65:=by simp[ckOk,ti,ck]
theorem cg67:ckOk ti ck 67:=by simp[ckOk,ti,ck,contig]
theorem cg69:ckOk ti ck 69:=by simp[ckOk,ti,ck,contig]
theorem cg71:ckOk ti ck 71:=by simp[ckOk,ti,ck,contig]
theorem cg73:ckOk ti ck 73:=by simp[ckOk,ti,ck]
theorem cg75:ckOk ti ck 75:=by simp[ckOk,ti,ck,contig]
theorem cg76:ckOk ti ck 76:=by simp[ckOk,ti,ck]
theorem cg78:ckOk ti ck 78:=by simp[ckOk,ti,ck,contig]
theorem cg80:ckOk ti ck 80:=by simp[ckOk,ti,ck,contig]
theorem cg84:ckOk ti ck 84:=by simp[ckOk,ti,ck,contig]
theorem cg92:ckOk ti ck 92:=by simp[ckOk,ti,ck,contig]
theorem cg98:ckOk ti ck 98:=by simp[ckOk,ti,ck]
theorem cg100:ckOk ti ck 100:=by simp[ckOk,ti,ck]
theorem cg103:ckOk ti ck 103:=by simp[ckOk,ti,ck]
theorem cg113:ckOk ti ck 113:=by simp[ckOk,ti,ck,contig]
theorem cg114:ckOk ti ck 114:=by simp[ckOk,ti,ck]
theorem cg116:ckOk ti ck 116:=by simp[ckOk,ti,ck,contig]
theorem cg123:ckOk ti ck 123:=by simp[ckOk,ti,ck,contig]
theorem cg128:ckOk ti ck 128:=by simp[ckOk,ti,ck]
theorem cg130:ckOk ti ck 130:=by simp[ckOk,ti,ck]
theorem cg133:ckOk ti ck 133:=by simp[ckOk,ti,ck]
theorem cg158:ckOk ti ck 158:=by simp[ckOk,ti,ck]
theorem cg162:ckOk ti ck 162:=by simp[ckOk,ti,ck,contig]
theorem cg166:ckOk ti ck 166:=by simp[ckOk,ti,ck,contig]
theorem cg168:ckOk ti ck 168:=by simp[ckOk,ti,ck,contig]
theorem cg169:ckOk ti ck 169:=by simp[ckOk,ti,ck]
theorem cg171:ckOk ti ck 171:=by simp[ckOk,ti,ck,contig]
theorem cg216:ckOk ti ck 216:=by simp[ckOk,ti,ck,contig]
theorem cg219:ckOk ti ck 219:=by simp[ckOk,ti,ck,contig]
theorem cg239:ckOk ti ck 239:=by simp[ckOk,ti,ck]
theorem cg241:ckOk ti ck 241:=by simp[ckOk,ti,ck,contig]
theorem cg302:ckOk ti ck 302:=by simp[ckOk,ti,ck,contig]
theorem cg311:ckOk ti ck 311:=by simp[ckOk,ti,ck,contig]
theorem cg336:ckOk ti ck 336:=by simp[ckOk,ti,ck]
theorem cg339:ckOk ti ck 339:=by simp[ckOk,ti,ck,contig]
theorem cg366:ckOk ti ck 366:=by simp[ckOk,ti,ck]
theorem cg368:ckOk ti ck 368:=by simp[ckOk,ti,ck]
theorem cgood:CGood ti ck:=by
 intro t h
 unfold ti at h
 split at h
 ·exact cg2
 ·exact cg3
 ·exact cg4
 ·exact cg5
 ·exact cg9
 ·exact cg21
 ·exact cg22
 ·exact cg24
 ·exact cg25
 ·exact cg27
 ·exact cg28
 ·exact cg30
 ·exact cg33
 ·exact cg35
 ·exact cg36
 ·exact cg38
 ·exact cg39
 ·exact cg41
 ·exact cg46
 ·exact cg50
 ·exact cg61
 ·exact cg63
 ·exact cg64
 ·exact cg65
 ·exact cg67
 ·exact cg69
 ·exact cg71
 ·exact cg73
 ·exact cg75
 ·exact cg76
 ·exact cg78
 ·exact cg80
 ·exact cg84
 ·exact cg92
 ·exact cg98
 ·exact cg100
 ·exact cg103
 ·exact cg113
 ·exact cg114
 ·exact cg116
 ·exact cg123
 ·exact cg128
 ·exact cg130
 ·exact cg133
 ·exact cg158
 ·exact cg162
 ·exact cg166
 ·exact cg168
 ·exact cg169
 ·exact cg171
 ·exact cg216
 ·exact cg219
 ·exact cg239
 ·exact cg241
 ·exact cg302
 ·exact cg311
 ·exact cg336
 ·exact cg339
 ·exact cg366
 ·exact cg368
 ·cases h
theorem hm:Tryz.prog.follows .mixedOrders=true:=by kernel_rfl
end Go.Proofs.YtcgalnoekjnjoaaGreat
