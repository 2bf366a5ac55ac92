/- The rules by which statements are walked, as one set. Written by program. -/
import Derived.Test.YtgbdndlmdklefaaGreatEK11
import Derived.Test.YtgbdndlmdklefaaGreatEK12
import Derived.Test.YtgbdndlmdklefaaGreatEK10
import Derived.Laws.StructEq
set_option linter.unusedSimpArgs false
set_option linter.unusedVariables false
set_option maxHeartbeats 40000000
namespace Go.Proofs
open Go Go.Mu
theorem agg_len6{xs:List Int}(h:xs.length=6):∃x1 x2 x3 x4 x5 x6,xs=[x1,x2,x3,x4,x5,x6]:=by
 match xs,h with
 | [x1,x2,x3,x4,x5,x6],_=>exact⟨x1,x2,x3,x4,x5,x6,rfl⟩
theorem agg_len5{xs:List Int}(h:xs.length=5):∃x1 x2 x3 x4 x5,xs=[x1,x2,x3,x4,x5]:=by
 match xs,h with
 | [x1,x2,x3,x4,x5],_=>exact⟨x1,x2,x3,x4,x5,rfl⟩
theorem agg_len4{xs:List Int}(h:xs.length=4):∃x1 x2 x3 x4,xs=[x1,x2,x3,x4]:=by
 match xs,h with
 | [x1,x2,x3,x4],_=>exact⟨x1,x2,x3,x4,rfl⟩
theorem agg_len2{xs:List Int}(h:xs.length=2):∃x1 x2,xs=[x1,x2]:=by
 match xs,h with
 | [x1,x2],_=>exact⟨x1,x2,rfl⟩
theorem Tryz.ck3r(e:Bool)(d:Nat)(x:Int)(w:World):(Instr.checkKey e (d+1) 3 (.int .i64 x)).run Tryz.prog w= .ok () w:=by
 have hu:∀w,(underlying 3).run Tryz.prog w= .ok (.int .i64) w:=fun w=>run_underlying Tryz.underlying3 w
 simp only[Instr.checkKey,Sem.run_bind,hu,Result.andThen_ok,Sem.run_pure]
theorem Tryz.eq26r(d:Nat)(a1 a2 b1 b2:Int)(w:World):(Op.equalIn (d+2) 26 (.agg #[.int .i64 a1,.int .i64 a2]) (.agg #[.int .i64 b1,.int .i64 b2])).run Tryz.prog w= .ok (a1==b1&&(a2==b2)) w:=by
 rw[run_equalIn_struct w (d+1) 26 _ _ (by simp only[Program.fieldsOf,Tryz.underlying26]) (by kernel_rfl)]
 simp only[Program.fieldsOf,Tryz.underlying26]
 have ha3:∀w,(isAgg 3).run Tryz.prog w= .ok false w:=fun w=>run_agg (ty:=Tryz.ty) Tryz.tysOK (by rw[Tryz.ty3];rfl) w
 have hs3:∀w,(Go.sizeOf 3).run Tryz.prog w= .ok 1 w:=fun w=>run_size (ty:=Tryz.ty) Tryz.tysOK (by rw[Tryz.ty3];simp) w
 by_cases h1:a1=b1<;> by_cases h2:a2=b2<;> simp[Op.eqFields,part,ha3,hs3,run_equalIn_int _ _ _ _ _ _ _ Tryz.underlying3,h1,h2]
theorem Tryz.ck26r(e:Bool)(d:Nat)(a1 a2:Int)(w:World):(Instr.checkKey e (d+2) 26 (.agg #[.int .i64 a1,.int .i64 a2])).run Tryz.prog w= .ok () w:=by
 have hu:=fun w=>run_underlying Tryz.underlying26 w
 have ha3:∀w,(isAgg 3).run Tryz.prog w= .ok false w:=fun w=>run_agg (ty:=Tryz.ty) Tryz.tysOK (by rw[Tryz.ty3];rfl) w
 have hs3:∀w,(Go.sizeOf 3).run Tryz.prog w= .ok 1 w:=fun w=>run_size (ty:=Tryz.ty) Tryz.tysOK (by rw[Tryz.ty3];simp) w
 rw[show d+2=(d+1)+1 from rfl,Instr.checkKey]
 simp[hu,Std.Legacy.Range.forIn_eq_forIn_range',Std.Legacy.Range.size,List.range',part,ha3,hs3,Tryz.ck3r]
theorem Tryz.eq67r(d:Nat)(a1 a2 b1 b2:Int)(w:World):(Op.equalIn (d+2) 67 (.agg #[.int .i64 a1,.int .i64 a2]) (.agg #[.int .i64 b1,.int .i64 b2])).run Tryz.prog w= .ok (a1==b1&&(a2==b2)) w:=by
 rw[run_equalIn_struct w (d+1) 67 _ _ (by simp only[Program.fieldsOf,Tryz.underlying67]) (by kernel_rfl)]
 simp only[Program.fieldsOf,Tryz.underlying67]
 have ha3:∀w,(isAgg 3).run Tryz.prog w= .ok false w:=fun w=>run_agg (ty:=Tryz.ty) Tryz.tysOK (by rw[Tryz.ty3];rfl) w
 have hs3:∀w,(Go.sizeOf 3).run Tryz.prog w= .ok 1 w:=fun w=>run_size (ty:=Tryz.ty) Tryz.tysOK (by rw[Tryz.ty3];simp) w
 by_cases h1:a1=b1<;> by_cases h2:a2=b2<;> simp[Op.eqFields,part,ha3,hs3,run_equalIn_int _ _ _ _ _ _ _ Tryz.underlying3,h1,h2]
theorem Tryz.eq105r(d:Nat)(a1 a2 a3 a4 a5 a6 b1 b2 b3 b4 b5 b6:Int)(w:World):(Op.equalIn (d+3) 105 (.agg #[.int .i64 a1,.int .i64 a2,.int .i64 a3,.int .i64 a4,.int .i64 a5,.int .i64 a6]) (.agg #[.int .i64 b1,.int .i64 b2,.int .i64 b3,.int .i64 b4,.int .i64 b5,.int .i64 b6])).run Tryz.prog w= .ok (a1==b1&&(a2==b2&&(a3==b3&&(a4==b4&&(a5==b5&&(a6==b6)))))) w:=by
 rw[run_equalIn_struct w (d+2) 105 _ _ (by simp only[Program.fieldsOf,Tryz.underlying105]) (by kernel_rfl)]
 simp only[Program.fieldsOf,Tryz.underlying105]
 have ha3:∀w,(isAgg 3).run Tryz.prog w= .ok false w:=fun w=>run_agg (ty:=Tryz.ty) Tryz.tysOK (by rw[Tryz.ty3];rfl) w
 have hs3:∀w,(Go.sizeOf 3).run Tryz.prog w= .ok 1 w:=fun w=>run_size (ty:=Tryz.ty) Tryz.tysOK (by rw[Tryz.ty3];simp) w
 have ha26:∀w,(isAgg 26).run Tryz.prog w= .ok true w:=fun w=>run_agg (ty:=Tryz.ty) Tryz.tysOK (by rw[Tryz.ty26];rfl) w
 have hs26:∀w,(Go.sizeOf 26).run Tryz.prog w= .ok 2 w:=fun w=>run_size (ty:=Tryz.ty) Tryz.tysOK (by rw[Tryz.ty26];simp) w
 by_cases h1:a1=b1<;> by_cases h2:a2=b2<;> by_cases h3:a3=b3<;> by_cases h4:a4=b4<;> by_cases h5:a5=b5<;> by_cases h6:a6=b6<;> simp[Op.eqFields,part,ha3,ha26,hs3,hs26,run_equalIn_int _ _ _ _ _ _ _ Tryz.underlying3,Tryz.eq26r,h1,h2,h3,h4,h5,h6]
theorem Tryz.eq127r(d:Nat)(a1 a2 a3 a4 b1 b2 b3 b4:Int)(w:World):(Op.equalIn (d+2) 127 (.agg #[.int .i64 a1,.int .i64 a2,.int .i64 a3,.int .i64 a4]) (.agg #[.int .i64 b1,.int .i64 b2,.int .i64 b3,.int .i64 b4])).run Tryz.prog w= .ok (a1==b1&&(a2==b2&&(a3==b3&&(a4==b4)))) w:=by
 have hu:∀w,(underlying 127).run Tryz.prog w= .ok (.array 4 3) w:=fun w=>run_underlying Tryz.underlying127 w
 have ha3:∀w,(isAgg 3).run Tryz.prog w= .ok false w:=fun w=>run_agg (ty:=Tryz.ty) Tryz.tysOK (by rw[Tryz.ty3];rfl) w
 have hs3:∀w,(Go.sizeOf 3).run Tryz.prog w= .ok 1 w:=fun w=>run_size (ty:=Tryz.ty) Tryz.tysOK (by rw[Tryz.ty3];simp) w
 rw[show d+2=(d+1)+1 from rfl,Op.equalIn]
 by_cases h1:a1=b1<;> by_cases h2:a2=b2<;> by_cases h3:a3=b3<;> by_cases h4:a4=b4<;> simp[hu,Std.Legacy.Range.forIn_eq_forIn_range',Std.Legacy.Range.size,List.range',part,ha3,hs3,run_equalIn_int _ _ _ _ _ _ _ Tryz.underlying3,h1,h2,h3,h4]
theorem Tryz.ck127r(e:Bool)(d:Nat)(a1 a2 a3 a4:Int)(w:World):(Instr.checkKey e (d+2) 127 (.agg #[.int .i64 a1,.int .i64 a2,.int .i64 a3,.int .i64 a4])).run Tryz.prog w= .ok () w:=by
 have hu:=fun w=>run_underlying Tryz.underlying127 w
 have ha3:∀w,(isAgg 3).run Tryz.prog w= .ok false w:=fun w=>run_agg (ty:=Tryz.ty) Tryz.tysOK (by rw[Tryz.ty3];rfl) w
 have hs3:∀w,(Go.sizeOf 3).run Tryz.prog w= .ok 1 w:=fun w=>run_size (ty:=Tryz.ty) Tryz.tysOK (by rw[Tryz.ty3];simp) w
 rw[show d+2=(d+1)+1 from rfl,Instr.checkKey]
 simp[hu,Std.Legacy.Range.forIn_eq_forIn_range',Std.Legacy.Range.size,List.range',part,ha3,hs3,Tryz.ck3r]
theorem Tryz.eq210r(d:Nat)(a1 a2 a3 a4 a5 b1 b2 b3 b4 b5:Int)(w:World):(Op.equalIn (d+3) 210 (.agg #[.int .i64 a1,.int .i64 a2,.int .i64 a3,.int .i64 a4,.int .i64 a5]) (.agg #[.int .i64 b1,.int .i64 b2,.int .i64 b3,.int .i64 b4,.int .i64 b5])).run Tryz.prog w= .ok (a1==b1&&(a2==b2&&(a3==b3&&(a4==b4&&(a5==b5))))) w:=by
 rw[run_equalIn_struct w (d+2) 210 _ _ (by simp only[Program.fieldsOf,Tryz.underlying210]) (by kernel_rfl)]
 simp only[Program.fieldsOf,Tryz.underlying210]
 have ha3:∀w,(isAgg 3).run Tryz.prog w= .ok false w:=fun w=>run_agg (ty:=Tryz.ty) Tryz.tysOK (by rw[Tryz.ty3];rfl) w
 have hs3:∀w,(Go.sizeOf 3).run Tryz.prog w= .ok 1 w:=fun w=>run_size (ty:=Tryz.ty) Tryz.tysOK (by rw[Tryz.ty3];simp) w
 have ha26:∀w,(isAgg 26).run Tryz.prog w= .ok true w:=fun w=>run_agg (ty:=Tryz.ty) Tryz.tysOK (by rw[Tryz.ty26];rfl) w
 have hs26:∀w,(Go.sizeOf 26).run Tryz.prog w= .ok 2 w:=fun w=>run_size (ty:=Tryz.ty) Tryz.tysOK (by rw[Tryz.ty26];simp) w
 by_cases h1:a1=b1<;> by_cases h2:a2=b2<;> by_cases h3:a3=b3<;> by_cases h4:a4=b4<;> by_cases h5:a5=b5<;> simp[Op.eqFields,part,ha3,ha26,hs3,hs26,run_equalIn_int _ _ _ _ _ _ _ Tryz.underlying3,Tryz.eq26r,h1,h2,h3,h4,h5]
theorem Tryz.ck210r(e:Bool)(d:Nat)(a1 a2 a3 a4 a5:Int)(w:World):(Instr.checkKey e (d+3) 210 (.agg #[.int .i64 a1,.int .i64 a2,.int .i64 a3,.int .i64 a4,.int .i64 a5])).run Tryz.prog w= .ok () w:=by
 have hu:=fun w=>run_underlying Tryz.underlying210 w
 have ha3:∀w,(isAgg 3).run Tryz.prog w= .ok false w:=fun w=>run_agg (ty:=Tryz.ty) Tryz.tysOK (by rw[Tryz.ty3];rfl) w
 have hs3:∀w,(Go.sizeOf 3).run Tryz.prog w= .ok 1 w:=fun w=>run_size (ty:=Tryz.ty) Tryz.tysOK (by rw[Tryz.ty3];simp) w
 have ha26:∀w,(isAgg 26).run Tryz.prog w= .ok true w:=fun w=>run_agg (ty:=Tryz.ty) Tryz.tysOK (by rw[Tryz.ty26];rfl) w
 have hs26:∀w,(Go.sizeOf 26).run Tryz.prog w= .ok 2 w:=fun w=>run_size (ty:=Tryz.ty) Tryz.tysOK (by rw[Tryz.ty26];simp) w
 rw[show d+3=(d+2)+1 from rfl,Instr.checkKey]
 simp[hu,Std.Legacy.Range.forIn_eq_forIn_range',Std.Legacy.Range.size,List.range',part,ha3,ha26,hs3,hs26,Tryz.ck3r,Tryz.ck26r]
theorem Tryz.eqsOK:EqsOK Tryz.prog Tryz.ty:=by
 have heqn:∀t,(Tryz.ty t).eqn=true→t=26∨t=67∨t=105∨t=127:=by
  intro t ht
  unfold Tryz.ty tyOf at ht
  cases hf:Tryz.tyl.find? (fun p=>p.1==t) with
  | none=>rw[hf] at ht;cases ht
  | some p=>
   have h1:=List.mem_of_find?_eq_some hf
   have h2:=List.find?_some hf
   simp at h2;subst h2
   rw[hf] at ht
   have h3:(Tryz.tyl.all fun p=> !p.2.eqn||(p.1==26||p.1==67||p.1==105||p.1==127))=true:=rfl
   have h4:=List.all_eq_true.1 h3 p h1
   have ht':p.2.eqn=true:=ht
   simpa[ht',or_assoc] using h4
 have hkeyn:∀t,(Tryz.ty t).keyn=true→t=127∨t=210:=by
  intro t ht
  unfold Tryz.ty tyOf at ht
  cases hf:Tryz.tyl.find? (fun p=>p.1==t) with
  | none=>rw[hf] at ht;cases ht
  | some p=>
   have h1:=List.mem_of_find?_eq_some hf
   have h2:=List.find?_some hf
   simp at h2;subst h2
   rw[hf] at ht
   have h3:(Tryz.tyl.all fun p=> !p.2.keyn||(p.1==127||p.1==210))=true:=rfl
   have h4:=List.all_eq_true.1 h3 p h1
   have ht':p.2.keyn=true:=ht
   simpa[ht',or_assoc] using h4
 refine⟨fun t ht=>?_,fun t ht xs ys w h1 h2=>?_,fun t ht=>?_,fun t ht xs ys w h1 h2=>?_,fun t ht e xs w h1=>?_⟩
 ·rcases heqn t ht with rfl | rfl | rfl | rfl<;> kernel_rfl
 ·rcases heqn t ht with rfl | rfl | rfl | rfl
  ·obtain⟨u1,u2,rfl⟩:=agg_len2 h1
   obtain⟨v1,v2,rfl⟩:=agg_len2 h2
   have:=Tryz.eq26r 9998 u1 u2 v1 v2 w
   simpa[Op.equal,Op.maxDepth] using this
  ·obtain⟨u1,u2,rfl⟩:=agg_len2 h1
   obtain⟨v1,v2,rfl⟩:=agg_len2 h2
   have:=Tryz.eq67r 9998 u1 u2 v1 v2 w
   simpa[Op.equal,Op.maxDepth] using this
  ·obtain⟨u1,u2,u3,u4,u5,u6,rfl⟩:=agg_len6 h1
   obtain⟨v1,v2,v3,v4,v5,v6,rfl⟩:=agg_len6 h2
   have:=Tryz.eq105r 9997 u1 u2 u3 u4 u5 u6 v1 v2 v3 v4 v5 v6 w
   simpa[Op.equal,Op.maxDepth] using this
  ·obtain⟨u1,u2,u3,u4,rfl⟩:=agg_len4 h1
   obtain⟨v1,v2,v3,v4,rfl⟩:=agg_len4 h2
   have:=Tryz.eq127r 9998 u1 u2 u3 u4 v1 v2 v3 v4 w
   simpa[Op.equal,Op.maxDepth] using this
 ·rcases hkeyn t ht with rfl | rfl<;> (intro h;cases h)
 ·rcases hkeyn t ht with rfl | rfl
  ·obtain⟨u1,u2,u3,u4,rfl⟩:=agg_len4 h1
   obtain⟨v1,v2,v3,v4,rfl⟩:=agg_len4 h2
   have:=Tryz.eq127r 9998 u1 u2 u3 u4 v1 v2 v3 v4 w
   simpa[Op.equal,Op.maxDepth] using this
  ·obtain⟨u1,u2,u3,u4,u5,rfl⟩:=agg_len5 h1
   obtain⟨v1,v2,v3,v4,v5,rfl⟩:=agg_len5 h2
   have:=Tryz.eq210r 9997 u1 u2 u3 u4 u5 v1 v2 v3 v4 v5 w
   simpa[Op.equal,Op.maxDepth] using this
 ·rcases hkeyn t ht with rfl | rfl
  ·obtain⟨u1,u2,u3,u4,rfl⟩:=agg_len4 h1
   exact Tryz.ck127r e 9998 u1 u2 u3 u4 w
  ·obtain⟨u1,u2,u3,u4,u5,rfl⟩:=agg_len5 h1
   exact Tryz.ck210r e 9997 u1 u2 u3 u4 u5 w
theorem method_of{P:Program}{t:TypeId}{s:String}{f:FuncId}{fs:Array Field}(h1:((P.info? t).bind fun i=>i.methods.find? fun m=>m.name==s).map (fun m=>(m.path.toList,m.func))=some ([],some (f,false)))
  (h2:P.underlying t=some (.struct fs)) (n:Nat) (c:Value) (w:World):(method (n+1) t c s).run P w= .ok (f,c) w:=by
 cases hi:P.info? t with
 | none=>rw[hi] at h1;cases h1
 | some i=>
  rw[hi] at h1
  simp only[Option.bind_some] at h1
  cases hm:i.methods.find? (fun m=>m.name==s) with
  | none=>rw[hm] at h1;cases h1
  | some m=>
   rw[hm] at h1
   simp only[Option.map_some,Option.some.injEq,Prod.mk.injEq] at h1
   obtain⟨hp,hf⟩:=h1
   have hpe:m.path= #[]:=by apply Array.ext';simpa using hp
   simp[method,typeInfo,underlying,hi,hm,hpe,hf,follow,receiverAt,h2,Place.get,Sem.run_bind,Result.andThen_ok]
theorem method_tm{P:Program}{t:TypeId}{s:String}{f:FuncId}{fs:Array Field}(h1:((P.info? t).bind fun i=>i.methods.find? fun m=>m.name==s).map (fun m=>(m.path.toList,m.func))=some ([],some (f,false)))
  (h2:P.underlying t=some (.struct fs)) (n:Nat) (c:Value):Tm P (method (n+1) t c s) fun r=>r.1=f:=by
 unfold method typeInfo
 refine Tm_bind (Tm_bind (Tm_program ?_))
 split
 ·rename_i i hi
  rw[hi] at h1
  simp only[Option.bind_some] at h1
  refine Tm_pure ?_
  cases hm:i.methods.find? (fun m=>m.name==s) with
  | none=>rw[hm] at h1;cases h1
  | some m=>
   rw[hm] at h1
   simp only[Option.map_some,Option.some.injEq,Prod.mk.injEq] at h1
   obtain⟨hp,hf⟩:=h1
   have hpe:m.path= #[]:=by apply Array.ext';simpa using hp
   simp only[hpe,hf,follow]
   refine Tm_bind (Tm_pure ?_)
   refine Tm_bind ?_
   unfold receiverAt
   refine Tm_bind (Tm_underlyingP fun d hd=>?_)
   rw[h2] at hd
   simp only[Option.some.injEq] at hd
   subst hd
   exact rfl
 ·trivial
def Tryz.mt(t:TypeId)(s:String):Option FuncId:=if s= "musette/meter.is" then(if t=252 then some 229 else if t=254 then some 257 else if t=255 then some 258 else none) else none
theorem Tryz.mtOK(t:TypeId)(s:String)(f:FuncId)(h:Tryz.mt t s=some f)(c:Value)(w:World):(method (Tryz.prog.types.size+Made.depth) t c s).run Tryz.prog w= .ok (f,c) w:=by
 have hn:Tryz.prog.types.size+Made.depth=(Tryz.prog.types.size+(Made.depth-1))+1:=by
  have:1≤Made.depth:=by decide
  omega
 rw[hn]
 unfold Tryz.mt at h
 split at h
 ·rename_i hs;subst hs
  split at h
  ·rename_i ht;subst ht;simp at h;subst h
   exact method_of (by kernel_rfl) Tryz.underlying252 _ c w
  ·split at h
   ·rename_i ht;subst ht;simp at h;subst h
    exact method_of (by kernel_rfl) Tryz.underlying254 _ c w
   ·split at h
    ·rename_i ht;subst ht;simp at h;subst h
     exact method_of (by kernel_rfl) Tryz.underlying255 _ c w
    ·cases h
 ·cases h
set_option maxRecDepth 200000 in
theorem Tryz.mtOKT(t:TypeId)(s:String)(f:FuncId)(h:Tryz.mt t s=some f)(c:Value):Tm Tryz.prog (method (Tryz.prog.types.size+Made.depth) t c s) fun r=>r.1=f:=by
 have hn:Tryz.prog.types.size+Made.depth=(Tryz.prog.types.size+(Made.depth-1))+1:=by
  have:1≤Made.depth:=by decide
  omega
 rw[hn]
 unfold Tryz.mt at h
 split at h
 ·rename_i hs;subst hs
  split at h
  ·rename_i ht;subst ht;simp at h;subst h
   exact method_tm (by kernel_rfl) Tryz.underlying252 _ c
  ·split at h
   ·rename_i ht;subst ht;simp at h;subst h
    exact method_tm (by kernel_rfl) Tryz.underlying254 _ c
   ·split at h
    ·rename_i ht;subst ht;simp at h;subst h
     exact method_tm (by kernel_rfl) Tryz.underlying255 _ c
    ·cases h
 ·cases h
noncomputable def Tryz.E {S:MC Tryz.prog} (N:Nat) (ord:Nat→List Nat×List (Nat×List Nat)) (fs:FuncId→List AV→Option AV):Env:={P:=Tryz.prog,S:=S,ty:=Tryz.ty,N:=N,mt:=Tryz.mt,ord:=ord,fs:=fs}
theorem Tryz.EN{S:MC Tryz.prog}{N:Nat}{ord:Nat→List Nat×List (Nat×List Nat)}{fs:FuncId→List AV→Option AV}:(Tryz.E (S:=S) N ord fs).N=N:=rfl
theorem Tryz.Emt{S:MC Tryz.prog}{N:Nat}{ord:Nat→List Nat×List (Nat×List Nat)}{fs:FuncId→List AV→Option AV}:(Tryz.E (S:=S) N ord fs).mt=Tryz.mt:=rfl
theorem Tryz.EP{S:MC Tryz.prog}{N:Nat}{ord:Nat→List Nat×List (Nat×List Nat)}{fs:FuncId→List AV→Option AV}:(Tryz.E (S:=S) N ord fs).P=Tryz.prog:=rfl
theorem Tryz.Ety{S:MC Tryz.prog}{N:Nat}{ord:Nat→List Nat×List (Nat×List Nat)}{fs:FuncId→List AV→Option AV}:(Tryz.E (S:=S) N ord fs).ty=Tryz.ty:=rfl
theorem Tryz.Eord{S:MC Tryz.prog}{N:Nat}{ord:Nat→List Nat×List (Nat×List Nat)}{fs:FuncId→List AV→Option AV}:(Tryz.E (S:=S) N ord fs).ord=ord:=rfl
theorem Tryz.Efs{S:MC Tryz.prog}{N:Nat}{ord:Nat→List Nat×List (Nat×List Nat)}{fs:FuncId→List AV→Option AV}:(Tryz.E (S:=S) N ord fs).fs=fs:=rfl
theorem Tryz.mt_count:Tryz.mt 252 "musette/meter.is" = some 229:=rfl
theorem Tryz.mt_beat:Tryz.mt 254 "musette/meter.is" = some 257:=rfl
theorem Tryz.mt_higher:Tryz.mt 255 "musette/meter.is" = some 258:=rfl
set_option maxRecDepth 200000 in
theorem Tryz.envOK{S:MC Tryz.prog}(N:Nat)(ord:Nat→List Nat×List (Nat×List Nat))(fs:FuncId→List AV→Option AV)(h:∀f xs v,fs f xs=some v→PureV S f xs v):EnvOK (Tryz.E (S:=S) N ord fs):=⟨Tryz.tysOK,Tryz.eqsOK,Tryz.mtOK,Tryz.mtOKT,by kernel_rfl,h⟩
def fs0:FuncId→List AV→Option AV:=fun _ _=>none
theorem fs0_ok{S:MC Tryz.prog}:∀f xs v,fs0 f xs=some v→PureV S f xs v:=fun _ _ _ h=>by cases h
theorem Callable.of{P:Program}{f:FuncId}{fn:Func}(h1:P.funcs[f]? = some fn)(h2:fn.body.isNone=false)(h3:(fn.name== "runtime.NumGoroutine")=false):Callable P f:=⟨fn,h1,h3,h2⟩
theorem Tryz.ES_{S:MC Tryz.prog}{N:Nat}{ord:Nat→List Nat×List (Nat×List Nat)}{fs:FuncId→List AV→Option AV}:(Tryz.E (S:=S) N ord fs).S=S:=rfl
attribute [go_sem] Tryz.ES_
theorem PvE{E:Env}(hE:EnvOK E){f:FuncId}{fn:Func}{c:Code}{args:List AV}{v:AV}(hp:Plain v)(kp:Nat→Bool)(hf:E.P.funcs[f]? = some fn)(hb:fn.body=some c)
  (h:∀σ,ev E none 100000 [.code c] ⟨kp,[],number 0 args⟩ σ (retPost E fn.results.toList (Gives σ v)))
  (hN:fn.ntmps=E.N:=by kernel_rfl) (hA:args.length≤E.N:=by simp[Tryz.E]) (h2:fn.body.isNone=false:=by kernel_rfl) (h3:(fn.name== "runtime.NumGoroutine")=false:=by kernel_rfl) (hO:todoOK E [.code c]=true:=by kernel_rfl):PureV E.S f args v:=
 PureV.of_ev hE hp kp hf hb hN hA (Callable.of hf h2 h3) hO h
theorem AcE{E:Env}(hE:EnvOK E){f:FuncId}{fn:Func}{c:Code}{args:List AV}{σ:List AObj}{Q:AV→List AObj→Prop}(kp:Nat→Bool)(hf:E.P.funcs[f]? = some fn)(hb:fn.body=some c)
  (h:ev E none 100000 [.code c] ⟨kp,[],number 0 args⟩ σ (retPost E fn.results.toList Q))
  (hN:fn.ntmps=E.N:=by kernel_rfl) (hA:args.length≤E.N:=by simp[Tryz.E]) (h2:fn.body.isNone=false:=by kernel_rfl) (h3:(fn.name== "runtime.NumGoroutine")=false:=by kernel_rfl) (hO:todoOK E [.code c]=true:=by kernel_rfl):ACalls E.S f args σ Q:=
 ACalls.of_ev hE kp hf hb hN hA (Callable.of hf h2 h3) hO h
attribute [go_sem ↓] ev_nil ev_inBlock ev_inScope ev_inLoop ev_skip ev_label ev_seq ev_block ev_scope ev_condI ev_exitI ev_goto
attribute [go_sem ↓] ev_ret ev_region ev_draw ev_loop evK_eq evOps_nil evOps_plain evOps_guardA evNext_none evNext_some evD_nil evD_consW
attribute [go_sem ↓] evDp_plain evPc_call evDo_plain evDo_guardA evNextD_none evNextD_some evOp_move evOp_assign evOp_pick evOp_build evOp_fieldAddr
attribute [go_sem ↓] evOp_index evOp_indexAddr evOp_nilCheck evOp_bin evOp_unOp evOp_convert evOp_makeInterface evOp_makeFunc evOp_extract evOp_typeAssert evOp_slice evOp_len1
attribute [go_sem ↓] evOp_max evOp_min evOp_buildSlice evOp_makeSlice evOp_alloc evOp_box evOp_load evOp_store evOp_append evOp_callF evOp_invokeI
attribute [go_sem ↓] evOp_next evOp_makeMap evOp_lookup evOp_mapUpdate evOp_range ev_rangeI ev_beginI evOp_entry
attribute [go_sem] evIf_true evIf_false exO_some exO_none getO_some guardA_tt guardA_ff guardA_tf guardA_ft
attribute [go_sem] guardB_tt guardB_ff guardB_tf guardB_ft isSelf_nil isSelf_one isSelf_two evDs_true evDs_false callP_some givP_some
attribute [go_sem] nthO_zero nthO_succ recheck_nil recheck_cons reOK_plain callF_fn callF_yield callI_some callM_some callA_eq callO_give callO_none
attribute [go_sem] isInt isStrK keyOK ne_eq pop hop litOp aeval aevals ofVal ofVal1
attribute [go_sem] ofVals binS_true binS_false isNilC_tmp isNilC_int isNilC_bool isNilC_str isNilC_nil isNilC_iface isNilC_ptr nilA_eql nilA_neq
attribute [go_sem] giveA_some giveB_giveC giveC_true giveC_false giveC_decide giveC_beq giveC_bne giveC_ndecide giveC_list giveB_int giveB_str
attribute [go_sem] giveB_agg giveB_tup giveB_list giveB_iface giveB_fn give2_some giveR_some retPost_ret retPost_none oneOf_one oneOf_nil oneOf_more
attribute [go_sem] resAs resA1 Fr.put Fr.get Fr.anew ins lookA number dstOf_zero dstOf_succ exitTo_block exitTo_code
attribute [go_sem] exitTo_loop exitTo_scope exitTo_nil binA oneA apart litA fillA putAt_cons putAt_set subAt TK.agg
attribute [go_sem] lenA lenO List.getElem?_toArray maxA maxL minA minL intsA hget_at0 hget_at hset_at0 hset_at
attribute [go_sem] hset_hset length_hset appA appB_ff appB_nil appB_cons appB_own appF appV loadV storeV ofCells
attribute [go_sem] canonL elSz canonE nilA_eqlV nilA_neqV List.append_assoc if_true if_false ite_true ite_false dite_true decide_true
attribute [go_sem] decide_false Bool.false_eq_true Bool.true_eq_false true_and and_true false_and and_false true_or or_true false_or or_false not_true_eq_false
attribute [go_sem] not_false_eq_true false_implies true_implies implies_true forall_const and_self Bool.not_true Bool.not_false Bool.true_and Bool.and_true Bool.false_and Bool.and_false
attribute [go_sem] Bool.true_or Bool.or_true Bool.false_or Bool.or_false beq_self_eq_true decide_eq_true_eq decide_eq_false_iff_not Option.isSome_some Option.isSome_none Option.map_some Option.map_none Option.bind_some
attribute [go_sem] Option.bind_none Option.some.injEq List.length_cons List.length_nil List.getElem?_cons_zero List.getElem?_cons_succ List.getElem?_nil List.take_succ_cons List.take_zero List.drop_succ_cons List.drop_zero List.take_nil
attribute [go_sem] List.drop_nil List.cons_append List.nil_append List.append_nil List.length_append List.length_map List.set_cons_zero List.set_cons_succ List.map_cons List.map_nil Nat.zero_add Nat.add_zero
attribute [go_sem] ge_iff_le gt_iff_lt post_app post_nil wk_tup wk_agg wk_int wk_bool wk_str wk_iface wk_list wk1_agg
attribute [go_sem] wk1_int wk1_bool wk1_str wk1_list wk0_int wk0_bool wk0_str wk0_list wkL_nil wkL_cons AV.int.injEq AV.bool.injEq
attribute [go_sem] AV.str.injEq upd List.all_cons List.all_nil eq_self_iff_true and_imp spec1 spec2 spec3 tI_dec
attribute [go_sem] tIs_dec tRng_dec tRd_dec tEar_dec tT_dec decI_int decL_ints decL_rng decL_rd
attribute [go_sem] decL_nil decL_cons decs_cons decs_nil decs_ints decEar decRng decRd decRng_av decRd_av decT_agg
attribute [go_sem] leT leF ltT ltF eqT eqF nleT nltT wrapI tget Int.cast_ofNat_Int Int.natCast_add
attribute [go_sem] Nat.mul_one bne_self_eq_false idx_nat getElem?_at getElem?_at' set_at set_at' Rd_eta Rng_eta Rd_eta' neqT take_map
attribute [go_sem] neqF nltF cells_bool flat_bool cells_int flat_int cells_str flat_str cells_ptr flat_ptr cells_nilptr flat_nilptr
attribute [go_sem] cells_eptr flat_eptr cells_list flat_list cells_arr flat_arr cells_vec flat_vec cells_vptr flat_vptr cells_map flat_map
attribute [go_sem] cells_nilmap flat_nilmap cells_fn flat_fn cells_yield flat_yield cells_nilfn flat_nilfn cells_iface flat_iface cells_niliface flat_niliface
attribute [go_sem] cells_agg flat_agg putAt_map3 lookB updB Option.getD_some entR nextS_ptr
attribute [go_sem] nextSR_it nextSB_some nextSB_none convS_some convS_none bytesL cvO Tryz.EN Tryz.Ety Tryz.Eord Tryz.EP Tryz.Emt
attribute [go_sem] Tryz.Efs Tryz.ty1 Tryz.ty2 Tryz.ty3 Tryz.ty4 Tryz.ty5 Tryz.ty6 Tryz.ty8 Tryz.ty9 Tryz.ty10 Tryz.ty11 Tryz.ty12
attribute [go_sem] Tryz.ty14 Tryz.ty15 Tryz.ty16 Tryz.ty17 Tryz.ty19 Tryz.ty22 Tryz.ty23 Tryz.ty26 Tryz.ty27 Tryz.ty28 Tryz.ty30 Tryz.ty32
attribute [go_sem] Tryz.ty36 Tryz.ty37 Tryz.ty46 Tryz.ty47 Tryz.ty49 Tryz.ty51 Tryz.ty54 Tryz.ty64 Tryz.ty67 Tryz.ty105 Tryz.ty109 Tryz.ty111
attribute [go_sem] Tryz.ty113 Tryz.ty114 Tryz.ty116 Tryz.ty117 Tryz.ty119 Tryz.ty120 Tryz.ty127 Tryz.ty144 Tryz.ty146 Tryz.ty149 Tryz.ty164 Tryz.ty169
attribute [go_sem] Tryz.ty170 Tryz.ty179 Tryz.ty181 Tryz.ty184 Tryz.ty189 Tryz.ty190 Tryz.ty192 Tryz.ty195 Tryz.ty197 Tryz.ty198 Tryz.ty202 Tryz.ty203
attribute [go_sem] Tryz.ty205 Tryz.ty210 Tryz.ty213 Tryz.ty215 Tryz.ty225 Tryz.ty232 Tryz.ty234 Tryz.ty236 Tryz.ty239 Tryz.ty242 Tryz.ty243 Tryz.ty244
attribute [go_sem] Tryz.ty245 Tryz.ty247 Tryz.ty252 Tryz.ty254 Tryz.ty255 Tryz.ty262 Tryz.ty265 Tryz.ty268 Tryz.ty270 Tryz.ty275 Tryz.ty281 Tryz.ty282
attribute [go_sem] Tryz.ty284 Tryz.ty285 Tryz.ty286 Tryz.ty287 Tryz.ty288 Tryz.ty289 Tryz.ty290 Tryz.ty292 Tryz.ord6
attribute [go_sem] Tryz.ord16
attribute [go_sem] Tryz.ord19 Tryz.ord20 Tryz.ord25 Tryz.ord26 Tryz.ord33 Tryz.ord35
attribute [go_sem] Tryz.ord37 Tryz.ord40 Tryz.ord43 Tryz.ord44 Tryz.ord50 Tryz.ord51
attribute [go_sem] Tryz.ord57 Tryz.ord62 Tryz.ord64 Tryz.ord75
attribute [go_sem] Tryz.ord89 Tryz.ord92 Tryz.ord94 Tryz.ord101 Tryz.ord108
attribute [go_sem] Tryz.ord110 Tryz.ord111 Tryz.ord114 Tryz.ord115 Tryz.ord116 Tryz.ord117 Tryz.ord124 Tryz.ord126 Tryz.ord141 Tryz.ord147 Tryz.ord148
attribute [go_sem] Tryz.ord152 Tryz.ord159 Tryz.ord179 Tryz.ord182 Tryz.ord187
attribute [go_sem] Tryz.ord197 Tryz.ord198 Tryz.ord208
attribute [go_sem] Tryz.ord210
attribute [go_sem] Tryz.ord224 Tryz.ord229 Tryz.ord230
attribute [go_sem] Tryz.ord236 Tryz.ord237 Tryz.ord257 Tryz.ord258 Tryz.results0 Tryz.results1
attribute [go_sem] Tryz.results2 Tryz.results3 Tryz.results4 Tryz.results5 Tryz.results6 Tryz.results7 Tryz.results8 Tryz.results9 Tryz.results10 Tryz.results11 Tryz.results12 Tryz.results13
attribute [go_sem] Tryz.results14 Tryz.results15 Tryz.results16 Tryz.results17 Tryz.results18 Tryz.results19 Tryz.results20 Tryz.results21 Tryz.results22 Tryz.results23 Tryz.results24 Tryz.results25
attribute [go_sem] Tryz.results26 Tryz.results27 Tryz.results28 Tryz.results29 Tryz.results30 Tryz.results31 Tryz.results32 Tryz.results33 Tryz.results34 Tryz.results35 Tryz.results36 Tryz.results37
attribute [go_sem] Tryz.results38 Tryz.results39 Tryz.results40 Tryz.results41 Tryz.results42 Tryz.results43 Tryz.results44 Tryz.results45 Tryz.results46 Tryz.results47 Tryz.results48 Tryz.results49
attribute [go_sem] Tryz.results50 Tryz.results51 Tryz.results52 Tryz.results53 Tryz.results54 Tryz.results55 Tryz.results56 Tryz.results57 Tryz.results58 Tryz.results59 Tryz.results60 Tryz.results61
attribute [go_sem] Tryz.results62 Tryz.results63 Tryz.results64 Tryz.results65 Tryz.results66 Tryz.results67 Tryz.results68 Tryz.results69 Tryz.results70 Tryz.results71 Tryz.results72 Tryz.results73
attribute [go_sem] Tryz.results74 Tryz.results75 Tryz.results76 Tryz.results77 Tryz.results78 Tryz.results79 Tryz.results80 Tryz.results81 Tryz.results82 Tryz.results83 Tryz.results84 Tryz.results85
attribute [go_sem] Tryz.results86 Tryz.results87 Tryz.results88 Tryz.results89 Tryz.results90 Tryz.results91 Tryz.results92 Tryz.results93 Tryz.results94 Tryz.results95 Tryz.results96 Tryz.results97
attribute [go_sem] Tryz.results98 Tryz.results99 Tryz.results100 Tryz.results101 Tryz.results102 Tryz.results103 Tryz.results104 Tryz.results105 Tryz.results106 Tryz.results107 Tryz.results108 Tryz.results109
attribute [go_sem] Tryz.results110 Tryz.results111 Tryz.results112 Tryz.results113 Tryz.results114 Tryz.results115 Tryz.results116 Tryz.results117 Tryz.results118 Tryz.results119 Tryz.results120 Tryz.results121
attribute [go_sem] Tryz.results122 Tryz.results123 Tryz.results124 Tryz.results125 Tryz.results126 Tryz.results127 Tryz.results128 Tryz.results129 Tryz.results130 Tryz.results131 Tryz.results132 Tryz.results133
attribute [go_sem] Tryz.results134 Tryz.results135 Tryz.results136 Tryz.results137 Tryz.results138 Tryz.results139 Tryz.results140 Tryz.results141 Tryz.results142 Tryz.results143 Tryz.results144 Tryz.results145
attribute [go_sem] Tryz.results146 Tryz.results147 Tryz.results148 Tryz.results149 Tryz.results150 Tryz.results151 Tryz.results152 Tryz.results153 Tryz.results154 Tryz.results155 Tryz.results156 Tryz.results157
attribute [go_sem] Tryz.results158 Tryz.results159 Tryz.results160 Tryz.results161 Tryz.results162 Tryz.results163 Tryz.results164 Tryz.results165 Tryz.results166 Tryz.results167 Tryz.results168 Tryz.results169
attribute [go_sem] Tryz.results170 Tryz.results171 Tryz.results172 Tryz.results173 Tryz.results174 Tryz.results175 Tryz.results176 Tryz.results177 Tryz.results178 Tryz.results179 Tryz.results180 Tryz.results181
attribute [go_sem] Tryz.results182 Tryz.results183 Tryz.results184 Tryz.results185 Tryz.results186 Tryz.results187 Tryz.results188 Tryz.results189 Tryz.results190 Tryz.results191 Tryz.results192 Tryz.results193
attribute [go_sem] Tryz.results194 Tryz.results195 Tryz.results196 Tryz.results197 Tryz.results198 Tryz.results199 Tryz.results200 Tryz.results201 Tryz.results202 Tryz.results203 Tryz.results204 Tryz.results205
attribute [go_sem] Tryz.results206 Tryz.results207 Tryz.results208 Tryz.results209 Tryz.results210 Tryz.results211 Tryz.results212 Tryz.results213 Tryz.results214 Tryz.results215 Tryz.results216 Tryz.results217
attribute [go_sem] Tryz.results218 Tryz.results219 Tryz.results220 Tryz.results221 Tryz.results222 Tryz.results223 Tryz.results224 Tryz.results225 Tryz.results226 Tryz.results227 Tryz.results228 Tryz.results229
attribute [go_sem] Tryz.results230 Tryz.results231 Tryz.results232 Tryz.results233 Tryz.results234 Tryz.results235 Tryz.results236 Tryz.results237 Tryz.results238 Tryz.results239 Tryz.results240 Tryz.results241
attribute [go_sem] Tryz.results242 Tryz.results243 Tryz.results244 Tryz.results245 Tryz.results246 Tryz.results247 Tryz.results248 Tryz.results249 Tryz.results250 Tryz.results251 Tryz.results252 Tryz.results253
attribute [go_sem] Tryz.results254 Tryz.results255 Tryz.results256 Tryz.results257 Tryz.results258 Tryz.results259
attribute [go_sem] Tryz.kp16
attribute [go_sem] Tryz.kp19 Tryz.kp20 Tryz.kp21 Tryz.kp22 Tryz.kp23 Tryz.kp25 Tryz.kp26 Tryz.kp27 Tryz.kp28 Tryz.kp29
attribute [go_sem] Tryz.kp30 Tryz.kp33 Tryz.kp35 Tryz.kp37 Tryz.kp38 Tryz.kp39
attribute [go_sem] Tryz.kp42 Tryz.kp43 Tryz.kp44 Tryz.kp50 Tryz.kp51
attribute [go_sem] Tryz.kp58 Tryz.kp60 Tryz.kp61 Tryz.kp62 Tryz.kp63 Tryz.kp64
attribute [go_sem] Tryz.kp69 Tryz.kp74 Tryz.kp75 Tryz.kp76
attribute [go_sem] Tryz.kp84 Tryz.kp85 Tryz.kp86 Tryz.kp87 Tryz.kp88 Tryz.kp89
attribute [go_sem] Tryz.kp90 Tryz.kp91 Tryz.kp92 Tryz.kp93 Tryz.kp94 Tryz.kp96 Tryz.kp97 Tryz.kp99 Tryz.kp100 Tryz.kp101
attribute [go_sem] Tryz.kp102 Tryz.kp103 Tryz.kp104 Tryz.kp105 Tryz.kp106 Tryz.kp107 Tryz.kp108 Tryz.kp109 Tryz.kp110 Tryz.kp111 Tryz.kp112 Tryz.kp113
attribute [go_sem] Tryz.kp114 Tryz.kp115 Tryz.kp116 Tryz.kp117 Tryz.kp118 Tryz.kp119 Tryz.kp120 Tryz.kp121 Tryz.kp122 Tryz.kp123 Tryz.kp124 Tryz.kp125
attribute [go_sem] Tryz.kp126 Tryz.kp127 Tryz.kp128 Tryz.kp133 Tryz.kp136 Tryz.kp137
attribute [go_sem] Tryz.kp138 Tryz.kp139 Tryz.kp140 Tryz.kp141 Tryz.kp142 Tryz.kp143 Tryz.kp144 Tryz.kp145 Tryz.kp146 Tryz.kp147 Tryz.kp148 Tryz.kp149
attribute [go_sem] Tryz.kp150 Tryz.kp151 Tryz.kp152 Tryz.kp153 Tryz.kp154 Tryz.kp155 Tryz.kp156 Tryz.kp157 Tryz.kp158 Tryz.kp159 Tryz.kp160 Tryz.kp161
attribute [go_sem] Tryz.kp162 Tryz.kp169 Tryz.kp170 Tryz.kp171
attribute [go_sem] Tryz.kp178 Tryz.kp179 Tryz.kp180 Tryz.kp181 Tryz.kp182 Tryz.kp185
attribute [go_sem] Tryz.kp187 Tryz.kp188 Tryz.kp192 Tryz.kp193 Tryz.kp194 Tryz.kp195 Tryz.kp196 Tryz.kp197
attribute [go_sem] Tryz.kp198 Tryz.kp199 Tryz.kp200 Tryz.kp201 Tryz.kp202 Tryz.kp203 Tryz.kp204 Tryz.kp208 Tryz.kp209
attribute [go_sem] Tryz.kp210 Tryz.kp218
attribute [go_sem] Tryz.kp223 Tryz.kp224 Tryz.kp229 Tryz.kp230 Tryz.kp232
attribute [go_sem] Tryz.kp236 Tryz.kp237 Tryz.kp240
attribute [go_sem] Tryz.kp257
attribute [go_sem] Tryz.kp258
end Go.Proofs
