/- Texts of a proof: lemmas. -/
import Derived.Test.YtgbdndlmdklefaaGreatHK38
import Derived.Test.YtgbdndlmdklefaaGreatHK41
import Derived.Test.YtgbdndlmdklefaaGreatHK37
set_option linter.unusedSimpArgs false
set_option linter.unusedVariables false
set_option maxRecDepth 100000
set_option maxHeartbeats 40000000
namespace Go.Proofs
open Go Go.Mu Go.Ins
variable {S:MC Tryz.prog}
def lM(E:Env)(fr:Fr)(σ:List aa)(d:Tmp)(op:Op)(want:Bool):Option AV→Prop
 | some (.bool b)=>b=want→dD (fun v _=>fr.get d=some v) (hop E.ty fr σ op)
 | some (.tup [])=>True
 | _=>False
theorem PN{E:Env}{fr:Fr}{σ:List aa}{d:Tmp}{op:Op}:lM E fr σ d op false (some (.bool false))=dD (fun v _=>fr.get d=some v) (hop E.ty fr σ op):=by simp[lM]
theorem Ow{E:Env}{fr:Fr}{σ:List aa}{d:Tmp}{op:Op}:lM E fr σ d op false (some (.bool true))=True:=by simp[lM]
theorem J1{E:Env}{fr:Fr}{σ:List aa}{d:Tmp}{op:Op}{want:Bool}:lM E fr σ d op want (some (.tup []))=True:=rfl
theorem zX{E:Env}{all:List Oper}{fr:Fr}{σ:List aa}{d:Tmp}{op:Op}{type:TypeId}{pos:String}{after:Array Edge}{j:Nat}{want:Bool}:mE E all fr σ (some ⟨some d,op,type,pos,after,some (j,want)⟩)=lM E fr σ d op want (pI fr (dC all j)):=by
 have hd:dC all j=(all[j]?).bind (·.dst):=(lK all j).symm
 simp only[mE,bK,hd]
 cases(all[j]?).bind (·.dst) with
 | none=>simp[pI,lM]
 | some t=>
  simp only[pI]
  cases fr.get t with
  | none=>simp[lM]
  | some v=>
   cases v with
   | bool b=>
    simp only[lM]
    cases hb:b==want with
    | true=>
     have:b=want:=by simpa using hb
     simp only[this,true_implies]
     cases hop E.ty fr σ op with
     | none=>rfl
     | some q=>rfl
    | false=>
     have:¬b=want:=by simpa using hb
     simp[this]
   | tup l=>cases l<;> simp[lM]
   | _=>simp[lM]
attribute [go_sem] PN Ow J1 zX
/-! The reference's Tuners. -/
def devOf(t:Tn):Option Rng:=
 if t.ear.tones.length≤1000000∧t.ear.rds.length≤1000000∧1≤t.due∧t.due≤100000 then
  match cL t.ear with
  | ([x],e)=>if e=0∧(1≤x.lo∧x.lo≤100000)∧1≤x.hi∧x.hi≤100000 then some ⟨x.lo-t.due,x.hi-t.due⟩ else none
  | _=>none
 else none
theorem Eh{r:Ros}(hg:r.Good)(hf:r.Fit){t:Tn}(ht:t∈r.ents):devOf t=some (bF (bS t r.hands).1):=by
 obtain⟨a,b,e1,e2,e3,e4⟩:=hg.bF ht
 have hd:=(hg.ent t ht).2.2.1
 have hl:=hf.ear t ht
 unfold devOf
 rw[if_pos ⟨hl.1,hl.2,hd.1,hd.2⟩,e1]
 simp only
 rw[if_pos ⟨trivial,e3,e4.1,e4.2⟩,e2]
def yE:=jh tTn fun t=>(devOf t).map Rng.av
theorem O0:∀xs v,yE xs=some v→al S 114 xs v:=
 gB fun t v h=>by
  unfold devOf at h
  split at h
  ·rename_i hc
   split at h
   ·rename_i x e he
    split at h
    ·rename_i hb
     simp only[Option.map_some,Option.some.injEq] at h
     subst h
     obtain⟨rfl,hb1,hb2⟩:=hb
     refine PvE (Tryz.ah (S:=S) 26 Tryz.xW fE dJ) (Rng.plain _) Tryz.D8 Tryz.func114 rfl ?_
     intro σ
     obtain⟨day,hand,due,ear⟩:=t
     obtain⟨sl,ts,rs⟩:=ear
     obtain⟨a,b⟩:=x
     simp only at hc he hb1 hb2⊢
     show ev _ _ _ _ _ _ _
     simp only[tTn,Tn.av,Tn.cells]
     have hwa:IntKind.i64.wrap (a-due)=a-due:=wrap64 (by omega) (by omega)
     have hwb:IntKind.i64.wrap (b-due)=b-due:=wrap64 (by omega) (by omega)
     simp -implicitDefEqProofs (maxSteps:=9^9) (disch:=omega) only[go_sem,simprocAttr,he,RJ,hwa,hwb,Rng.av]
    ·cases h
   ·cases h
  ·cases h
def qA(f:FuncId)(xs:List AV):Option AV:=if f=114 then yE xs else ic f xs
theorem sc{S:MC Tryz.prog}:∀f xs v,qA f xs=some v→al S f xs v:=by
 intro f xs v h
 unfold qA at h
 split at h
 ·rename_i e;subst e;exact O0 _ _ h
 exact fq _ _ _ h
attribute [go_sem] qA yE
def zB(r:Ros)(X:List (List Int))(t:Tn)(d:Rng)(h:Nat):Bool:=X.any fun x=>eP r t d h (tg x h)
def iH(r:Ros)(X:List (List Int))(t:Tn)(d:Rng)(k:Nat):List Int:=((List.range k).filter fun h=>zB r X t d h).map fun(h:Nat)=>(h:Int)
theorem DO{r:Ros}{X:List (List Int)}{t:Tn}{d:Rng}{k:Nat}:iH r X t d (k+1)=iH r X t d k++if zB r X t d k=true then[(k:Int)] else[]:=by
 unfold iH
 rw[List.range_succ,List.filter_append,List.map_append]
 congr 1
 rw[List.filter_cons]
 split<;> rfl
theorem Bu{r:Ros}(hk:aC r []=0){i:Nat}(hi:i<r.ents.length):iH r (rkn r).2 (r.ents.getD i default) (((aq r).map bF).getD i default) r.hands.toNat=df (mM r (aq r) (aE r (aq r)) i):=by
 have hg:=ej hk
 have hh:=hg.hands
 have hro:bP r=0:=Classical.byContradiction fun c=>by rw[kz c] at hk;exact c hk
 rw[show rkn r=eO r from if_pos hk]
 rcases kD hg hro with⟨_,_,_,hm⟩ | ⟨h11,_⟩
 ·have hb:∀h:Nat,zB r (eO r).2 (r.ents.getD i default) (((aq r).map bF).getD i default) h=(aE r (aq r)).any fun x=>byB r (aq r) x i h:=fun h=>by
   unfold zB
   rw[Bool.eq_iff_iff,List.any_eq_true,List.any_eq_true]
   constructor
   ·rintro⟨x,hx,e⟩
    refine⟨gC x,(hm _).2 ⟨x,hx,rfl⟩,?_⟩
    rw[nY hg hi,nB];exact e
   ·rintro⟨u,hu,e⟩
    obtain⟨x,hx,rfl⟩:=(hm u).1 hu
    rw[nY hg hi,nB] at e
    exact⟨x,hx,e⟩
  unfold iH df mM
  congr 1
  have e4:(List.range 4)=List.range r.hands.toNat++(List.range (4-r.hands.toNat)).map (r.hands.toNat+ ·):=by
   rw[← List.range_add];congr 1;omega
  rw[e4,List.filter_append]
  have hz:((List.range (4-r.hands.toNat)).map (r.hands.toNat+ ·)).filter (fun n=>(bitsOf (fun h=>decide ((h:Int)<r.hands)&&(aE r (aq r)).any fun x=>byB r (aq r) x i h) 4).testBit n)=[]:=by
   rw[List.filter_eq_nil_iff]
   intro n hn c
   obtain⟨k,_,rfl⟩:=List.mem_map.1 hn
   rw[dM,Bool.and_eq_true,Bool.and_eq_true,decide_eq_true_eq,decide_eq_true_eq] at c
   omega
  rw[hz,List.append_nil]
  refine List.filter_congr fun h hh2=>?_
  have:=List.mem_range.1 hh2
  rw[dM,hb,decide_eq_true (show h<4 by omega),decide_eq_true (show(h:Int)<r.hands by omega),Bool.true_and,Bool.true_and]
 ·rw[hk] at h11;cases h11
theorem Gc(r:Ros)(hf:r.Fit)(e:Int):al S 57 [r.av,.int .i64 e] (.tup [ar (iQ r e),.int .i64 (gq r e)]):=by
 have hc:=nR (S:=S) r hf.sets hf.ents hf.ear
 rw[ve] at hc
 have hkn:=zM (S:=S) r hf
 have he:gq r e=if bP r≠0 then bP r else if mA r e≠0 then mA r e else aC r []:=by
  unfold gq aC
  simp only[bn]
  by_cases h1:bP r=0
  ·by_cases h2:mA r e=0
   ·simp[h1,h2]
   ·simp[h1,h2]
  ·simp[h1]
 have hl:iQ r e=if gq r e=0 then df (mM r (aq r) (aE r (aq r)) e.toNat) else[]:=rfl
 rw[hl]
 clear hl
 refine PvE (Tryz.ah (S:=S) 77 Tryz.xl qA sc) (.tup (by simp only[List.mem_cons,List.not_mem_nil,or_false,forall_eq_or_imp,forall_eq];exact⟨(cA _).2,.int⟩)) Tryz.Rz Tryz.func57 rfl ?_
 intro σ
 generalize gq r e=ee at *
 by_cases h1:bP r=0
 ·rw[h1] at hc
  rw[if_neg (fun c=>c h1)] at he
  have hw:IntKind.i64.wrap ((r.ents.length:Int)-1)=(r.ents.length:Int)-1:=wrap64 (by have:=hf.ents;omega) (by have:=hf.ents;omega)
  have hml:(r.ents.map Tn.av).length=r.ents.length:=by simp
  by_cases h2:0≤e∧e≤(r.ents.length:Int)-1
  ·have h2':decide (0≤e∧e≤(r.ents.length:Int)-1)=true:=decide_eq_true h2
   rw[show mA r e=0 from if_pos h2,if_neg (fun c=>c rfl)] at he
   subst he
   by_cases h3:aC r []=0
   ·obtain⟨i,rfl⟩:∃i:Nat,e=i:=⟨e.toNat,by omega⟩
    rw[if_pos h3,Int.toNat_natCast]
    have hi:i<r.ents.length:=by omega
    have hg:=ej h3
    have hh:=hg.hands
    have hsk:=hg.skill
    have hsl:=hg.setl
    have hts:=Bu h3 hi
    have hge:r.ents.getD i default=r.ents[i]:=by simp[List.getD,List.getElem?_eq_getElem hi]
    have hdd:((aq r).map bF).getD i default=bF (bS r.ents[i] r.hands).1:=by
     simp[aq,List.getD_eq_getElem?_getD,List.getElem?_eq_getElem hi]
    have hdv:=Eh hg hf (List.getElem_mem hi)
    have hdi:=BM hg (bF (bS r.ents[i] r.hands).1) (by
     rw[List.mem_map]
     exact⟨_,List.mem_map.2 ⟨_,List.getElem_mem hi,rfl⟩,rfl⟩)
    have hti:=(hg.ent _ (List.getElem_mem hi)).1
    have hidx:idx (r.ents.map Tn.av) (i:Int)=some (Tn.av r.ents[i]):=bu hi
    have hXl:(rkn r).2.length≤10000000:=by rw[show rkn r=eO r from if_pos h3];have:=zc hg.toHead;omega
    have hXi:∀x∈(rkn r).2,(x.length:Int)=r.hands∧∀n∈x, -5≤n∧n≤5:=by rw[show rkn r=eO r from if_pos h3];exact fun x hx=>vz hg.toHead hx
    rw[hge,hdd] at hts
    rw[← hts]
    clear hts hge hdd
    rw[h3] at hkn⊢
    generalize bF (bS r.ents[i] r.hands).1=D at *
    generalize r.ents[i]=t at *
    generalize (rkn r).1=A at *
    generalize (rkn r).2=X at *
    have h2i:((i:Int)≤(r.ents.length:Int)-1)=True:=eq_true (by omega)
    clear hg hf
    obtain⟨hands,skill,mn,mx,sets,ents⟩:=r
    obtain⟨day,hand,due,ear⟩:=t
    obtain⟨sl,ts,rs⟩:=ear
    obtain⟨dl,dh⟩:=D
    simp only[Tn.av,Tn.cells] at hidx
    simp only[Ros.av,c9] at hc hkn hml hw h2' h2i hh hsk hsl hXi hti hdi⊢
    simp -implicitDefEqProofs (maxSteps:=9^9) (disch:=omega) only[go_sem,simprocAttr]
    refine hc _ _ ?_
    simp -implicitDefEqProofs (maxSteps:=9^9) (disch:=omega) only[go_sem,simprocAttr,hml,hw,h2',h2i]
    refine hkn _ _ ?_
    simp -implicitDefEqProofs (maxSteps:=9^9) (disch:=omega) only[go_sem,simprocAttr]
    refine aj.ghost 10 1 (sz0:=0) rfl (by simp[ae]) ?_
    simp only[ins,↓reduceIte,List.append_assoc,List.cons_append,List.nil_append,List.length_append,List.length_cons,List.length_nil,Nat.zero_add,Nat.reduceEqDiff,Nat.reduceAdd]
    refine aj.bE (Tryz.ah (S:=S) 77 Tryz.xl qA sc) hands.toNat (fun _=>True) (fun k=>[(10,.list (.own (σ.length+1)) 1 ((iH ⟨hands,skill,mn,mx,sets,ents⟩ X ⟨day,hand,due,⟨sl,ts,rs⟩⟩ ⟨dl,dh⟩ k).map (.int .i64))),(11,.int .i64 k)]) (fun k _=>σ++[.cells [.int .i64 hands,.int .i64 skill,.int .i64 mn,.int .i64 mx,.list .no 2 (sets.map Sg.av),.list .no 6 (ents.map Tn.av)],.tail (iH ⟨hands,skill,mn,mx,sets,ents⟩ X ⟨day,hand,due,⟨sl,ts,rs⟩⟩ ⟨dl,dh⟩ k).length 1]) [] (by kernel_rfl) (by simp[iH]) (by simp[upd,ins,aw,ae,iH]) trivial ?_ ?_
    ·intro h j hh2 _ ih
     have hlt:((h:Int)<hands)=True:=eq_true (by omega)
     have hwh:IntKind.i64.wrap ((h:Int)+1)=((h+1:Nat):Int):=by rw[wrap64 (by omega) (by omega)];rfl
     have hRl:(iH ⟨hands,skill,mn,mx,sets,ents⟩ X ⟨day,hand,due,⟨sl,ts,rs⟩⟩ ⟨dl,dh⟩ h).length≤h:=by unfold iH;rw[List.length_map];exact Nat.le_trans (List.length_filter_le _ _) (by simp)
     rw[DO] at ih
     have hmb:zB ⟨hands,skill,mn,mx,sets,ents⟩ X ⟨day,hand,due,⟨sl,ts,rs⟩⟩ ⟨dl,dh⟩ h=X.any fun x=>eP ⟨hands,skill,mn,mx,sets,ents⟩ ⟨day,hand,due,⟨sl,ts,rs⟩⟩ ⟨dl,dh⟩ h (tg x h):=rfl
     rw[hmb] at ih
     clear hmb
     generalize iH ⟨hands,skill,mn,mx,sets,ents⟩ X ⟨day,hand,due,⟨sl,ts,rs⟩⟩ ⟨dl,dh⟩ h=R at hRl ih⊢
     simp -implicitDefEqProofs (maxSteps:=9^9) (disch:=omega) only[go_sem,simprocAttr,hlt]
     refine aj.bE (Tryz.ah (S:=S) 77 Tryz.xl qA sc) X.length (fun _=>True) (fun k=>[(12,.bool ((X.take k).any fun x=>eP ⟨hands,skill,mn,mx,sets,ents⟩ ⟨day,hand,due,⟨sl,ts,rs⟩⟩ ⟨dl,dh⟩ h (tg x h))),(13,.int .i64 k)]) (fun _ _=>σ++[.cells [.int .i64 hands,.int .i64 skill,.int .i64 mn,.int .i64 mx,.list .no 2 (sets.map Sg.av),.list .no 6 (ents.map Tn.av)],.tail R.length 1]) [] (by kernel_rfl) (by simp) (by simp[upd,ins,aw,ae]) trivial ?_ ?_
     ·intro k j2 hk _ ih2
      have hik:idx (X.map ar) (k:Int)=some (ar X[k]):=bu hk
      obtain⟨hx1,hx2⟩:=hXi _ (List.getElem_mem hk)
      have hwk:IntKind.i64.wrap ((k:Int)+1)=((k+1:Nat):Int):=by rw[wrap64 (by omega) (by omega)];rfl
      have hst:((X.take (k+1)).any fun x=>eP ⟨hands,skill,mn,mx,sets,ents⟩ ⟨day,hand,due,⟨sl,ts,rs⟩⟩ ⟨dl,dh⟩ h (tg x h))=(((X.take k).any fun x=>eP ⟨hands,skill,mn,mx,sets,ents⟩ ⟨day,hand,due,⟨sl,ts,rs⟩⟩ ⟨dl,dh⟩ h (tg x h))||eP ⟨hands,skill,mn,mx,sets,ents⟩ ⟨day,hand,due,⟨sl,ts,rs⟩⟩ ⟨dl,dh⟩ h (tg X[k] h)):=by
       rw[List.take_succ_eq_append_getElem hk,List.any_append];simp
      rw[hst] at ih2
      clear hst
      generalize ((X.take k).any fun x=>eP ⟨hands,skill,mn,mx,sets,ents⟩ ⟨day,hand,due,⟨sl,ts,rs⟩⟩ ⟨dl,dh⟩ h (tg x h))=B at *
      generalize X[k]=x at *
      have hix:idx (x.map (AV.int .i64)) (h:Int)=some (.int .i64 (tg x h)):=ix ⟨by omega,by omega⟩
      have hxh: -5≤tg x h∧tg x h≤5:=by
       have hl:h<x.length:=by omega
       have e:tg x h=x[h]:=by simp[tg,List.getD_eq_getElem?_getD,List.getElem?_eq_getElem hl]
       rw[e];exact hx2 _ (List.getElem_mem hl)
      have hok:sZ ⟨hands,skill,mn,mx,sets,ents⟩ ⟨day,hand,due,⟨sl,ts,rs⟩⟩ ⟨dl,dh⟩ (tg x h):=⟨⟨hsl,hsk⟩,hti,hdi,hxh⟩
      have hok':=eq_true hok
      clear hok
      generalize tg x h=n at *
      simp only[ar] at hik
      cases B
      ·cases hT:eP ⟨hands,skill,mn,mx,sets,ents⟩ ⟨day,hand,due,⟨sl,ts,rs⟩⟩ ⟨dl,dh⟩ h n
       ·rw[hT] at ih2
        simp -implicitDefEqProofs (maxSteps:=9^9) (disch:=omega) only[go_sem,simprocAttr,hidx,hik,hix,hdv,Option.map_some,Rng.av,hok',hT,hwk]
        exact(ih2 trivial []).ay rfl (by simp[upd,ins,aw,ae])
       ·rw[hT] at ih2
        simp -implicitDefEqProofs (maxSteps:=9^9) (disch:=omega) only[go_sem,simprocAttr,hidx,hik,hix,hdv,Option.map_some,Rng.av,hok',hT,hwk]
        exact(ih2 trivial []).ay rfl (by simp[upd,ins,aw,ae])
      ·simp -implicitDefEqProofs (maxSteps:=9^9) (disch:=omega) only[go_sem,simprocAttr,hidx,hik,hix,hwk]
       exact(ih2 trivial []).ay rfl (by simp[upd,ins,aw,ae])
     ·intro j2 _
      rw[List.take_length]
      generalize (X.any fun x=>eP ⟨hands,skill,mn,mx,sets,ents⟩ ⟨day,hand,due,⟨sl,ts,rs⟩⟩ ⟨dl,dh⟩ h (tg x h))=B at *
      cases B
      ·simp -implicitDefEqProofs (maxSteps:=9^9) (disch:=omega) only[go_sem,simprocAttr,hwh]
       exact(ih trivial []).ay (by simp) (by simp[upd,ins,aw,ae])
      ·simp -implicitDefEqProofs (maxSteps:=9^9) (disch:=omega) only[go_sem,simprocAttr,hwh]
       exact(ih trivial []).ay (by simp) (by simp[upd,ins,aw,ae])
    ·intro j _
     have hlt:(((hands.toNat:Nat):Int)<hands)=False:=eq_false (by omega)
     simp -implicitDefEqProofs (maxSteps:=9^9) (disch:=omega) only[go_sem,simprocAttr,ar,hlt]
   ·rw[if_neg h3]
    have h3':(aC r []=0)=False:=eq_false h3
    simp only[Ros.av,c9] at hc hkn⊢
    simp -implicitDefEqProofs (maxSteps:=9^9) (disch:=omega) only[go_sem,simprocAttr]
    refine hc _ _ ?_
    simp -implicitDefEqProofs (maxSteps:=9^9) (disch:=omega) only[go_sem,simprocAttr,hml,hw,h2']
    refine hkn _ _ ?_
    simp -implicitDefEqProofs (maxSteps:=9^9) (disch:=omega) only[go_sem,simprocAttr,h3',ar,List.map_nil]
  ·have h2':decide (0≤e∧e≤(r.ents.length:Int)-1)=false:=decide_eq_false h2
   rw[show mA r e=3 from if_neg h2,if_pos (by decide)] at he
   subst he
   rw[if_neg (by decide)]
   simp only[Ros.av] at hc⊢
   simp -implicitDefEqProofs (maxSteps:=9^9) (disch:=omega) only[go_sem,simprocAttr]
   refine hc _ _ ?_
   simp -implicitDefEqProofs (maxSteps:=9^9) (disch:=omega) only[go_sem,simprocAttr,hml,hw,h2',ar,List.map_nil]
 ·rw[if_pos h1] at he
  subst he
  rw[if_neg h1]
  have h1':(bP r=0)=False:=eq_false h1
  simp only[Ros.av] at hc⊢
  simp -implicitDefEqProofs (maxSteps:=9^9) (disch:=omega) only[go_sem,simprocAttr]
  refine hc _ _ ?_
  simp -implicitDefEqProofs (maxSteps:=9^9) (disch:=omega) only[go_sem,simprocAttr,h1',ar,List.map_nil]
end Go.Proofs
namespace Go.Proofs
open Go Go.Mu Go.Ins
theorem H6(r:Ros):(jq r).length≤4:=by
 unfold jq
 split
 ·rename_i h
  have:=(ej h).hands
  unfold dN
  rw[List.length_map,List.length_range]
  omega
 ·simp
theorem Be(r:Ros)(e:Int):(iQ r e).length≤4:=by
 unfold iQ
 split
 ·exact pc _
 ·simp
theorem rF(r:Ros)(x:Tn)(who entry:Int)(l:List Int)(hl:l.length≤4294967296)(h1:r.sets.length≤4294967296)(h2:r.ents.length≤4294967296)(h3:∀y∈r.ents,y.ear.tones.length≤4294967296∧y.ear.rds.length≤4294967296)(h4:x.ear.tones.length≤4294967296∧x.ear.rds.length≤4294967296)(σ:List aa) :
  ao aV 9 [r.av,x.av,.int .i64 who,.int .i64 entry,.list .no 1 (l.map (.int .i64))] σ fun v _=>v= .bool true:=by
 refine AcE (Tryz.ah (S:=aV) 133 Tryz.Ju iD fM) Tryz.kp9 Tryz.func9 rfl ?_
 have hcr:=F3 (S:=aV) r h1 h2 h3
 have hld:=x9 (S:=aV) x.ear h4.1 h4.2
 have hrs:=fun σ Q h=>FG r x l hl σ Q h
 have hfc:=@CD r
 have hfl:=@wH x.ear
 generalize hC:pY r=C at *
 generalize gY x.ear=Lo at *
 obtain⟨rav,hrav⟩:∃v,v=r.av:=⟨_,rfl⟩
 simp only[Ros.av,Tn.av,Tn.cells,Ear.av] at hcr hld hrs⊢
 cases C
 ·simp -implicitDefEqProofs (maxSteps:=9^9) (disch:=omega) only[go_sem,simprocAttr]
  refine hcr _ _ ?_
  cases Lo
  ·simp -implicitDefEqProofs (maxSteps:=9^9) (disch:=omega) only[go_sem,simprocAttr]
   refine hld _ _ ?_
   simp -implicitDefEqProofs (maxSteps:=9^9) (disch:=omega) only[go_sem,simprocAttr]
   refine hrs _ _ fun made rates by_ j hT=>?_
   have hF1:=hfc rfl
   have hF2:=hT.few (by omega)
   have hel:=hT.el
   have hF3:=hF2.snoc (x:=x) (by omega) (hfl rfl)
   obtain⟨RS,hRS⟩:∃RS,RS=[r,made,made.snoc x]:=⟨_,rfl⟩
   have hlen:RS.length=3:=by rw[hRS];rfl
   have hfew:∀y∈RS,y.Few:=fun y hy=>by rw[hRS] at hy;simp at hy;rcases hy with rfl | rfl | rfl<;> assumption
   rw[← hRS]
   clear hRS hF1 hF2 hF3 hT hcr hld hrs hfc hfl hel hC
   obtain⟨σ1,hσ1⟩:∃σ1,σ1=σ++(aa.cells [.int .i64 r.hands,.int .i64 r.skill,.int .i64 r.mn,.int .i64 r.mx,.list .no 2 (r.sets.map Sg.av),.list .no 6 (r.ents.map Tn.av)]::aa.cells [.int .i64 x.day,.int .i64 x.hand,.int .i64 x.due,.int .i64 x.ear.slack,.list .no 2 (x.ear.tones.map Rng.av),.list .no 6 (x.ear.rds.map Rd.av)]::j):=⟨_,rfl⟩
   simp only[List.append_assoc,List.cons_append,List.nil_append]
   rw[← hσ1]
   clear hσ1
   simp -implicitDefEqProofs (maxSteps:=9^9) (disch:=omega) only[go_sem,simprocAttr,hlen]
   refine aj.bE (Tryz.ah (S:=aV) 133 Tryz.Ju iD fM) 3 (fun _=>True) (fun i=>[(12,.int .i64 i)]) (fun _ j=>σ1++j) [] (by kernel_rfl) (by simp) (by simp[upd,ins,aw,ae]) trivial ?_ ?_
   ·intro i j hi _ ih
    have hidx:idx (RS.map Ros.av) (i:Int)=some (Ros.av (RS[i]'(by omega))):=bu (by omega)
    have hfy:=hfew _ (List.getElem_mem (l:=RS) (n:=i) (by omega))
    have hwi:IntKind.i64.wrap ((i:Int)+1)=((i+1:Nat):Int):=by rw[wrap64 (by omega) (by omega)];rfl
    have hi3:((i:Int)<3)=True:=eq_true (by omega)
    generalize RS[i]'(by omega)=y at *
    have hfit:=hfy.fit
    have hs1:=hfy.sets
    have hs2:=hfy.ents
    have hcp:=Dt y (by omega) (by omega) hfit.ear
    have h1:=uc y hfit
    have h2:=Bl (S:=aV) y hfit
    have h3:=OF y hfit who
    have h4:=KG (S:=aV) y hfit who
    have h5:=KX y hfit entry
    have h6:=Gc (S:=aV) y hfit entry
    have b1:=H6 y
    have b2:=CW y who
    have b3:=Be y entry
    have hss:=Io (S:=aV) y hfit.sets hfit.ents hfit.ear
    generalize jq y=n1 at *
    generalize aC y []=n2 at *
    generalize dE y who=n3 at *
    generalize bT y who=n4 at *
    generalize iQ y entry=n5 at *
    generalize gq y entry=n6 at *
    simp only[ar] at h1 h2 h3 h4 h5 h6
    have hav:y.av= .agg [.int .i64 y.hands,.int .i64 y.skill,.int .i64 y.mn,.int .i64 y.mx,.list .no 2 (y.sets.map Sg.av),.list .no 6 (y.ents.map Tn.av)]:=rfl
    rw[hav] at hidx hcp h1 h2 h3 h4 h5 h6 hss
    simp -implicitDefEqProofs (maxSteps:=9^9) (disch:=omega) only[go_sem,simprocAttr,hidx,hi3]
    refine hcp _ _ ?_
    simp -implicitDefEqProofs (maxSteps:=9^9) (disch:=omega) only[go_sem,simprocAttr,hidx]
    refine h1 _ _ ?_
    simp -implicitDefEqProofs (maxSteps:=9^9) (disch:=omega) only[go_sem,simprocAttr,hidx]
    refine h2 _ _ ?_
    simp -implicitDefEqProofs (maxSteps:=9^9) (disch:=omega) only[go_sem,simprocAttr,hidx]
    refine h3 _ _ ?_
    simp -implicitDefEqProofs (maxSteps:=9^9) (disch:=omega) only[go_sem,simprocAttr,hidx]
    refine h4 _ _ ?_
    simp -implicitDefEqProofs (maxSteps:=9^9) (disch:=omega) only[go_sem,simprocAttr,hidx]
    refine h5 _ _ ?_
    simp -implicitDefEqProofs (maxSteps:=9^9) (disch:=omega) only[go_sem,simprocAttr,hidx]
    refine h6 _ _ ?_
    simp -implicitDefEqProofs (maxSteps:=9^9) (disch:=omega) only[go_sem,simprocAttr,hidx]
    refine hss _ _ ?_
    simp -implicitDefEqProofs (maxSteps:=9^9) (disch:=omega) only[go_sem,simprocAttr,hidx,hwi]
    exact(ih trivial (j++[aa.cells [.int .i64 y.hands,.int .i64 y.skill,.int .i64 y.mn,.int .i64 y.mx,.list .no 2 (y.sets.map Sg.av),.list .no 6 (y.ents.map Tn.av)]])).ay rfl (by simp[upd,ins,aw,ae])
   ·intro j _
    simp -implicitDefEqProofs (maxSteps:=9^9) (disch:=omega) only[go_sem,simprocAttr,hlen]
    refine sw _ _ ?_
    simp -implicitDefEqProofs (maxSteps:=9^9) (disch:=omega) only[go_sem,simprocAttr]
  ·simp -implicitDefEqProofs (maxSteps:=9^9) (disch:=omega) only[go_sem,simprocAttr]
   refine hld _ _ ?_
   simp -implicitDefEqProofs (maxSteps:=9^9) (disch:=omega) only[go_sem,simprocAttr]
   refine sw _ _ ?_
   simp -implicitDefEqProofs (maxSteps:=9^9) (disch:=omega) only[go_sem,simprocAttr]
 ·simp -implicitDefEqProofs (maxSteps:=9^9) (disch:=omega) only[go_sem,simprocAttr]
  refine hcr _ _ ?_
  simp -implicitDefEqProofs (maxSteps:=9^9) (disch:=omega) only[go_sem,simprocAttr]
  refine sw _ _ ?_
  simp -implicitDefEqProofs (maxSteps:=9^9) (disch:=omega) only[go_sem,simprocAttr]
end Go.Proofs
