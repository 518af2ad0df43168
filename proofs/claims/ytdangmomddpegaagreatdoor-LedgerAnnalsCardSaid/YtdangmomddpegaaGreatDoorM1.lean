/- Definitions and lemmas of the proof, without a condition of their own. -/
import Derived.Test.YtdangmomddpegaaGreatDoorM0
import Derived.Laws.Slices
import Derived.ArgAppend
import Derived.Deep.Upon
import Derived.MapKept
import Derived.Maps.RangeRun
open Bool renaming and_eq_true→acW
open Go.Result renaming andThen_ok→acP
open Go.Sem renaming run_bind→acQ
open List renaming append_assoc→acL,eq_nil_of_length_eq_zero→acZ,flatten_cons→acI,getElem?_map→acY,getElem?_take_of_lt→acV,length_append→acC,length_map→acE,length_take→acT,map_append→acR,mem_append→acS,mem_of_getElem?→acH,nil_append→acM
open Nat renaming blt_eq→ac2,eq_of_beq_eq_true→acG,le_refl→acU
open Option.some renaming inj→ac1,injEq→acX
open UInt8 renaming ofNat→ac0
namespace Go.Sy
open Go Go.RowKit Go.Eng
section
variable {P:Program} {E:Env} {ρ:Ren} {G:GS} {F:List aH} {M:T} {nx:Nat} {w:World}
noncomputable def Qw (g:Bool) (Ty sz:Nat) (els:List (List AV)) (M:T) (nx:Nat) (K:T→Nat→Bool):Bool:=T.set cb M nx (some (.blk g Ty sz els)) fun M'=>fN (Nat.succ nx) fun n=>K M' n
theorem Ie (h:Sim E ρ G F M nx w) {Ty sz:Nat} {els:List (List AV)} {K:T→Nat→Bool} {xs:List Value} (hk:Qw false Ty sz els M nx K=true) (hlen:∀l∈els,l.length=sz) (hsz:0<sz) (hd:aR E ρ els.flatten=some xs):
  ∃M' ρ',ρ.Le ρ'∧ρ' nx=some ⟨w.heap.size,0⟩∧Sim E ρ' G F M' (nx+1) (w.alloc (.cells xs.toArray Ty))∧K M' (nx+1)=true:=by
 obtain⟨M',k1,k2,k3⟩:=T.set_ok _ _ _ _ _ hk
 rw[ck]at k1
 have hn:=h.fresh nx (acU _)
 exact⟨M',ρ.set nx ⟨w.heap.size,0⟩,Ren.le_set _ hn,Ren.set_self _ _ _,h.alloc (o:=.blk false Ty sz els) hn (Nat.le_succ _) (Nat.lt_succ_self _) ⟨hlen,hsz,xs.toArray,xs,rfl,hd,by simp⟩ k2 k3,k1⟩
noncomputable def QE (Ty:Nat) (cs:List AV) (M:T) (nx:Nat) (K:AV→T→Nat→Bool):Bool:=Qw false Ty (eG cs) [cs] M nx fun M' n=>K (.ptr nx 0) M' n
theorem Pb (h:Sim E ρ G F M nx w) {Ty:Nat} {cs:List AV} {K:AV→T→Nat→Bool} {xs:List Value} (hk:QE Ty cs M nx K=true) (hd:aR E ρ cs=some xs) (h0:cs≠[]):
  ∃M' ρ',ρ.Le ρ'∧Sim E ρ' G F M' (nx+1) (w.alloc (.cells xs.toArray Ty))∧K (.ptr nx 0) M' (nx+1)=true∧den E ρ' (.ptr nx 0)=some (.pointer (some ⟨w.heap.size,0,none⟩)):=by
 obtain⟨M',ρ',h1,h2,h3,h4⟩:=Ie h (xs:=xs) hk (fun l hl=>by simp only[List.mem_singleton]at hl;subst hl;exact(cT _).symm) (by rw[cT];exact List.length_pos_iff.2 h0) (by simpa using hd)
 exact⟨M',ρ',h1,h3,h4,by simp[den,h2]⟩
theorem Wp (h:Sim E ρ G F M nx w) {Ty:Nat} {cs:List AV} {K:AV→T→Nat→Bool} {zs:Array Value} (hz:mY P Ty=some zs) (hd:aR E ρ cs=some zs.toList) (h0:cs≠[]) (hk:QE Ty cs M nx K=true):
  ∃v M' nx' ρ' w' z,ρ.Le ρ'∧Sim E ρ' G F M' nx' w'∧K v M' nx'=true∧den E ρ' v=some z∧(Instr.alloc Ty true (.tuple #[])).run P w= .ok z w':=by
 obtain⟨M',ρ',h1,h2,h3,h4⟩:=Pb h hk hd h0
 refine⟨_,M',_,ρ',_,_,h1,h2,h3,h4,?_⟩
 obtain⟨z,hz1,hz2⟩:=EJ hz w
 subst hz2
 simp[Instr.alloc,hz1,newVar,newRow,newObj,Sem.run]
noncomputable def abP (Ty:Nat) (v:AV) (M:T) (nx:Nat) (K:AV→T→Nat→Bool):Bool:=ac (Nat.blt 0 (eG (cB v))) (QE Ty (cB v) M nx K)
theorem YG (hE:fM E) (h:Sim E ρ G F M nx w) {Ty:Nat} {v:AV} {K:AV→T→Nat→Bool} {x:Value} (hx:den E ρ v=some x) (hk:abP Ty v M nx K=true):
  ∃v M' nx' ρ' w' z,ρ.Le ρ'∧Sim E ρ' G F M' nx' w'∧K v M' nx'=true∧den E ρ' v=some z∧(Instr.box Ty x).run P w= .ok z w':=by
 obtain⟨k0,k1⟩:=aw hk
 rw[ac2,cT]at k0
 obtain⟨M',ρ',h1,h2,h3,h4⟩:=Pb h k1 (qg hE hx) (fun e=>by rw[e]at k0;simp at k0)
 exact⟨_,M',_,ρ',_,_,h1,h2,h3,h4,by simp[Instr.box,newVar,newRow,newObj,Sem.run]⟩
theorem MQ:∀(l:List Value) (cs:Array Value) (off k:Nat),off+k+l.length≤cs.size→((l.zipIdx k).foldl (fun cs p=>cs.setIfInBounds (off+p.2) p.1) cs)=eF cs (off+k) l
 |[],cs,off,k,_=>rfl
 |v::l,cs,off,k,h=>by
  simp only[List.length_cons]at h
  simp only[List.zipIdx_cons,List.foldl_cons,eF]
  rw[MQ l _ off (k+1) (by simp;omega),Nat.add_assoc]
noncomputable def KS (ps:List (Nat×AV)):List AV→(List AV→Bool)→Bool:=List.rec (fun cs K=>K cs) (fun p _ ih cs K=>ix cs p.1 (cB p.2) fun cs'=>ih cs' K) ps
theorem FD (hE:fM E) {place:Nat→Option (Nat×Nat)}:∀{ps:List (Nat×AV)} {is:List Nat} {vs:List Value} {cs:List AV} {K:List AV→Bool} {zs:Array Value},KS ps cs K=true→aR E ρ cs=some zs.toList→
  aR E ρ (ps.map (·.2))=some vs→ps.length=is.length→(∀(k:Nat) (p:Nat×AV) (i:Nat) (y:Value),ps[k]?=some p→is[k]?=some i→vs[k]?=some y→place i=some (p.1,y.cells.size))→
  ∃cs' zs',K cs'=true∧aR E ρ cs'=some zs'.toList∧Instr.fill place zs (is.zip vs)=some zs'∧zs'.size=zs.size
 |[],is,vs,cs,K,zs,h,hd,hv,hl,_=>by
  have:is=[]:=by cases is<;>simp at hl ⊢
  subst this
  exact⟨cs,zs,h,hd,by simp[Instr.fill],rfl⟩
 |(off,v)::ps,is,vs,cs,K,zs,h,hd,hv,hl,hp=>by
  obtain⟨i,is,rfl⟩:∃i is',is=i::is':=by
   cases is with
   |nil=>simp at hl
   |cons i is=>exact⟨i,is,rfl⟩
  have h':ix cs off (cB v) (fun cs'=>KS ps cs' K)=true:=h
  obtain⟨h1,h2⟩:=ef h'
  obtain⟨y,ys,hy,hys,rfl⟩:=bu (v:=v) (r:=ps.map (·.2)) hv
  have hc:=qg hE hy
  have hcl:=cV hc
  have hdl:=cV hd
  have hpl:=hp 0 (off,v) i y rfl rfl rfl
  have hb:off+y.cells.size≤zs.size:=by
   rw[←Array.length_toList (xs:=y.cells),hcl,←Array.length_toList (xs:=zs),hdl];exact h2
  have hsp:=rS y.cells.toList zs off (by rw[Array.length_toList];exact hb)
  have hd2:aR E ρ (cs.take off++cB v++cs.drop (off+(cB v).length))=some (eF zs off y.cells.toList).toList:=by
   rw[hsp]
   refine fr (fr (sF _ hd) hc) ?_
   rw[hcl]
   exact pj _ hd
  obtain⟨cs',zs',g1,g2,g3,g4⟩:=FD hE (place:=place) (ps:=ps) (is:=is) h1 hd2 hys (by simpa using hl) fun k p i y e1 e2 e3=>hp (k+1) p i y (by simpa using e1) (by simpa using e2) (by simpa using e3)
  refine⟨cs',zs',g1,g2,?_,by rw[g4,rq]⟩
  simp only[List.zip_cons_cons,Instr.fill,hpl]
  rw[if_neg (by simp;omega)]
  rw[←Array.foldl_toList,Array.toList_zipIdx]
  have:=MQ y.cells.toList zs off 0 (by rw[Array.length_toList];omega)
  rw[Nat.add_zero]at this
  simp only[this]
  exact g3
def te (P:Program) (t:TypeId) (i:Nat):Option (Nat×Nat):=match P.underlying t with
 |some (.struct fs)=>match fs[i]? with
  |some f=>(cj P f.type).map fun n=>(f.offset,n)
  |none=>none
 |some (.array _ e)=>(cj P e).map fun n=>(i*n,n)
 |some (.slice e)=>(cj P e).map fun n=>(i*n,n)
 |_=>none
def Hc (P:Program) (t:TypeId):Bool:=match P.underlying t with
 |some (.struct fs)=>fs.toList.all fun f=>(cj P f.type).isSome
 |some (.array _ e)=>(cj P e).isSome
 |_=>false
theorem Qr {fs:List Field} (h:∀f∈fs,(cj P f.type).isSome=true) (w:World):∃l:List (Nat×Nat),(fs.mapM (fun f=>(do pure (f.offset,←sizeOf f.type):Sem (Nat×Nat)))).run P w= .ok l w∧l.length=fs.length∧∀(i:Nat) (f:Field) (n:Nat),fs[i]?=some f→cj P f.type=some n→l[i]?=some (f.offset,n):=by
 induction fs with
 |nil=>exact⟨[],by simp[List.mapM_nil],rfl,fun i f n h=>by simp at h⟩
 |cons f fs ih=>
  obtain⟨l,h1,h2,h3⟩:=ih fun g hg=>h g (by simp[hg])
  obtain⟨n,hn⟩:=Option.isSome_iff_exists.1 (h f (by simp))
  refine⟨(f.offset,n)::l,?_,by simp[h2],fun i g m hi hm=> ?_⟩
  ·simp only[List.mapM_cons,acQ,Go.Eng.run_sizeOf hn,acP,h1,Sem.run_pure]
  ·cases i with
   |zero=>
    simp at hi;subst hi
    rw[hn]at hm;cases hm
    rfl
   |succ i=>simpa using h3 i g m (by simpa using hi) hm
theorem SB {t:TypeId} {zs zs':Array Value} (hz:mY P t=some zs) (hf:Hc P t=true) {is:List Nat} {vs:List Value} (hl:is.length=vs.length) (hfill:Instr.fill (te P t) zs (is.zip vs)=some zs') (hin:∀i∈is,te P t i≠none) (w:World):
  (Instr.build t (is.zip vs).toArray).run P w= .ok (.agg zs') w:=by
 obtain⟨z,hz1,rfl⟩:=EJ hz w
 unfold Hc at hf
 have hcong:∀(place place':Nat→Option (Nat×Nat)) (l:List (Nat×Value)) (zs:Array Value),(∀p∈l,place p.1=place' p.1)→Instr.fill place zs l=Instr.fill place' zs l:=by
  intro place place' l
  induction l with
  |nil=>intro zs _;rfl
  |cons p l ih=>
   intro zs h
   obtain⟨i,v⟩:=p
   simp only[Instr.fill,h (i,v) (by simp)]
   split
   ·rfl
   ·split
    ·rfl
    ·exact ih _ fun q hq=>h q (by simp[hq])
 have hmem:∀p∈is.zip vs,p.1∈is:=fun p hp=>(List.of_mem_zip hp).1
 split at hf
 ·rename_i fs hu
  obtain⟨l,h1,h2,h3⟩:=Qr (P:=P) (fs:=fs.toList) (fun f hf'=>by have:=List.all_eq_true.1 hf f hf';simpa using this) w
  have hm:(fs.mapM (fun f=>(do pure (f.offset,←sizeOf f.type):Sem (Nat×Nat)))).run P w= .ok l.toArray w:=by
   rw[Array.mapM_eq_mapM_toList]
   show Sem.run P (List.mapM _ fs.toList >>= fun a=>pure a.toArray) w=_
   rw[acQ,h1]
   rfl
  simp only[Instr.build,acQ,hz1,acP,run_underlying hu,hm]
  rw[hcong _ (te P t) _ _ (fun p hp=> ?_),hfill]
  ·rfl
  ·have hne:=hin p.1 (hmem p hp)
   unfold te at hne ⊢
   rw[hu]at hne ⊢
   simp only at hne ⊢
   rcases hf':fs[p.1]? with _|f
   ·simp[hf']at hne
   ·simp only[hf']at hne ⊢
    rcases hs:cj P f.type with _|n
    ·simp[hs]at hne
    ·simpa using h3 p.1 f n (by simpa using hf') hs
 ·rename_i n e hu
  obtain⟨m,hm⟩:=Option.isSome_iff_exists.1 hf
  have hp:∀i,te P t i=some (i*m,m):=fun i=>by simp[te,hu,hm]
  simp only[Instr.build,acQ,hz1,acP,run_underlying hu,Go.Eng.run_sizeOf hm]
  rw[hcong _ (te P t) _ _ (fun p _=>(hp p.1).symm),hfill]
  rfl
 ·cases hf
noncomputable def abR (z:List AV) (ps:List (Nat×AV)) (K:AV→Bool):Bool:=KS ps z fun cs=>K (.agg cs)
def CT (P:Program) (t:TypeId) (is:List Nat) (ps:List (Nat×Nat)):Bool:=decide (is.map (te P t)=ps.map some)
theorem YH (hE:fM E) {t:TypeId} {z:List AV} {zs:Array Value} (hz:mY P t=some zs) (hzd:aR E ρ z=some zs.toList) (hf:Hc P t=true) {is:List Nat} {ps:List (Nat×Nat)} (hp:CT P t is ps=true) {vs:List AV} {ys:List Value} {K:AV→Bool}
  (hv:aR E ρ vs=some ys) (hlen:vs.length=is.length) (hsz:∀(k:Nat) (p:Nat×Nat) (y:Value),ps[k]?=some p→ys[k]?=some y→y.cells.size=p.2) (hk:abR z ((ps.map (·.1)).zip vs) K=true):
  ∃u x,den E ρ u=some x∧K u=true∧∀w,(Instr.build t (is.zip ys).toArray).run P w= .ok x w:=by
 have hp:is.map (te P t)=ps.map some:=of_decide_eq_true hp
 have hpl:ps.length=is.length:=by have:=congrArg List.length hp;simpa using this.symm
 have hyl:=cV hv
 have h2:((ps.map (·.1)).zip vs).map (·.2)=vs:=by
  rw[List.map_snd_zip];simp;omega
 obtain⟨cs',zs',g1,g2,g3,g4⟩:=FD hE (place:=te P t) (is:=is) (vs:=ys) hk hzd (by rw[h2];exact hv) (by simp;omega) fun k p i y e1 e2 e3=>by
  have h3:(is.map (te P t))[k]?=(ps.map some)[k]?:=by rw[hp]
  rw[acY,acY,e2]at h3
  obtain⟨q,hq,hq2⟩:∃q,ps[k]?=some q∧p.1=q.1:=by
   rw[List.getElem?_zip_eq_some]at e1
   rw[acY]at e1
   obtain⟨e4,_⟩:=e1
   rcases hq:ps[k]? with _|q
   ·rw[hq]at e4;simp at e4
   ·rw[hq]at e4;simp at e4;exact⟨q,rfl,e4.symm⟩
  rw[hq]at h3
  simp at h3
  rw[h3,hq2,hsz k q y hq e3]
 refine⟨_,.agg zs',by simp[den,g2],g1,fun w=>SB hz hf (by omega) g3 (fun i hi=> ?_) w⟩
 obtain⟨k,hk'⟩:=List.mem_iff_getElem?.1 hi
 have h3:(is.map (te P t))[k]?=(ps.map some)[k]?:=by rw[hp]
 rw[acY,acY,hk']at h3
 rcases hq:ps[k]? with _|q
 ·rw[hq]at h3;simp at h3
 ·rw[hq]at h3;simp at h3;rw[h3];simp
end
noncomputable def Na (sz:Nat):Nat→List AV→(List (List AV)→Bool)→Bool:=Nat.rec (fun l K=>List.casesOn l (K []) (fun _ _=>false)) (fun _ ih l K=>DO l sz fun a=>ih (AT l sz) fun r=>K (a::r))
theorem Kk {sz:Nat}:∀{n:Nat} {l:List AV} {K:List (List AV)→Bool},Na sz n l K=true→∃els,K els=true∧els.flatten=l∧(∀e∈els,e.length=sz)∧els.length=n
 |0,l,K,h=>by
  cases l with
  |nil=>exact⟨[],h,rfl,by simp,rfl⟩
  |cons a l=>cases h
 |n+1,l,K,h=>by
  have h':DO l sz (fun a=>Na sz n (AT l sz) fun r=>K (a::r))=true:=h
  obtain⟨h1,h2⟩:=xz h'
  rw[uX]at h1
  obtain⟨els,h3,h4,h5,h6⟩:=Kk h1
  refine⟨_,h3,?_,?_,by simp[h6]⟩
  ·rw[acI,h4,List.take_append_drop]
  ·intro e he
   rcases List.mem_cons.1 he with rfl|he
   ·rw[acT];omega
   ·exact h5 e he
noncomputable def Qu (z:List AV):Nat→(List (List AV)→Bool)→Bool:=Nat.rec (fun K=>K []) (fun _ ih K=>ih fun r=>K (z::r))
theorem OQ (z:List AV):∀(n:Nat) (K:List (List AV)→Bool),Qu z n K=K (List.replicate n z)
 |0,_=>rfl
 |n+1,K=>by
  have:Qu z (n+1) K=Qu z n (fun r=>K (z::r)):=rfl
  rw[this,OQ z n];rfl
theorem Vp {z:Array Value} {sz:Nat} (hz:z.size=sz) (h0:0<sz) (c:Nat):madeCells z (c*sz)=(List.replicate c z.toList).flatten.toArray:=by
 apply Array.ext'
 apply List.ext_getElem?
 intro i
 have hfl:(List.replicate c z.toList).flatten.length=c*sz:=by
  rw[fq (sz:=sz) (fun l hl=>by rw[List.eq_of_mem_replicate hl];simpa using hz)]
  simp
 rcases Nat.lt_or_ge i (c*sz) with hi|hi
 ·have hr:i % sz<sz:=Nat.mod_lt _ h0
  have hq:i / sz<c:=Nat.div_lt_of_lt_mul (by rw[Nat.mul_comm];exact hi)
  have h1:(List.replicate c z.toList)[i / sz]?=some z.toList:=by rw[List.getElem?_replicate];simp[hq]
  have h2:z.toList[i % sz]?=some (z[i % sz]'(by omega)):=by simp
  have h3:=BR (sz:=sz) (fun l hl=>by rw[List.eq_of_mem_replicate hl];simpa using hz) h1 h2
  rw[Nat.mul_comm,Nat.div_add_mod]at h3
  simp only[List.toList_toArray]
  rw[h3]
  simp[madeCells,hi,hz,hr]
 ·rw[List.getElem?_eq_none (by simp[madeCells];exact hi),List.getElem?_eq_none (by simp only[List.toList_toArray];omega)]
section
variable {P:Program} {E:Env} {ρ:Ren} {G:GS} {F:List aH} {M:T} {nx:Nat} {w:World}
noncomputable def abO (Ty sz len:Nat) (z:List AV) (ps:List (Nat×AV)) (M:T) (nx:Nat) (K:AV→T→Nat→Bool):Bool:=
 ac (Nat.blt 0 sz) (KS ps z fun cs=>Na sz len cs fun els=>Qw false Ty sz els M nx fun M' n=>K (.sl nx 0 len (.ex len)) M' n)
def CN (P:Program) (Ty sz len:Nat):Option (List Value):=match P.info? Ty with
 |some i=>match i.zero with
  |some z=>bif Nat.beq i.size sz&&Nat.ble (len*sz) 16777216&&Nat.beq z.cells.size sz then some ((List.range (len*sz)).map fun j=>z.cells[j % sz]!) else none
  |none=>none
 |none=>none
theorem YF (hE:fM E) (h:Sim E ρ G F M nx w) {t Ty sz len:Nat} (ht:P.underlying t=some (.slice Ty)) {z:List AV} {zs:List Value} (hz:CN P Ty sz len=some zs) (hzd:aR E ρ z=some zs) {is:List Nat} {ps:List (Nat×Nat)}
  (hp:CT P t is ps=true) {vs:List AV} {ys:List Value} {K:AV→T→Nat→Bool} (hv:aR E ρ vs=some ys) (hlen:vs.length=is.length) (hsz:∀(k:Nat) (p:Nat×Nat) (y:Value),ps[k]?=some p→ys[k]?=some y→y.cells.size=p.2)
  (hk:abO Ty sz len z ((ps.map (·.1)).zip vs) M nx K=true):
  ∃v M' nx' ρ' w' x,ρ.Le ρ'∧Sim E ρ' G F M' nx' w'∧K v M' nx'=true∧den E ρ' v=some x∧(Instr.buildSlice t len (is.zip ys).toArray).run P w= .ok x w':=by
 obtain⟨hs0,hk⟩:=aw hk
 rw[ac2]at hs0
 have hp:is.map (te P t)=ps.map some:=of_decide_eq_true hp
 have hpl:ps.length=is.length:=by have:=congrArg List.length hp;simpa using this.symm
 have hyl:=cV hv
 have h2:((ps.map (·.1)).zip vs).map (·.2)=vs:=by
  rw[List.map_snd_zip];simp;omega
 unfold CN at hz
 rcases hi:P.info? Ty with _|inf
 ·simp[hi]at hz
 rcases hi2:inf.zero with _|z0
 ·simp[hi,hi2]at hz
 simp only[hi,hi2]at hz
 cases hb:(Nat.beq inf.size sz&&Nat.ble (len*sz) 16777216&&Nat.beq z0.cells.size sz) with
 |false=>simp[hb]at hz
 |true=>
 simp only[hb,cond_true,acX]at hz
 simp only[acW,Nat.beq_eq,Nat.ble_eq]at hb
 obtain⟨⟨q1,q2⟩,q3⟩:=hb
 have hszof:cj P Ty=some sz:=by simp[cj,hi,q1]
 have hplc:∀i,te P t i=some (i*sz,sz):=fun i=>by simp[te,ht,hszof]
 obtain⟨cs',zs',g1,g2,g3,g4⟩:=FD hE (place:=fun i=>some (i*sz,sz)) (is:=is) (vs:=ys) (zs:=zs.toArray) hk (by simpa using hzd) (by rw[h2];exact hv) (by simp;omega) fun k p i y e1 e2 e3=>by
  have h3:(is.map (te P t))[k]?=(ps.map some)[k]?:=by rw[hp]
  rw[acY,acY,e2]at h3
  obtain⟨q,hq,hq2⟩:∃q,ps[k]?=some q∧p.1=q.1:=by
   rw[List.getElem?_zip_eq_some,acY]at e1
   obtain⟨e4,_⟩:=e1
   rcases hq:ps[k]? with _|q
   ·rw[hq]at e4;simp at e4
   ·rw[hq]at e4;simp at e4;exact⟨q,rfl,e4.symm⟩
  rw[hq]at h3
  simp only[Option.map_some,acX,hplc]at h3
  rw[h3,hq2,hsz k q y hq e3]
 obtain⟨els,k1,k2,k3,k4⟩:=Kk g1
 obtain⟨M',ρ',m1,m2,m3,m4⟩:=Ie h k1 k3 hs0 (by rw[k2];exact g2)
 refine⟨_,M',_,ρ',_,_,m1,m3,m4,by simp[den,m2,dF];rfl,?_⟩
 have e1:((Array.range (len*sz)).map (z0.cells[· % z0.cells.size]!))=zs.toArray:=by
  rw[←hz,q3]
  apply Array.ext'
  simp
 have hszr:=Go.Eng.run_sizeOf hszof
 have hzv:(zeroValue Ty:Sem Value).run P w= .ok z0 w:=by simp[zeroValue,typeInfo,hi,hi2]
 simp only[Instr.buildSlice,acQ,run_underlying ht,acP,hszr,if_neg (show¬len*sz > 2 ^ 24 by omega)]
 by_cases h0:len*sz=0
 ·have hzs:zs=[]:=by rw[←hz,h0];rfl
  simp only[h0,if_true,Sem.run_pure,acP,Array.range_zero',Array.map_empty]
  rw[hzs]at g3
  simp[g3,newRow,newObj,Sem.run]
 ·simp only[h0,if_false,acQ,hzv,acP,Sem.run_pure,e1,g3]
  simp[newRow,newObj,Sem.run]
noncomputable def aba (Ty sz bytes:Nat) (z:List AV) (vl vc:AV) (M:T) (nx:Nat) (K:AV→T→Nat→Bool):Bool:=
 ks vl fun _ l=>ks vc fun _ c=>Int.casesOn l (fun l=>Int.casesOn c (fun c=>ac (Nat.ble l c) (ac (Nat.ble (Nat.mul bytes c) 1000000) (ac (Nat.ble c 1000000) (ac (Nat.blt 0 sz) (ac (Nat.beq (eG z) sz) (Qu z c fun els=>Qw false Ty sz els M nx fun M' n=>K (.sl nx 0 l (.ex c)) M' n))))))
  (fun _=>false)) (fun _=>false)
theorem XY (h:Sim E ρ G F M nx w) {t Ty sz bytes:Nat} (ht:P.underlying t=some (.slice Ty)) (he:ll P Ty sz bytes=true) {z:List AV} {zs:Array Value} (hz:mY P Ty=some zs) (hzd:aR E ρ z=some zs.toList) {vl vc:AV} {xl xc:Value} (hl:den E ρ vl=some xl) (hc:den E ρ vc=some xc)
  {K:AV→T→Nat→Bool} (hk:aba Ty sz bytes z vl vc M nx K=true):∃v M' nx' ρ' w' x,ρ.Le ρ'∧Sim E ρ' G F M' nx' w'∧K v M' nx'=true∧den E ρ' v=some x∧(Instr.makeSlice t xl xc).run P w= .ok x w':=by
 obtain⟨k1,l,rfl,hk1⟩:=jW hk
 obtain⟨k2,c,rfl,hk2⟩:=jW hk1
 cases hl;cases hc
 cases l with
 |negSucc l=>cases hk2
 |ofNat l=>
 cases c with
 |negSucc c=>cases hk2
 |ofNat c=>
 obtain⟨a1,b1⟩:=aw (b:=Nat.ble l c) hk2
 obtain⟨a2,b2⟩:=aw b1
 obtain⟨a3,b3⟩:=aw b2
 obtain⟨a4,b4⟩:=aw b3
 obtain⟨a5,b5⟩:=aw b4
 rw[OQ]at b5
 rw[Nat.ble_eq]at a1 a2 a3
 have a2:bytes*c≤1000000:=a2
 rw[ac2]at a4
 have a5:z.length=sz:=by rw[←cT];exact acG a5
 obtain⟨inf,z0,i1,i2,i3,i4,i5,i6⟩:=nv he
 have hz0:zs=z0.cells:=by
  unfold mY at hz
  simp only[i1,Option.bind_some,i2,Option.map_some,acX]at hz
  exact hz.symm
 have hrep:∀n,aR E ρ (List.replicate n z).flatten=some (List.replicate n zs.toList).flatten:=by
  intro n
  induction n with
  |zero=>rfl
  |succ n ih=>simp only[List.replicate_succ,acI];exact fr hzd ih
 obtain⟨M',ρ',m1,m2,m3,m4⟩:=Ie h b5 (fun e he=>by rw[List.eq_of_mem_replicate he];exact a5) a4 (hrep c)
 have hcells:madeCells z0.cells (c*inf.size)=(List.replicate c zs.toList).flatten.toArray:=by
  subst hz0
  rw[i3]
  exact Vp (by rw[i4]) i6 c
 refine⟨_,M',_,ρ',_,_,m1,m3,m4,by simp[den,m2,dF];rfl,?_⟩
 have hr:=Go.run_make (P:=P) w t Ty inf z0 ht i1 i2 (dc k1) (dc k2) (Int.ofNat l) (Int.ofNat c) (by simp) (by simp;exact a1) (by
   rw[i5]
   have:((bytes*c:Nat):Int)≤1000000:=by omega
   rw[Int.natCast_mul]at this
   simp only[Int.ofNat_eq_natCast]
   omega) (by simp only[Int.ofNat_eq_natCast];omega)
 rw[hr]
 simp only[Int.ofNat_eq_natCast,Int.toNat_natCast,hcells]
end
section
variable {P:Program} {E:Env} {ρ:Ren} {G:GS} {F:List aH} {M:T} {nx:Nat} {w:World}
noncomputable def faX (off:Nat) (v:AV) (K:AV→Bool):Bool:=qo v fun i o=>fN (Nat.add o off) fun o=>K (.ptr i o)
theorem abv {off:Nat} {v:AV} {K:AV→Bool} {x:Value} {t i:Nat} (h:jU P t i=some off) (hv:den E ρ v=some x) (hk:faX off v K=true):∃u z,den E ρ u=some z∧K u=true∧∀w,(Instr.fieldAt t x i).run P w= .ok z w:=by
 obtain⟨j,o,rfl,k1⟩:=jI hk
 rw[ck]at k1
 simp only[den]at hv
 split at hv
 ·rename_i e he
  cases hv
  refine⟨_,.pointer (some ⟨e.b,o+off,none⟩),by simp only[den,he];rfl,k1,fun w=> ?_⟩
  have h':=h
  unfold jU at h'
  rcases ht:P.underlying t with _|d
  ·simp[ht]at h'
  rw[ht]at h'
  cases d<;>simp at h'
  rename_i fs
  rcases hf:fs[i]? with _|f
  ·simp[hf]at h'
  simp[Instr.fieldAt,Instr.sureAddr,run_underlying ht,hf,qF ht hf h]
 ·cases hv
noncomputable def aa3 (v:AV) (K:AV→Bool):Bool:=AV.casesOn v false (fun k z=>K (.int k z)) (fun b=>K (.bool b)) (fun l=>K (.str l)) (fun i o=>K (.ptr i o)) (fun i o n c=>K (.sl i o n c)) (fun i=>K (.map i)) false false false false false (fun t v=>K (.iface t v)) (fun f c=>K (.fn f c)) (fun _=>false) (fun _=>false) (fun _=>false) (fun _=>false) (fun _=>false)
theorem XT {v:AV} {K:AV→Bool} {x:Value} (hv:den E ρ v=some x) (hk:aa3 v K=true) {a:Act} {o:Operand} (ha:a.eval o=x) {dst:Option Tmp} {ty:TypeId} {pos:String} {af:Array Edge} {g:Option (Nat×Bool)}:
  K v=true∧∀w,(execOp a.eval ⟨dst,.nilCheck o,ty,pos,af,g⟩).run P w= .ok (.value x) w:=by
 cases v<;>first|(cases hk;done)|skip
 case int k z=>cases hv;exact⟨hk,fun w=>by simp[execOp,ha]⟩
 case bool b=>cases hv;exact⟨hk,fun w=>by simp[execOp,ha]⟩
 case str l=>cases hv;exact⟨hk,fun w=>by simp[execOp,ha]⟩
 all_goals
  refine⟨hk,fun w=> ?_⟩
  unfold den at hv
  split at hv<;>first|(cases hv;done)|skip
  cases hv
  simp[execOp,ha]
noncomputable def Hz (v:AV) (K:Nat→Nat→Bool):Bool:=ks v fun k z=>Int.casesOn z (fun n=>K k n) (fun _=>false)
theorem At {v:AV} {K:Nat→Nat→Bool} (h:Hz v K=true):∃k n,v= .int k (.ofNat n)∧K k n=true:=by
 obtain⟨k,z,rfl,h1⟩:=jW h
 cases z with
 |ofNat n=>exact⟨k,n,rfl,h1⟩
 |negSucc n=>cases h1
noncomputable def abn (n sz:Nat) (v iv:AV) (K:AV→Bool):Bool:=qo v fun i o=>Hz iv fun _ z=>ac (Nat.blt z n) (fN (Nat.add o (Nat.mul z sz)) fun o=>K (.ptr i o))
theorem Yn {n sz:Nat} {v iv:AV} {K:AV→Bool} {x y:Value} {t e:TypeId} (ht:P.underlying t=some (.array n e)) (hs:cj P e=some sz) (hv:den E ρ v=some x) (hi:den E ρ iv=some y) (hk:abn n sz v iv K=true):
  ∃u z,den E ρ u=some z∧K u=true∧∀w,(Instr.indexAt t x y).run P w= .ok z w:=by
 obtain⟨j,o,rfl,k1⟩:=jI hk
 obtain⟨kd,z,rfl,k2⟩:=At k1
 obtain⟨hz,k3⟩:=aw k2
 rw[ck]at k3
 rw[ac2]at hz
 simp only[den]at hv
 split at hv
 ·rename_i f hf
  cases hv;cases hi
  refine⟨_,.pointer (some ⟨f.b,o+z*sz,none⟩),by simp only[den,hf];rfl,k3,fun w=> ?_⟩
  simp[Instr.indexAt,Instr.sureAddr,asIntOf,run_underlying ht,Go.Eng.run_sizeOf hs,hz,cZ]
 ·cases hv
noncomputable def abl (sz:Nat) (v iv:AV) (K:AV→Bool):Bool:=xw v false fun i o n _=>Hz iv fun _ z=>ac (Nat.blt z n) (fN (Nat.add o (Nat.mul z sz)) fun o=>K (.ptr i o))
theorem Yl {sz:Nat} {v iv:AV} {K:AV→Bool} {x y:Value} {t e:TypeId} (ht:P.underlying t=some (.slice e)) (hs:cj P e=some sz) (hv:den E ρ v=some x) (hi:den E ρ iv=some y) (hk:abl sz v iv K=true):
  ∃u z,den E ρ u=some z∧K u=true∧∀w,(Instr.indexAt t x y).run P w= .ok z w:=by
 rcases nz hk with⟨_,k1⟩|⟨j,o,n,c,rfl,k1⟩
 ·cases k1
 obtain⟨kd,z,rfl,k2⟩:=At k1
 obtain⟨hz,k3⟩:=aw k2
 rw[ck]at k3
 rw[ac2]at hz
 simp only[den]at hv
 split at hv
 ·rename_i f hf
  cases hv;cases hi
  refine⟨_,.pointer (some ⟨f.b,o+z*sz,none⟩),by simp only[den,hf];rfl,k3,fun w=> ?_⟩
  simp[Instr.indexAt,asIntOf,run_underlying ht,Go.Eng.run_sizeOf hs,hz,cZ]
 ·cases hv
noncomputable def abt (agg:Bool) (off n:Nat) (v:AV) (K:AV→Bool):Bool:=asAgg v fun cs=>bn agg (DO (AT cs off) n fun l=>K (.agg l)) (dJ (fF cs off) K)
theorem OU {agg:Bool} {off n:Nat} {cs:List AV} {K:AV→Bool} {xs:List Value} (hd:aR E ρ cs=some xs) (hk:bn agg (DO (AT cs off) n fun l=>K (.agg l)) (dJ (fF cs off) K)=true) {t:TypeId} (hag:ia P t=some agg) (hs:cj P t=some n):
  ∃u z,den E ρ u=some z∧K u=true∧∀w,(part t xs.toArray off).run P w= .ok z w:=by
 rcases bh hk with⟨rfl,k1⟩|⟨rfl,k1⟩
 ·obtain⟨k2,hle⟩:=xz k1
  rw[uX]at k2 hle
  have hd2:=sF n (pj off hd)
  refine⟨_,.agg ((xs.drop off).take n).toArray,by simp only[den,hd2],k2,fun w=> ?_⟩
  simp[part,Go.Eng.run_isAgg hag,Go.Eng.run_sizeOf hs]
 ·obtain⟨u,hu,k2⟩:=bO k1
  rw[gB]at hu
  obtain⟨z,h1,h2⟩:=pl hd hu
  refine⟨u,z,h1,k2,fun w=> ?_⟩
  simp[part,Go.Eng.run_isAgg hag,h2]
theorem Yr {agg:Bool} {off n:Nat} {v:AV} {K:AV→Bool} {x:Value} {t i:TypeId} {fs:Array Field} {f:Field} (ht:P.underlying t=some (.struct fs)) (hf:fs[i]?=some f) (ho:f.offset=off) (hag:ia P f.type=some agg) (hs:cj P f.type=some n)
  (hv:den E ρ v=some x) (hk:abt agg off n v K=true):∃u z,den E ρ u=some z∧K u=true∧∀w,(Instr.field t x i).run P w= .ok z w:=by
 obtain⟨cs,rfl,k1⟩:=fT hk
 simp only[den]at hv
 split at hv
 ·rename_i xs hd
  cases hv
  obtain⟨u,z,h1,h2,h3⟩:=OU hd k1 hag hs
  refine⟨u,z,h1,h2,fun w=> ?_⟩
  subst ho
  simp[Instr.field,run_underlying ht,hf,Go.asAgg,h3]
 ·cases hv
noncomputable def Fh (d:Nat) (o:Option AV) (K:Nat→Bool):Bool:=Option.casesOn o (K d) fun v=>Hz v fun _ n=>K n
theorem tP {d:Nat} {o:Option AV} {K:Nat→Bool} (h:Fh d o K=true):∃n,K n=true∧((o=none∧n=d)∨∃k,o=some (.int k (.ofNat n))):=by
 cases o with
 |none=>exact⟨d,h,.inl ⟨rfl,rfl⟩⟩
 |some v=>
  obtain⟨k,n,rfl,h1⟩:=At (v:=v) h
  exact⟨n,h1,.inr ⟨k,rfl⟩⟩
def Ag (E:Env) (ρ:Ren) (o:Option AV) (x:Option Value):Prop:=(o=none∧x=none)∨∃v y,o=some v∧x=some y∧den E ρ v=some y
theorem kP {o:Option AV} {x:Option Value} {d n:Nat} (h:Ag E ρ o x) (hn:(o=none∧n=d)∨∃k,o=some (.int k (.ofNat n))):(x=none∧n=d)∨∃k,x=some (.int k (.ofNat n)):=by
 rcases h with⟨rfl,rfl⟩|⟨v,y,rfl,rfl,hd⟩
 ·rcases hn with⟨_,rfl⟩|⟨k,hk⟩
  ·exact .inl ⟨rfl,rfl⟩
  ·cases hk
 ·rcases hn with⟨hh,_⟩|⟨k,hk⟩
  ·cases hh
  ·cases hk;cases hd;exact .inr ⟨_,rfl⟩
theorem fY {isS:Bool} {len cap:Nat} {lo hi mx:Option Value} {l h m:Nat} (hl:(lo=none∧l=0)∨∃k,lo=some (.int k (.ofNat l))) (hh:(hi=none∧h=len)∨∃k,hi=some (.int k (.ofNat h))) (hm:(mx=none∧m=cap)∨∃k,mx=some (.int k (.ofNat m)))
  (hmh:mx≠none→hi≠none) (h1:l≤h) (h2:h≤m) (h3:m≤cap) (w:World):(Instr.sliceBounds isS len cap lo hi mx).run P w= .ok (l,h,m) w:=by
 have sb:∀(k:IntKind) (n y:Nat) (c:BoundsCode),n≤y→(Instr.sliceBound (.int k (n:Int)) y c).run P w= .ok n w:=by
  intro k n y c hn
  simp[Instr.sliceBound,asIntOf,hn]
 rcases hm with⟨rfl,rfl⟩|⟨km,rfl⟩
 ·rcases hh with⟨rfl,rfl⟩|⟨kh,rfl⟩
  ·rcases hl with⟨rfl,rfl⟩|⟨kl,rfl⟩
   ·simp[Instr.sliceBounds]
   ·simp[Instr.sliceBounds,sb _ _ _ _ h1]
  ·rcases hl with⟨rfl,rfl⟩|⟨kl,rfl⟩
   ·simp[Instr.sliceBounds,sb _ _ _ _ h2]
   ·simp[Instr.sliceBounds,sb _ _ _ _ h2,sb _ _ _ _ h1]
 ·rcases hh with⟨rfl,rfl⟩|⟨kh,rfl⟩
  ·exact absurd rfl (hmh (by simp))
  ·rcases hl with⟨rfl,rfl⟩|⟨kl,rfl⟩
   ·simp[Instr.sliceBounds,sb _ _ _ _ h2,sb _ _ _ _ h3]
   ·simp[Instr.sliceBounds,sb _ _ _ _ h2,sb _ _ _ _ h3,sb _ _ _ _ h1]
noncomputable def np {α:Type _} (o:Option α):Bool:=Option.casesOn o false fun _=>true
noncomputable def aaz (sz:Nat) (v:AV) (lo hi mx:Option AV) (M:T) (K:AV→Bool):Bool:=
 xw v (Fh 0 lo fun l=>Fh 0 hi fun h=>Fh 0 mx fun m=>ac (Nat.beq l 0) (ac (Nat.beq h 0) (ac (Nat.beq m 0) (ac (Bool.or (Bool.not (np mx)) (np hi)) (K .nilS)))))
  fun i o n c=>Fh 0 lo fun l=>Fh n hi fun h=>ac (Nat.ble l h) (Option.casesOn mx
   (ACap.casesOn c
    (fun cc=>ac (Nat.ble h cc) (bn (Nat.beq cc l) (fN (Nat.sub h l) fun hl=>fN (Nat.sub cc l) fun cl=>K (.sl i o hl (.ex cl))) (fN (Nat.sub h l) fun hl=>fN (Nat.sub cc l) fun cl=>fN (Nat.add o (Nat.mul l sz)) fun o'=>K (.sl i o' hl (.ex cl)))))
    (fun k=>ac (Nat.ble h n) (gv M i fun g _ _ els=>ac g (ac (Nat.ble (Nat.add k n) (eG els)) (fN (Nat.sub h l) fun hl=>fN (Nat.add k l) fun kl=>fN (Nat.add o (Nat.mul l sz)) fun o'=>
     bn (Nat.blt l n) (K (.sl i o' hl (.rest kl))) (ac (K (.sl i o' hl (.rest kl))) (K (.sl i o hl (.ex 0)))))))))
   (fun _=>ac (np hi) (Fh 0 mx fun m=>ac (Nat.ble h m) (ac (ACap.casesOn c (fun cc=>Nat.ble m cc) (fun _=>false))
    (fN (Nat.sub h l) fun hl=>fN (Nat.sub m l) fun ml=>bn (Nat.beq m l) (K (.sl i o hl (.ex ml))) (fN (Nat.add o (Nat.mul l sz)) fun o'=>K (.sl i o' hl (.ex ml))))))))
theorem Xw (h:Sim E ρ G F M nx w) {sz:Nat} {v:AV} {lo hi mx:Option AV} {K:AV→Bool} {x:Value} {xl xh xm:Option Value} {t e:TypeId} (ht:P.underlying t=some (.slice e)) (hs:cj P e=some sz) (hv:den E ρ v=some x)
  (hlo:Ag E ρ lo xl) (hhi:Ag E ρ hi xh) (hmx:Ag E ρ mx xm) (hk:aaz sz v lo hi mx M K=true):∃u z,den E ρ u=some z∧K u=true∧(Instr.sliceAt t x xl xh xm).run P w= .ok z w:=by
 have hrun:∀(ao:Option Addr) (n c l hh m:Nat),(Instr.sliceBounds true n c xl xh xm).run P w= .ok (l,hh,m) w→(Instr.sliceAt t (.slice ao n c) xl xh xm).run P w= .ok (.slice (if m=l then ao else ao.map (·.add (l*sz))) (hh - l) (m - l)) w:=by
  intro ao n c l hh m hb
  simp[Instr.sliceAt,Instr.slice,run_underlying ht,hb,Go.Eng.run_sizeOf hs]
 have hmh:mx=none→xm=none:=fun q=>by
  rcases hmx with⟨_,h2⟩|⟨_,_,h2,_⟩
  ·exact h2
  ·rw[q]at h2;cases h2
 rcases nz hk with⟨rfl,k1⟩|⟨i,o,n,c,rfl,k1⟩
 ·obtain⟨l,k2,hl⟩:=tP k1
  obtain⟨hh,k3,hh2⟩:=tP k2
  obtain⟨m,k4,hm⟩:=tP k3
  obtain⟨e1,k5⟩:=aw k4
  obtain⟨e2,k6⟩:=aw k5
  obtain⟨e3,k7⟩:=aw k6
  obtain⟨e4,k7⟩:=aw k7
  have e1:=acG e1
  have e2:=acG e2
  have e3:=acG e3
  subst e1;subst e2;subst e3
  cases hv
  refine⟨.nilS,.slice none 0 0,rfl,k7,?_⟩
  by_cases hx:xm≠none∧xh=none
  ·exfalso
   rcases hmx with⟨_,q⟩|⟨v',y,q1,q2,_⟩
   ·exact hx.1 q
   ·rcases hhi with⟨p1,_⟩|⟨v'',y',p1,p2,_⟩
    ·subst q1;subst p1;cases e4
    ·rw[p2]at hx;cases hx.2
  ·rw[hrun none 0 0 0 0 0 (fY (kP hlo hl) (kP hhi hh2) (kP hmx hm) (fun q q2=>hx ⟨q,q2⟩) (acU _) (acU _) (acU _) w)]
   simp
 ·obtain⟨l,k2,hl⟩:=tP k1
  obtain⟨hh,k3,hh2⟩:=tP k2
  obtain⟨hle,k4⟩:=aw k3
  rw[Nat.ble_eq]at hle
  simp only[den]at hv
  split at hv
  case h_2=>cases hv
  rename_i f hf
  cases hv
  cases mx with
  |none=>
   have hxm:=hmh rfl
   subst hxm
   cases c with
   |ex cc=>
    obtain⟨hc,k5⟩:=aw k4
    rw[Nat.ble_eq]at hc
    have hb:=fY (P:=P) (isS:=true) (len:=n) (kP hlo hl) (kP hhi hh2) (.inl ⟨rfl,rfl⟩) (fun q=>absurd rfl q) hle hc (acU cc) w
    have hr:=hrun (some ⟨f.b,o,none⟩) n cc l hh cc hb
    rcases bh k5 with⟨q,k6⟩|⟨q,k6⟩
    ·have q:=acG q
     subst q
     rw[ck,ck]at k6
     exact⟨_,.slice (some ⟨f.b,o,none⟩) (hh - cc) (cc - cc),by simp only[den,hf,dF];rfl,k6,by simpa[dF] using hr⟩
    ·rw[QG,decide_eq_false_iff_not]at q
     rw[ck,ck,ck]at k6
     exact⟨_,.slice (some ⟨f.b,o+l*sz,none⟩) (hh - l) (cc - l),by simp only[den,hf,dF];rfl,k6,by simpa[dF,q,cZ] using hr⟩
   |rest k=>
    obtain⟨hn,k5⟩:=aw k4
    rw[Nat.ble_eq]at hn
    obtain⟨g,Ty,sz',els,hi',k6⟩:=dA k5
    obtain⟨hg,k7⟩:=aw k6
    subst hg
    obtain⟨hkn,k8⟩:=aw k7
    rw[Nat.ble_eq,cT]at hkn
    have hkn:k+n≤els.length:=hkn
    obtain⟨f2,arr,xs,q1,_,_,_,_,_,_,_,q9⟩:=h.cellsAt hi'
    rw[hf]at q1;cases q1
    obtain⟨_,q10,_⟩:=q9 rfl
    have hcap:n≤f.cap - k:=by omega
    have hb:=fY (P:=P) (isS:=true) (len:=n) (cap:=f.cap - k) (kP hlo hl) (kP hhi hh2) (.inl ⟨rfl,rfl⟩) (fun q=>absurd rfl q) hle (by omega) (acU _) w
    have hr:=hrun (some ⟨f.b,o,none⟩) n (f.cap - k) l hh (f.cap - k) hb
    rw[ck,ck,ck]at k8
    rcases bh k8 with⟨q,k9⟩|⟨q,k9⟩
    ·rw[ac2]at q
     exact⟨_,.slice (some ⟨f.b,o+l*sz,none⟩) (hh - l) (f.cap - (k+l)),by simp only[den,hf,dF];rfl,k9,by
      have:¬f.cap - k=l:=by omega
      simpa[dF,this,cZ,Nat.sub_sub] using hr⟩
    ·obtain⟨k10,k11⟩:=aw k9
     by_cases q2:f.cap - k=l
     ·exact⟨_,.slice (some ⟨f.b,o,none⟩) (hh - l) 0,by simp only[den,hf,dF];rfl,k11,by simpa[dF,q2] using hr⟩
     ·exact⟨_,.slice (some ⟨f.b,o+l*sz,none⟩) (hh - l) (f.cap - (k+l)),by simp only[den,hf,dF];rfl,k10,by
       simpa[dF,q2,cZ,Nat.sub_sub] using hr⟩
  |some mv=>
   obtain⟨hih,k5⟩:=aw (b:=np hi) k4
   obtain⟨m,k6,hm⟩:=tP k5
   obtain⟨hhm,k7⟩:=aw k6
   obtain⟨hmc,k8⟩:=aw k7
   rw[Nat.ble_eq]at hhm
   cases c with
   |rest k=>cases hmc
   |ex cc=>
   have hmc:m≤cc:=by
    have:Nat.ble m cc=true:=hmc
    rwa[Nat.ble_eq]at this
   have hxh:xh≠none:=by
    rcases hhi with⟨q,_⟩|⟨_,_,_,q,_⟩
    ·rw[q]at hih;cases hih
    ·rw[q];simp
   have hmd:(xm=none∧m=cc)∨∃k,xm=some (.int k (.ofNat m)):=by
    rcases hmx with⟨q,_⟩|⟨v',y,q1,q2,q3⟩
    ·cases q
    ·rcases hm with⟨q,_⟩|⟨k,q⟩
     ·cases q
     ·cases q1;cases q;cases q3
      exact .inr ⟨_,q2⟩
   have hb:=fY (P:=P) (isS:=true) (len:=n) (cap:=cc) (kP hlo hl) (kP hhi hh2) hmd (fun _=>hxh) hle hhm hmc w
   have hr:=hrun (some ⟨f.b,o,none⟩) n cc l hh m hb
   rw[ck,ck]at k8
   rcases bh k8 with⟨q,k9⟩|⟨q,k9⟩
   ·have q:=acG q
    subst q
    exact⟨_,.slice (some ⟨f.b,o,none⟩) (hh - m) (m - m),by simp only[den,hf,dF];rfl,k9,by simpa[dF] using hr⟩
   ·rw[QG,decide_eq_false_iff_not]at q
    rw[ck]at k9
    exact⟨_,.slice (some ⟨f.b,o+l*sz,none⟩) (hh - l) (m - l),by simp only[den,hf,dF];rfl,k9,by simpa[dF,q,cZ] using hr⟩
end
section
variable {P:Program} {E:Env} {ρ:Ren} {G:GS} {F:List aH} {M:T} {nx:Nat} {w:World}
noncomputable def Rw (sz:Nat) (v:AV) (M:T) (K:List (List AV)→Bool):Bool:=
 xw v (K []) fun i o n _=>Nat.casesOn n (K []) fun _=>gv M i fun _ _ sz' els=>ac (Nat.beq sz sz') (ac (Nat.beq (Nat.mod o sz) 0) (DO (AT els (Nat.div o sz)) n K))
theorem IN (h:Sim E ρ G F M nx w) {sz:Nat} {v:AV} {K:List (List AV)→Bool} {x:Value} (hv:den E ρ v=some x) (hk:Rw sz v M K=true):
  ∃els xs ao n c,K els=true∧aR E ρ els.flatten=some xs∧x= .slice ao n c∧els.length=n∧(∀l∈els,l.length=sz)∧xs.length=n*sz∧(0<n→∃b o,ao=some ⟨b,o,none⟩∧∀j u,xs[j]?=some u→w.cell? ⟨b,o+j,none⟩=some u):=by
 rcases nz hk with⟨rfl,k1⟩|⟨i,o,n,c,rfl,k1⟩
 ·cases hv
  exact⟨[],[],none,0,0,k1,rfl,rfl,rfl,by simp,by simp,fun q=>by omega⟩
 ·simp only[den]at hv
  split at hv
  case h_2=>cases hv
  rename_i e he
  cases hv
  cases n with
  |zero=>exact⟨[],[],_,0,_,k1,rfl,rfl,rfl,by simp,by simp,fun q=>by omega⟩
  |succ n=>
   obtain⟨g,Ty,sz',els,hi,k2⟩:=dA k1
   obtain⟨q1,k3⟩:=aw k2
   obtain⟨q2,k4⟩:=aw k3
   have q1:=acG q1
   have q2:=acG q2
   subst q1
   obtain⟨k5,hle⟩:=xz k4
   rw[uX]at k5 hle
   obtain⟨e',arr,xs,e1,e2,e3,e4,e5,e6,e7,_⟩:=h.cellsAt hi
   rw[he]at e1;cases e1
   have ho:o / sz*sz=o:=by
    have:=Nat.div_add_mod o sz
    have q2:o % sz=0:=q2
    rw[q2,Nat.add_zero,Nat.mul_comm]at this
    exact this
   have hall:∀l∈(els.drop (o / sz)).take (n+1),l.length=sz:=fun l hl=>e4 l (List.mem_of_mem_drop (List.mem_of_mem_take hl))
   have hsplit:els.flatten=(els.take (o / sz)).flatten++((els.drop (o / sz)).take (n+1)).flatten++((els.drop (o / sz)).drop (n+1)).flatten:=by
    rw[←List.flatten_append,←List.flatten_append,acL,List.take_append_drop,List.take_append_drop]
   have hle:n+1≤(els.drop (o / sz)).length:=hle
   have hpre:(els.take (o / sz)).flatten.length=o:=by
    rw[fq (sz:=sz) (fun l hl=>e4 l (List.mem_of_mem_take hl)),acT,Nat.min_eq_left (by rw[List.length_drop]at hle;omega),ho]
   rw[hsplit]at e3
   obtain⟨ab,c3,d1,d2,d3⟩:=eJ e3
   obtain⟨c1,c2,d4,d5,d6⟩:=eJ d1
   have hc1:=cV d4
   have hc2:=cV d5
   refine⟨_,c2,_,n+1,_,k5,d5,rfl,by rw[acT];exact Nat.min_eq_left hle,hall,?_,fun _=>⟨e.b,o,rfl,fun j u hu=> ?_⟩⟩
   ·rw[hc2,fq hall,acT,Nat.min_eq_left hle]
   ·have hx:xs[o+j]?=some u:=by
     rw[d3,d6,acL,List.getElem?_append_right (by omega),show o+j - c1.length=j by omega,List.getElem?_append_left (List.getElem?_eq_some_iff.1 hu).1]
     exact hu
    have hlt:=(List.getElem?_eq_some_iff.1 hx).1
    rw[←e7,acV hlt]at hx
    simp only[World.cell?,e2]
    simpa using hx
theorem gJ (t ty e:TypeId) (ht:P.underlying t=some (.slice e)) {sz:Nat} (hs:cj P e=some sz) (base:Option Addr) (n cap:Nat) (hle:n≤cap) (ao:Option Addr) (c:Nat):
  (Builtin.append_ #[t,t] ty #[.slice base n cap,.slice ao 0 c]).run P w= .ok (.slice base n cap) w:=by
 have h1:(Builtin.firstCells sz 0 (.slice ao 0 c)).run P w= .ok #[] w:=by cases ao<;>simp[Builtin.firstCells,loadCells,loadCellsFrom]
 cases base<;>simp[Builtin.append_,run_underlying ht,Go.Eng.run_sizeOf hs,Builtin.lenOf,hle,h1,storeCells]
noncomputable def lim (bytes a:Nat):Bool:=Bool.and (Nat.ble a 100000000) (Nat.ble (Nat.mul a bytes) 100000000)
theorem Tg {bytes a:Nat} (h:lim bytes a=true):a≤100000000∧a*bytes≤100000000:=by
 have h':(Nat.ble a 100000000&&Nat.ble (Nat.mul a bytes) 100000000)=true:=h
 rw[acW,Nat.ble_eq,Nat.ble_eq]at h'
 exact h'
noncomputable def abY (Ty sz bytes:Nat) (v1 v2:AV) (M:T) (nx:Nat) (K:AV→T→Nat→Bool):Bool:=
 Rw sz v2 M fun news=>ac (HB news.flatten) (
  xw v1
   (List.casesOn news (K .nilS M nx) fun _ _=>ac (lim bytes (eG news)) (T.set cb M nx (some (.blk true Ty sz news)) fun M'=>fN (Nat.succ nx) fun n=>fN (eG news) fun m=>K (.sl nx 0 m (.rest 0)) M' n))
   fun i o n c=>List.casesOn news
    (ACap.casesOn c (fun cc=>ac (Nat.ble n cc) (K v1 M nx)) (fun k=>gv M i fun g _ _ els=>ac g (ac (Nat.ble (Nat.add k n) (eG els)) (K v1 M nx))))
    fun _ _=>ac (lim bytes (Nat.add n (eG news))) (ACap.casesOn c
     (fun cc=>bn (Nat.ble (Nat.add n (eG news)) cc)
      (ac (Nat.beq o 0) (gv M i fun g Ty' sz' els=>ac (Bool.not g) (ac (Nat.beq Ty' Ty) (ac (Nat.beq sz' sz) (ix els n news fun els'=>T.set cb M i (some (.blk false Ty sz els')) fun M'=>fN (Nat.add n (eG news)) fun m=>K (.sl i 0 m (.ex cc)) M' nx)))))
      (Rw sz v1 M fun olds=>app olds news fun els=>T.set cb M nx (some (.blk true Ty sz els)) fun M'=>fN (Nat.succ nx) fun q=>fN (Nat.add n (eG news)) fun m=>K (.sl nx 0 m (.rest 0)) M' q))
     (fun k=>ac (Nat.beq k 0) (ac (Nat.beq o 0) (gv M i fun g Ty' sz' els=>ac g (ac (Nat.beq (eG els) n) (ac (Nat.beq Ty' Ty) (ac (Nat.beq sz' sz)
      (app els news fun els'=>T.set cb M i none fun M1=>T.set cb M1 nx (some (.blk true Ty sz els')) fun M'=>fN (Nat.succ nx) fun q=>fN (Nat.add n (eG news)) fun m=>K (.sl nx 0 m (.rest 0)) M' q)))))))))
theorem OV {e size n:Nat} {xs:List Value} {v:Value} {base:Nat} {w':World} (h:w'.ownsRow base e size v n xs) (h0:0<n):∃g cap cur,v= .slice (some ⟨g,0,none⟩) n cap∧base≤g∧w'.heap[g]?=some (.cells cur e (0,0))∧n≤cap∧cap≤maxLen∧cur.size=cap*size∧cur.toList.take (n*size)=xs∧xs.length=n*size:=by
 obtain⟨hl,h1⟩:=h
 rcases h1 with⟨_,hz⟩|⟨g,cap,cur,rfl,h0,h2,h3,h4,h5,h6⟩
 ·omega
 ·exact⟨g,cap,cur,rfl,h0,h2,h3,h4,h5,h6,hl⟩
theorem YL (hE:fM E) (h:Sim E ρ G F M nx w) {t ty Ty sz bytes:Nat} (ht:P.underlying t=some (.slice Ty)) (he:ll P Ty sz bytes=true) {v1 v2:AV} {K:AV→T→Nat→Bool} {x1 x2:Value} (h1:den E ρ v1=some x1) (h2:den E ρ v2=some x2)
  (hk:abY Ty sz bytes v1 v2 M nx K=true):∃v M' nx' ρ' w' x,ρ.Le ρ'∧Sim E ρ' G F M' nx' w'∧K v M' nx'=true∧den E ρ' v=some x∧(Builtin.append_ #[t,t] ty #[x1,x2]).run P w= .ok x w':=by
 obtain⟨news,ns,ao,m,c2,k0,n1,rfl,n2,n3,n4,n5⟩:=IN h h2 hk
 obtain⟨kone,k1⟩:=aw k0
 have hone:=Au hE kone n1
 have hone':∀u∈ns,Value.oneCell' u=true:=fun u hu=>List.all_eq_true.1 hone u hu
 obtain⟨inf,z,i1,i2,i3,i4,i5,i6⟩:=nv he
 have hs:cj P Ty=some sz:=by simp[cj,i1,i3]
 have hm63:maxLen=9223372036854775807:=rfl
 have h0:=h.fresh nx (acU _)
 -- a new row,in a new block or the old one
 have fin:∀{i:Nat} {old:Option Nat} {M':T} {els:List (List AV)} {v':Value} {w':World} {mm:Nat} {ys:List Value} {base:Nat},(∀b,old=some b→∃e o,M.get i=some o∧ρ i=some e∧e.b=b∧cG e o=true)→w.grownBy w' old→w'.ownsRow base Ty sz v' mm ys→0<mm→
   (v'.ownBlock=old∨v'.ownBlock=some w.heap.size∨w.heap.size≤base)→aR E ρ els.flatten=some ys→(∀l∈els,l.length=sz)→els.length=mm→M'.get nx=some (.blk true Ty sz els)→(∀m,m≠nx→m≠i→M'.get m=M.get m)→(i≠nx→M'.get i=none)→K (.sl nx 0 mm (.rest 0)) M' (nx+1)=true→
   (Builtin.append_ #[t,t] ty #[x1,.slice ao m c2]).run P w= .ok v' w'→∃v M' nx' ρ' w' x,ρ.Le ρ'∧Sim E ρ' G F M' nx' w'∧K v M' nx'=true∧den E ρ' v=some x∧(Builtin.append_ #[t,t] ty #[x1,.slice ao m c2]).run P w= .ok x w':=by
  intro i old M' els v' w' mm ys base g1 g2 g3 g4 g5 g6 g7 g8 g9 g10 g11 g12 g13
  obtain⟨g,cap,cur,rfl,r1,r2,r3,r4,r5,r6,r7⟩:=OV g3 g4
  have hb':old=some g∨w.heap.size≤g:=by
   rcases g5 with e|e|e
   ·exact .inl (by rw[←e];rfl)
   ·simp[Value.ownBlock]at e;exact .inr (by omega)
   ·exact .inr (by omega)
  refine⟨_,M',nx+1,ρ.set nx ⟨g,cap⟩,w',_,Ren.le_set _ h0,h.regrow (i:=i) (o':=.blk true Ty sz els) h0 (Nat.le_succ _) (Nat.lt_succ_self _) g1 g2 r2 hb' ⟨g7,i6,cur,ys,rfl,g6,?_⟩ g9 g10 g11,g12,?_,g13⟩
  ·simp only[cond_true]
   rw[g8]
   exact⟨r5,r6,r3,r4⟩
  ·simp only[den,Ren.set_self,dF,Nat.sub_zero]
 rcases nz k1 with⟨rfl,k2⟩|⟨i,o,n,c,rfl,k2⟩
 ·cases h1
  cases news with
  |nil=>
   simp at n2
   subst n2
   exact⟨.nilS,M,nx,ρ,w,_,Ren.Le.refl _,h,k2,rfl,gJ t ty Ty ht hs none 0 0 (acU _) ao c2⟩
  |cons a r=>
   obtain⟨hl,k3⟩:=aw k2
   obtain⟨M',k4,s1,s2⟩:=T.set_ok _ _ _ _ _ k3
   rw[ck,ck,cT,n2]at k4
   rw[cT,n2]at hl
   obtain⟨l1,l2⟩:=Tg hl
   have hm:0<m:=by rw[←n2];simp
   obtain⟨b,ob,rfl,hc⟩:=n5 hm
   obtain⟨v',w',r1,r2,r3,_,r5⟩:=run_append_own_at (P:=P) w 0 t ty Ty inf z sz bytes ht i1 i2 i3 i5 i4 i6 (.slice none 0 0) 0 [] (World.ownsRow_nil w _ Ty sz) ⟨b,ob,none⟩ m c2 ns n4 (fun j u hu=>by rw[cZ];exact hc j u hu) hone' (by omega) (by rw[Nat.zero_add];omega) (Nat.zero_le _)
   rw[Nat.zero_add,acM]at r2
   exact fin (i:=nx) (old:=none) (fun b q=>by cases q) r3 r2 hm (r5.imp id .inl) n1 n3 n2 s1 (fun m' q _=>s2 m' q) (fun q=>absurd rfl q) k4 r1
 ·simp only[den]at h1
  split at h1
  case h_2=>cases h1
  rename_i e hei
  cases h1
  cases news with
  |nil=>
   simp at n2
   subst n2
   cases c with
   |ex cc=>
    obtain⟨hle,k3⟩:=aw k2
    rw[Nat.ble_eq]at hle
    exact⟨_,M,nx,ρ,w,_,Ren.Le.refl _,h,k3,by simp only[den,hei],gJ t ty Ty ht hs _ n (dF e (.ex cc)) hle ao c2⟩
   |rest k=>
    obtain⟨g,Ty',sz',els,hi,k3⟩:=dA k2
    obtain⟨hg,k4⟩:=aw k3
    subst hg
    obtain⟨hkn,k5⟩:=aw k4
    rw[Nat.ble_eq,cT]at hkn
    have hkn:k+n≤els.length:=hkn
    obtain⟨f2,arr,xs,q1,_,_,_,_,_,_,_,q9⟩:=h.cellsAt hi
    rw[hei]at q1;cases q1
    obtain⟨_,q10,_⟩:=q9 rfl
    exact⟨_,M,nx,ρ,w,_,Ren.Le.refl _,h,k5,by simp only[den,hei],gJ t ty Ty ht hs _ n (dF e (.rest k)) (by simp only[dF];omega) ao c2⟩
  |cons a r=>
   obtain⟨hl,k3⟩:=aw k2
   rw[cT,n2]at hl
   obtain⟨l1,l2⟩:=Tg hl
   have l1:n+m≤100000000:=l1
   have l2:(n+m)*bytes≤100000000:=l2
   have hm:0<m:=by rw[←n2];simp
   obtain⟨b,ob,rfl,hc⟩:=n5 hm
   cases c with
   |ex cc=>
    rcases bh k3 with⟨hcc,k4⟩|⟨hcc,k4⟩
    ·have hcc:n+(a::r).length≤cc:=by
      rw[cT]at hcc
      exact Nat.le_of_ble_eq_true hcc
     rw[n2]at hcc
     obtain⟨ho,k5⟩:=aw k4
     have ho:=acG ho
     subst ho
     obtain⟨g,Ty',sz',els,hi,k6⟩:=dA k5
     obtain⟨hg,k7⟩:=aw k6
     obtain⟨hT,k8⟩:=aw k7
     obtain⟨hS,k9⟩:=aw k8
     have hT:=acG hT
     have hS:=acG hS
     subst hT;subst hS
     have hg:g=false:=by cases g<;>first|rfl|cases hg
     subst hg
     obtain⟨k10,hle⟩:=ef k9
     obtain⟨M',k11,s1,s2⟩:=T.set_ok _ _ _ _ _ k10
     rw[ck,cT,n2]at k11
     obtain⟨f2,arr,xs,q1,q2,q3,q4,q5,q6,q7,q8,_⟩:=h.cellsAt hi
     rw[hei]at q1;cases q1
     have harr:=q8 rfl
     have hxl:xs.length=els.length*sz':=by rw[cV q3,fq q4]
     have hle':n+m≤els.length:=by rw[←n2];exact hle
     have hmul:(n+m)*sz'≤els.length*sz':=Nat.mul_le_mul_right _ hle'
     have hadd:(n+m)*sz'=n*sz'+m*sz':=Nat.add_mul ..
     have hsz:arr.size=xs.length:=by rw[←Array.length_toList,harr]
     have hfit:n*inf.size+ns.length≤arr.size:=by rw[i3,n4];omega
     have hr:=run_append_room (P:=P) w t ty Ty' inf ht i1 e.b n cc arr q2 ⟨b,ob,none⟩ m c2 ns (by rw[n4,i3]) (fun j u hu=>by rw[cZ];exact hc j u hu) hone' hcc hfit
     have hfl:(els.take n++(a::r)++els.drop (n+(a::r).length)).flatten=els.flatten.take (n*sz')++(a::r).flatten++els.flatten.drop (n*sz'+((a::r).flatten).length):=by
      have e1:els.flatten=(els.take n).flatten++(els.drop n).flatten:=by rw[←List.flatten_append,List.take_append_drop]
      have e2:els.flatten=(els.take (n+(a::r).length)).flatten++(els.drop (n+(a::r).length)).flatten:=by rw[←List.flatten_append,List.take_append_drop]
      have f1:(els.take n).flatten.length=n*sz':=by
       rw[fq (sz:=sz') (fun l hl=>q4 l (List.mem_of_mem_take hl)),acT,Nat.min_eq_left (by omega)]
      have f2:(els.take (n+(a::r).length)).flatten.length=n*sz'+((a::r).flatten).length:=by
       rw[fq (sz:=sz') (fun l hl=>q4 l (List.mem_of_mem_take hl)),acT,Nat.min_eq_left hle,fq n3,Nat.add_mul]
      rw[List.flatten_append,List.flatten_append]
      congr 1
      ·congr 1
       conv=>rhs;rw[e1]
       exact(List.take_left' f1).symm
      ·conv=>rhs;rw[e2]
       exact(List.drop_left' f2).symm
     refine⟨.sl i 0 (n+m) (.ex cc),M',nx,ρ,w.setRow e.b (arr.toList.take (n*inf.size)++ns++arr.toList.drop (n*inf.size+ns.length)).toArray,.slice (some ⟨e.b,0,none⟩) (n+m) cc,Ren.Le.refl _,h.turn (o':=.blk false Ty' sz' (els.take n++(a::r)++els.drop (n+(a::r).length))) (ob':=.cells (arr.toList.take (n*inf.size)++ns++arr.toList.drop (n*inf.size+ns.length)).toArray Ty' (0,0)) hi hei rfl rfl rfl (fun b' _ hb=>setRow_other w e.b b' _ hb) (setRow_heap w e.b arr _ Ty' _ q2) ⟨?_,q5,_,arr.toList.take (n*inf.size)++ns++arr.toList.drop (n*inf.size+ns.length),rfl,?_,?_⟩ s1 s2,k11,by simp only[den,hei,dF],hr⟩
     ·intro l hl
      simp only[acS]at hl
      rcases hl with(hl|hl)|hl
      ·exact q4 l (List.mem_of_mem_take hl)
      ·exact n3 l hl
      ·exact q4 l (List.mem_of_mem_drop hl)
     ·rw[hfl,i3,harr]
      have hnl:=cV n1
      rw[←hnl]
      exact fr (fr (sF _ q3) n1) (pj _ q3)
     ·simp
    have hcc:cc<n+m:=by
     rw[cT,n2]at hcc
     rcases Nat.lt_or_ge cc (n+m) with q|q
     ·exact q
     ·have:Nat.ble (n+m) cc=true:=by rw[Nat.ble_eq];exact q
      have hcc:Nat.ble (n+m) cc=false:=hcc
      rw[this]at hcc;cases hcc
    obtain⟨olds,os,ao1,n',c',k5,o1,o2,o3,o4,o5,o6⟩:=IN h (v:=.sl i o n (.ex cc)) (x:=.slice (some ⟨e.b,o,none⟩) n cc) (by simp only[den,hei,dF]) k4
    injection o2 with o21 o22 o23
    subst o22
    rw[yh]at k5
    obtain⟨M',k6,s1,s2⟩:=T.set_ok _ _ _ _ _ k5
    rw[ck,ck,cT,n2]at k6
    obtain⟨v',w',r1,r2,r3⟩:=run_append_arg_grows (P:=P) w t ty Ty inf z sz bytes ht i1 i2 i3 i5 i4 i6 ⟨e.b,o,none⟩ n cc os o5 (fun j u hu=>by
      rw[cZ]
      have hj:=(List.getElem?_eq_some_iff.1 hu).1
      have hn0:0<n:=by
       rcases Nat.eq_zero_or_pos n with q|q
       ·rw[q,Nat.zero_mul]at o5;omega
       ·exact q
      obtain⟨b1,ob1,q1,q2⟩:=o6 hn0
      rw[←o21]at q1
      cases q1
      exact q2 j u hu) ⟨b,ob,none⟩ m c2 ns n4 (fun j u hu=>by rw[cZ];exact hc j u hu) hcc (by omega) (by omega)
    exact fin (i:=nx) (old:=none) (els:=olds++a::r) (fun b q=>by cases q) r3 r2 (by omega) (.inr (.inr (acU _))) (by rw[List.flatten_append];exact fr o1 n1)
     (fun l hl=>by
      rcases acS.1 hl with q|q
      ·exact o4 l q
      ·exact n3 l q) (by rw[acC,o3,n2]) s1 (fun m' q _=>s2 m' q) (fun q=>absurd rfl q) k6 r1
   |rest k=>
    obtain⟨hk0,k4⟩:=aw k3
    obtain⟨ho0,k5⟩:=aw k4
    have hk0:=acG hk0
    have ho0:=acG ho0
    subst hk0;subst ho0
    obtain⟨g,Ty',sz',els,hi,k6⟩:=dA k5
    obtain⟨hg,k7⟩:=aw k6
    subst hg
    obtain⟨hln,k8⟩:=aw k7
    obtain⟨hT,k9⟩:=aw k8
    obtain⟨hS,k10⟩:=aw k9
    have hln:els.length=n:=by rw[←cT];exact acG hln
    have hT:=acG hT
    have hS:=acG hS
    subst hT;subst hS
    rw[yh]at k10
    obtain⟨M1,k11,s1,s2⟩:=T.set_ok _ _ _ _ _ k10
    obtain⟨M',k12,s3,s4⟩:=T.set_ok _ _ _ _ _ k11
    rw[ck,ck,cT,n2]at k12
    obtain⟨f2,arr,xs,q1,q2,q3,q4,q5,q6,q7,_,q9⟩:=h.cellsAt hi
    rw[hei]at q1;cases q1
    obtain⟨p1,p2,p3⟩:=q9 rfl
    have hxl:xs.length=n*sz':=by rw[cV q3,fq q4,hln]
    obtain⟨v',w',r1,r2,r3,_,r5⟩:=run_append_own_at (P:=P) w 0 t ty Ty' inf z sz' bytes ht i1 i2 i3 i5 i4 i6 (.slice (some ⟨e.b,0,none⟩) n (dF e (.rest 0))) n xs
     ⟨hxl,.inr ⟨e.b,e.cap,arr,by simp[dF],Nat.zero_le _,q2,by omega,p3,p1,by rw[←hxl];exact q7⟩⟩ ⟨b,ob,none⟩ m c2 ns n4 (fun j u hu=>by rw[cZ];exact hc j u hu) hone' (by omega) (by omega) (Nat.zero_le _)
    have hinx:i≠nx:=fun q=>by rw[q,h0]at hei;cases hei
    exact fin (i:=i) (old:=some e.b) (els:=els++a::r) (fun b q=>⟨e,_,hi,hei,ac1 q,rfl⟩) r3 r2 (by omega) (r5.imp id .inl) (by rw[List.flatten_append];exact fr q3 n1)
     (fun l hl=>by
      rcases acS.1 hl with q|q
      ·exact q4 l q
      ·exact n3 l q) (by rw[acC,hln,n2]) s3 (fun m' q1 q2=>by rw[s4 m' q1,s2 m' q2]) (fun _=>by rw[s4 i hinx,s1]) k12 r1
end
inductive ET
 |int|bool|str
 |st (fs:List (Nat×Nat×Bool×ET))
 |ar (offs:List Nat) (n:Nat) (agg:Bool) (e:ET)
noncomputable def jk (agg:Bool) (off n:Nat) (cs:List AV) (K:AV→Bool):Bool:=bn agg (DO (AT cs off) n fun l=>K (.agg l)) (dJ (fF cs off) K)
noncomputable def VQ (eq:ET→AV→AV→(Bool→Bool)→Bool) (cs ds:List AV) (fs:List (Nat×Nat×Bool×ET)) (K:Bool→Bool):Bool:=
 List.rec (K true) (fun f _ ih=>jk f.2.2.1 f.1 f.2.1 cs fun u=>jk f.2.2.1 f.1 f.2.1 ds fun v=>eq f.2.2.2 u v fun b=>bn b ih (K false)) fs
noncomputable def VP (eq:ET→AV→AV→(Bool→Bool)→Bool) (cs ds:List AV) (n:Nat) (agg:Bool) (e:ET) (offs:List Nat) (K:Bool→Bool):Bool:=
 List.rec (K true) (fun o _ ih=>jk agg o n cs fun u=>jk agg o n ds fun v=>eq e u v fun b=>bn b ih (K false)) offs
noncomputable def eqZ (u v:AV) (K:Bool→Bool):Bool:=bn (Bool.or (fp u) (fp v)) (qk u fun k a=>qk v fun k2 b=>ac (Nat.beq k k2) (bn (au (a=b)) (K true) (K false))) (ks u fun k a=>ks v fun k2 b=>ac (Nat.beq k k2) (fB (uW a b) K))
noncomputable def abD (u v:AV) (K:Bool→Bool):Bool:=RJ u fun a=>RJ v fun b=>fB (Bool.rec (Bool.not b) b a) K
noncomputable def abB (u v:AV) (K:Bool→Bool):Bool:=bn (Bool.or (fp u) (fp v)) (Ew u fun l=>Ew v fun m=>bn (au (l=m)) (K true) (K false)) (qn u fun l=>qn v fun m=>ac (yE l) (ac (yE m) (fB (Ki l m) K)))
theorem TT {E:Env} {ρ:Ren} {u v:AV} {x y:Value} {K:Bool→Bool} (hx:den E ρ u=some x) (hy:den E ρ v=some y) (h:eqZ u v K=true):∃k a b,x= .int (dc k) a∧y= .int (dc k) b∧K (decide (a=b))=true:=by
 rcases bh h with⟨_,g⟩|⟨_,g⟩
 ·obtain⟨k,a,rfl,g1⟩:=ln hx g
  obtain⟨k2,b,rfl,g2⟩:=ln hy g1
  obtain⟨g3,g4⟩:=aw g2
  have g3:=acG g3
  subst g3
  refine⟨k,a,b,rfl,rfl,?_⟩
  rcases lj g4 with⟨q,g⟩|⟨q,g⟩
  ·rw[decide_eq_true q];exact g
  ·rw[decide_eq_false q];exact g
 ·obtain⟨k,a,b,rfl,rfl,g5⟩:=pB (f:=fun _ a b=>fB (uW a b) K) g
  rw[wr,uV]at g5
  cases hx;cases hy
  exact⟨k,a,b,rfl,rfl,g5⟩
theorem PB {E:Env} {ρ:Ren} {u v:AV} {x y:Value} {K:Bool→Bool} (hx:den E ρ u=some x) (hy:den E ρ v=some y) (h:abD u v K=true):∃a b:Bool,x= .bool a∧y= .bool b∧K (Bool.rec (Bool.not b) b a)=true:=by
 obtain⟨a,rfl,g1⟩:=IS hx h
 obtain⟨b,rfl,g2⟩:=IS hy g1
 rw[wr]at g2
 exact⟨a,b,rfl,rfl,g2⟩
theorem PA {E:Env} {ρ:Ren} {u v:AV} {x y:Value} {K:Bool→Bool} (hx:den E ρ u=some x) (hy:den E ρ v=some y) (h:abB u v K=true):∃l m:List UInt8,x=S l∧y=S m∧K (decide (l=m))=true:=by
 rcases bh h with⟨_,g⟩|⟨_,g⟩
 ·obtain⟨l,rfl,g1⟩:=qm hx g
  obtain⟨m,rfl,g2⟩:=qm hy g1
  refine⟨l,m,rfl,rfl,?_⟩
  rcases lj g2 with⟨q,g⟩|⟨q,g⟩
  ·rw[decide_eq_true q];exact g
  ·rw[decide_eq_false q];exact g
 ·obtain⟨l,rfl,g1⟩:=jH g
  obtain⟨m,rfl,g2⟩:=jH g1
  obtain⟨hl,g3⟩:=aw g2
  obtain⟨hm,g4⟩:=aw g3
  rw[EI]at hl hm
  rw[wr,yf]at g4
  cases hx;cases hy
  refine⟨_,_,rfl,rfl,?_⟩
  rw[show decide (l.map ac0=m.map ac0)=decide (l=m) from by rw[Bool.eq_iff_iff];simp[Ws hl hm]]
  exact g4
noncomputable def sE:Nat→ET→AV→AV→(Bool→Bool)→Bool:=
 Nat.rec (fun _ _ _ _=>false) (fun _ ih et u v K=>ET.casesOn et
  (eqZ u v K)
  (abD u v K)
  (abB u v K)
  (fun fs=>asAgg u fun cs=>asAgg v fun ds=>VQ ih cs ds fs K)
  (fun offs n agg e=>asAgg u fun cs=>asAgg v fun ds=>VP ih cs ds n agg e offs K))
def fS (chk:ET→TypeId→Bool) (P:Program):List Field→List (Nat×Nat×Bool×ET)→Bool
 |[],[]=>true
 |f::fs,g::gs=>f.name != "_" &&decide (f.offset=g.1)&&decide (cj P f.type=some g.2.1)&&decide (ia P f.type=some g.2.2.1)&&chk g.2.2.2 f.type&&fS chk P fs gs
 |_,_=>false
def dz (P:Program):Nat→ET→TypeId→Bool
 |0,_,_=>false
 |d+1,et,t=>match et,P.underlying t with
  |.int,some (.int _)=>true
  |.bool,some .bool=>true
  |.str,some .string=>true
  |.st gs,some (.struct fs)=> !P.stoodInHeld t&&fS (dz P d) P fs.toList gs
  |.ar offs n agg e,some (.array len el)=>decide (cj P el=some n)&&decide (ia P el=some agg)&&decide (offs=(List.range len).map (· *n))&&dz P d e el
  |_,_=>false
section
variable {P:Program} {E:Env} {ρ:Ren}
theorem qQ {agg:Bool} {off n:Nat} {cs:List AV} {K:AV→Bool} {xs:List Value} (hd:aR E ρ cs=some xs) (hk:jk agg off n cs K=true) {t:TypeId} (hag:ia P t=some agg) (hs:cj P t=some n):
  ∃u z,den E ρ u=some z∧K u=true∧∀w,(part t xs.toArray off).run P w= .ok z w:=OU hd hk hag hs
def Wr (P:Program) (d:Nat) (xs ys:List Value):List (TypeId×Nat)→Bool→Prop
 |[],b=>b=true
 |(t,o)::l,b=>∃zu zv,(∀w,(part t xs.toArray o).run P w= .ok zu w)∧(∀w,(part t ys.toArray o).run P w= .ok zv w)∧
   (((∀(D:Nat) (w:World),d≤D→(Op.equalIn D t zu zv).run P w= .ok true w)∧Wr P d xs ys l b)∨((∀(D:Nat) (w:World),d≤D→(Op.equalIn D t zu zv).run P w= .ok false w)∧b=false))
theorem BZ:∀(d:Nat) {et:ET} {u v:AV} {K:Bool→Bool} {x y:Value} {t:TypeId},dz P d et t=true→den E ρ u=some x→den E ρ v=some y→sE d et u v K=true→
  ∃b,K b=true∧(∀(D:Nat) (w:World),d≤D→(Op.equalIn D t x y).run P w= .ok b w)∧∀dd,P.underlying t=some dd→(Instr.sameNow dd x y=some b∨Instr.sameNow dd x y=none)
 |0,et,u,v,K,x,y,t,hc,_,_,_=>by simp[dz]at hc
 |d+1,et,u,v,K,x,y,t,hc,hx,hy,hk=>by
  unfold dz at hc
  split at hc
  ·rename_i kk hu
   obtain⟨k,a,b,rfl,rfl,g⟩:=TT hx hy hk
   refine⟨_,g,fun D w hD=> ?_,fun dd hdd=> ?_⟩
   ·obtain⟨D,rfl⟩:∃D',D=D'+1:=⟨D - 1,by omega⟩
    simp[Op.equalIn,run_underlying hu,pn]
   ·rw[hu]at hdd;cases hdd
    exact .inl (by simp[Instr.sameNow,pn])
  ·rename_i hu
   obtain⟨a,b,rfl,rfl,g2⟩:=PB hx hy hk
   refine⟨_,g2,fun D w hD=> ?_,fun dd hdd=> ?_⟩
   ·obtain⟨D,rfl⟩:∃D',D=D'+1:=⟨D - 1,by omega⟩
    simp only[Op.equalIn,acQ,run_underlying hu,acP,Sem.run_pure]
    cases a<;>cases b<;>rfl
   ·rw[hu]at hdd;cases hdd
    exact .inl (by cases a<;>cases b<;>rfl)
  ·rename_i hu
   obtain⟨l,m,rfl,rfl,g4⟩:=PA hx hy hk
   have hb:((⟨l.toArray⟩:ByteArray)==⟨m.toArray⟩)=decide (l=m):=by
    rw[beq_toListBytes,oW,oW,Bool.eq_iff_iff]
    simp
   refine⟨_,g4,fun D w hD=> ?_,fun dd hdd=> ?_⟩
   ·obtain⟨D,rfl⟩:∃D',D=D'+1:=⟨D - 1,by omega⟩
    simp only[Op.equalIn,acQ,run_underlying hu,acP,Sem.run_pure]
    rw[hb]
   ·rw[hu]at hdd;cases hdd
    exact .inl (by simp only[Instr.sameNow,hb])
  ·rename_i gs fs hu
   obtain⟨cs,rfl,g1⟩:=fT hk
   obtain⟨ds,rfl,g2⟩:=fT g1
   simp only[den]at hx hy
   split at hx
   case h_2=>cases hx
   rename_i xs hxs
   split at hy
   case h_2=>cases hy
   rename_i ys hys
   cases hx;cases hy
   simp only[acW,Bool.not_eq_true']at hc
   obtain⟨hst,hf⟩:=hc
   have key:∀(l:List Field) (gs:List (Nat×Nat×Bool×ET)),fS (dz P d) P l gs=true→VQ (sE d) cs ds gs K=true→∃b,K b=true∧Wr P d xs ys (l.map fun f=>(f.type,f.offset)) b∧∀f∈l,f.name≠ "_" :=by
    intro l
    induction l with
    |nil=>
     intro gs hf hk
     cases gs with
     |nil=>exact⟨true,hk,rfl,by simp⟩
     |cons g gs=>simp[fS]at hf
    |cons f l ihl=>
     intro gs hf hk
     cases gs with
     |nil=>simp[fS]at hf
     |cons g gs=>
      simp only[fS,acW,decide_eq_true_eq]at hf
      obtain⟨⟨⟨⟨⟨f1,f2⟩,f3⟩,f4⟩,f5⟩,f6⟩:=hf
      have f1:f.name≠ "_" :=by simpa using f1
      have hk':jk g.2.2.1 g.1 g.2.1 cs (fun u=>jk g.2.2.1 g.1 g.2.1 ds fun v=>sE d g.2.2.2 u v fun b=>bn b (VQ (sE d) cs ds gs K) (K false))=true:=hk
      obtain⟨u,zu,u1,u2,u3⟩:=qQ hxs hk' f4 f3
      obtain⟨v,zv,v1,v2,v3⟩:=qQ hys u2 f4 f3
      obtain⟨b,b1,b2,_⟩:=BZ d f5 u1 v1 v2
      rw[←f2]at u3 v3
      rcases bh b1 with⟨rfl,b3⟩|⟨rfl,b3⟩
      ·obtain⟨c,c1,c2,c3⟩:=ihl gs f6 b3
       exact⟨c,c1,⟨zu,zv,u3,v3,.inl ⟨b2,c2⟩⟩,fun g hg=>by rcases List.mem_cons.1 hg with rfl|hg<;>first|exact f1|exact c3 g hg⟩
      ·have hall:∀(l:List Field) (gs:List (Nat×Nat×Bool×ET)),fS (dz P d) P l gs=true→∀f∈l,f.name≠ "_" :=by
        intro l
        induction l with
        |nil=>intro gs _ f hf;simp at hf
        |cons f l ih=>
         intro gs hg f' hf'
         cases gs with
         |nil=>simp[fS]at hg
         |cons g gs=>
          simp only[fS,acW,decide_eq_true_eq]at hg
          rcases List.mem_cons.1 hf' with rfl|hf'
          ·simpa using hg.1.1.1.1.1
          ·exact ih gs hg.2 f' hf'
       exact⟨false,b3,⟨zu,zv,u3,v3,.inr ⟨b2,rfl⟩⟩,fun g hg=>by
        rcases List.mem_cons.1 hg with rfl|hg
        ·exact f1
        ·exact hall l gs f6 g hg⟩
   obtain⟨b,b1,b2,b3⟩:=key fs.toList gs hf g2
   refine⟨b,b1,fun D w hD=> ?_,fun dd hdd=>by rw[hu]at hdd;cases hdd;exact .inr rfl⟩
   obtain⟨D,rfl⟩:∃D',D=D'+1:=⟨D - 1,by omega⟩
   simp only[Op.equalIn,acQ,run_underlying hu,acP,run_program,hst,Bool.false_eq_true,if_false]
   rw[←Array.forIn_toList]
   generalize fs.toList=l at b2 b3
   clear hu hf key
   induction l with
   |nil=>
    have:b=true:=b2
    subst this
    simp
   |cons f l ihl=>
    obtain⟨zu,zv,u3,v3,hor⟩:=b2
    have hn:=b3 f (by simp)
    simp only[List.forIn_cons,acQ]
    rcases hor with⟨e1,e2⟩|⟨e1,rfl⟩
    ·have:=ihl e2 fun g hg=>b3 g (by simp[hg])
     simp[hn,u3,v3,e1 D _ (by omega)]at this ⊢
     exact this
    ·simp[hn,u3,v3,e1 D _ (by omega)]
  ·rename_i offs n agg e len el hu
   obtain⟨cs,rfl,g1⟩:=fT hk
   obtain⟨ds,rfl,g2⟩:=fT g1
   simp only[den]at hx hy
   split at hx
   case h_2=>cases hx
   rename_i xs hxs
   split at hy
   case h_2=>cases hy
   rename_i ys hys
   cases hx;cases hy
   simp only[acW,decide_eq_true_eq]at hc
   obtain⟨⟨⟨c1,c2⟩,c3⟩,c4⟩:=hc
   have key:∀(l:List Nat),VP (sE d) cs ds n agg e l K=true→∃b,K b=true∧Wr P d xs ys (l.map fun o=>(el,o)) b:=by
    intro l
    induction l with
    |nil=>intro hk;exact⟨true,hk,rfl⟩
    |cons o l ihl=>
     intro hk
     have hk':jk agg o n cs (fun u=>jk agg o n ds fun v=>sE d e u v fun b=>bn b (VP (sE d) cs ds n agg e l K) (K false))=true:=hk
     obtain⟨u,zu,u1,u2,u3⟩:=qQ hxs hk' c2 c1
     obtain⟨v,zv,v1,v2,v3⟩:=qQ hys u2 c2 c1
     obtain⟨b,b1,b2,_⟩:=BZ d c4 u1 v1 v2
     rcases bh b1 with⟨rfl,b3⟩|⟨rfl,b3⟩
     ·obtain⟨c,e1,e2⟩:=ihl b3
      exact⟨c,e1,zu,zv,u3,v3,.inl ⟨b2,e2⟩⟩
     ·exact⟨false,b3,zu,zv,u3,v3,.inr ⟨b2,rfl⟩⟩
   obtain⟨b,b1,b2⟩:=key offs g2
   refine⟨b,b1,fun D w hD=> ?_,fun dd hdd=>by rw[hu]at hdd;cases hdd;exact .inr rfl⟩
   obtain⟨D,rfl⟩:∃D',D=D'+1:=⟨D - 1,by omega⟩
   simp only[Op.equalIn,acQ,run_underlying hu,acP,Go.Eng.run_sizeOf c1]
   rw[Std.Legacy.Range.forIn_eq_forIn_range']
   simp only[Std.Legacy.Range.size,Nat.sub_zero,Nat.add_sub_cancel,Nat.div_one]
   rw[c3,List.map_map,List.range_eq_range']at b2
   generalize List.range' 0 len=l at b2 ⊢
   clear hu key c3 g2
   induction l with
   |nil=>
    have:b=true:=b2
    subst this
    simp
   |cons i l ihl=>
    obtain⟨zu,zv,u3,v3,hor⟩:=b2
    simp only[List.forIn_cons,acQ]
    rcases hor with⟨e1,e2⟩|⟨e1,rfl⟩
    ·have:=ihl e2
     simp[u3,v3,e1 D _ (by omega)]at this ⊢
     exact this
    ·simp[u3,v3,e1 D _ (by omega)]
  ·cases hc
end
section
variable {P:Program} {E:Env} {ρ:Ren} {G:GS} {F:List aH} {M:T} {nx:Nat} {w:World}
theorem abx {ne:Bool} {d:Nat} {et:ET} {u v:AV} {K:AV→Bool} {x y:Value} {t:TypeId} (hd:d≤10000) (hc:dz P d et t=true) (hg:(P.eqGuardType P.depth t=false)) (hx:den E ρ u=some x) (hy:den E ρ v=some y)
  (hk:sE d et u v (fun b=>fB (Bool.rec b (Bool.not b) ne) fun r=>K (.bool r))=true) (p q:Operand):
  ∃u z,den E ρ u=some z∧K u=true∧∀w,((do eqGuard (bif ne then .neq else .eql) t p q x y;binOp (bif ne then .neq else .eql) t x y):Sem Value).run P w= .ok z w:=by
 have hshape:(∃us vs,x= .agg us∧y= .agg vs)∨(∃k a k' b,x= .int k a∧y= .int k' b∧k=k'∧∃kd,P.underlying t=some (.int kd))∨(∃a b,x= .bool a∧y= .bool b)∨((∃a b,x= .string a∧y= .string b)∧P.underlying t=some .string):=by
  cases d with
  |zero=>simp[dz]at hc
  |succ d=>
  unfold dz at hc
  split at hc
  ·rename_i kd hu
   obtain⟨k,a,b,rfl,rfl,g⟩:=TT hx hy hk
   exact .inr (.inl ⟨_,_,_,_,rfl,rfl,rfl,kd,hu⟩)
  ·obtain⟨a,b,rfl,rfl,g2⟩:=PB hx hy hk
   exact .inr (.inr (.inl ⟨_,_,rfl,rfl⟩))
  ·rename_i hu
   obtain⟨l,m,rfl,rfl,g2⟩:=PA hx hy hk
   exact .inr (.inr (.inr ⟨⟨_,_,rfl,rfl⟩,hu⟩))
  ·obtain⟨cs,rfl,g1⟩:=fT hk
   obtain⟨ds,rfl,g2⟩:=fT g1
   simp only[den]at hx hy
   split at hx
   case h_2=>cases hx
   split at hy
   case h_2=>cases hy
   cases hx;cases hy
   exact .inl ⟨_,_,rfl,rfl⟩
  ·obtain⟨cs,rfl,g1⟩:=fT hk
   obtain⟨ds,rfl,g2⟩:=fT g1
   simp only[den]at hx hy
   split at hx
   case h_2=>cases hx
   split at hy
   case h_2=>cases hy
   cases hx;cases hy
   exact .inl ⟨_,_,rfl,rfl⟩
  ·cases hc
 obtain⟨b,b1,b2,b3⟩:=BZ d hc hx hy hk
 rw[wr]at b1
 refine⟨_,_,rfl,b1,fun w=> ?_⟩
 have hr:(Op.equal t x y).run P w= .ok b w:=b2 10000 w hd
 have hr':(Op.equalIn 10000 t x y).run P w= .ok b w:=b2 10000 w hd
 rcases hshape with⟨us,vs,rfl,rfl⟩|⟨k,a,k',c,rfl,rfl,rfl,kd,hu⟩|⟨a,c,rfl,rfl⟩|⟨⟨a,c,rfl,rfl⟩,hu⟩
 ·cases ne
  ·simp only[cond_false,acQ,run_eqGuard_agg w .eql t p q us vs hg,acP,run_eql_struct,hr']
  ·simp only[cond_true,acQ,run_eqGuard_agg w .neq t p q us vs hg,acP,run_neq_struct,hr']
 ·have hb:b=decide (a=c):=by
   rcases b3 _ hu with q|q
   ·simp[Instr.sameNow,pn]at q;exact q.symm
   ·simp[Instr.sameNow]at q
  subst hb
  cases ne<;>simp[eqGuard,binOp,Op.intCmp,bne,pn]
 ·cases ne<;>simp[eqGuard,binOp,hr]
 ·have hb:b=(a.toList==c.toList):=by
   rcases b3 _ hu with q|q
   ·simp only[Instr.sameNow,acX]at q
    rw[←q,beq_toListBytes]
   ·simp[Instr.sameNow]at q
  subst hb
  cases ne<;>simp[eqGuard,binOp,Op.stringOp]
noncomputable def KR (d:Nat) (et:ET) (k:AV) (es:List (AV×AV×Nat)) (Kn:Bool) (Ks:Nat→AV×AV×Nat→Bool):Bool:=
 List.rec (fun _=>Kn) (fun e _ ih i=>sE d et k e.1 fun b=>bn b (Ks i e) (ih (Nat.succ i))) es 0
theorem dS {k v:AV} {b:Nat} {r:List (AV×AV×Nat)} {ms:List MapEntry} (h:bS E ρ ((k,v,b)::r)=some ms):∃x y ms',den E ρ k=some x∧den E ρ v=some y∧bS E ρ r=some ms'∧ms=⟨x,y,b⟩::ms':=by
 unfold bS at h
 split at h
 ·rename_i x y es h1 h2 h3
  exact⟨x,y,es,h1,h2,h3,(ac1 h).symm⟩
 ·cases h
theorem MF {d:Nat} {et:ET} {k:AV} {x:Value} {kt:TypeId} (hd:d≤10000) (hc:dz P d et kt=true) (hx:den E ρ k=some x):∀{es:List (AV×AV×Nat)} {ms:List MapEntry} {i:Nat} {Kn:Bool} {Ks:Nat→AV×AV×Nat→Bool},
  bS E ρ es=some ms→(List.rec (motive:=fun _=>Nat→Bool) (fun _=>Kn) (fun e _ ih i=>sE d et k e.1 fun b=>bn b (Ks i e) (ih (Nat.succ i))) es i:Bool)=true→
  (Kn=true∧∀w,(Instr.findAsking kt x ms i).run P w= .ok none w∧∀dd,P.underlying kt=some dd→(Instr.findNow dd x ms i=some none∨(Instr.findNow dd x ms i=none)))∨
  (∃j e y,es[j]?=some e∧Ks (i+j) e=true∧den E ρ e.2.1=some y∧∀w,(Instr.findAsking kt x ms i).run P w= .ok (some (i+j,y)) w∧∀dd,P.underlying kt=some dd→(Instr.findNow dd x ms i=some (some (i+j,y))∨Instr.findNow dd x ms i=none))
 |[],ms,i,Kn,Ks,he,hk=>by
  simp[bS]at he
  subst he
  exact .inl ⟨hk,fun w=>⟨by simp[Instr.findAsking],fun dd _=>.inl rfl⟩⟩
 |(k',v',b')::es,ms,i,Kn,Ks,he,hk=>by
  obtain⟨x',y',ms',h1,h2,h3,rfl⟩:=dS he
  have hk':sE d et k k' (fun b=>bn b (Ks i (k',v',b')) (List.rec (motive:=fun _=>Nat→Bool) (fun _=>Kn) (fun e _ ih i=>sE d et k e.1 fun b=>bn b (Ks i e) (ih (Nat.succ i))) es (Nat.succ i)))=true:=hk
  obtain⟨b,b1,b2,hsn⟩:=BZ d hc hx h1 hk'
  have hr:∀w,(Op.equal kt x x').run P w= .ok b w:=fun w=>b2 10000 w hd
  rcases bh b1 with⟨rfl,b3⟩|⟨rfl,b3⟩
  ·refine .inr ⟨0,_,y',rfl,b3,h2,fun w=>⟨by simp[Instr.findAsking,hr],fun dd hu=> ?_⟩⟩
   rcases hsn dd hu with q|q<;>simp[Instr.findNow,q]
  ·rcases MF hd hc hx h3 b3 with⟨q1,q2⟩|⟨j,e,y,q1,q2,q3,q4⟩
   ·refine .inl ⟨q1,fun w=>⟨by simp[Instr.findAsking,hr,(q2 w).1],fun dd hu=> ?_⟩⟩
    rcases hsn dd hu with q|q
    ·simp only[Instr.findNow,q]
     exact(q2 w).2 dd hu
    ·exact .inr (by simp[Instr.findNow,q])
   ·refine .inr ⟨j+1,e,y,by simpa using q1,by rw[←Nat.add_assoc,Nat.add_right_comm];exact q2,q3,fun w=>⟨by simp[Instr.findAsking,hr,(q4 w).1];omega,fun dd hu=> ?_⟩⟩
    rcases hsn dd hu with q|q
    ·simp only[Instr.findNow,q]
     have:=(q4 w).2 dd hu
     rw[show i+1+j=i+(j+1) by omega]at this
     exact this
    ·exact .inr (by simp[Instr.findNow,q])
end
noncomputable def wD:Nat→ET→AV→Bool→Bool:=
 Nat.rec (fun _ _ _=>false) (fun _ ih et v K=>ET.casesOn et
  (qk v fun _ _=>K) (Wn v fun _=>K) (Ew v fun _=>K)
  (fun fs=>asAgg v fun cs=>List.rec K (fun f _ r=>jk f.2.2.1 f.1 f.2.1 cs fun u=>ih f.2.2.2 u r) fs)
  (fun offs n agg e=>asAgg v fun cs=>List.rec K (fun o _ r=>jk agg o n cs fun u=>ih e u r) offs))
section
variable {P:Program} {E:Env} {ρ:Ren} {G:GS} {F:List aH} {M:T} {nx:Nat} {w:World}
theorem xA:∀(d:Nat) {et:ET} {v:AV} {K:Bool} {x:Value} {t:TypeId},dz P d et t=true→den E ρ v=some x→wD d et v K=true→K=true∧∀(e:Bool) (n:Nat) (w:World),d≤n→(Instr.checkKey e n t x).run P w= .ok () w
 |0,et,v,K,x,t,hc,_,_=>by simp[dz]at hc
 |d+1,et,v,K,x,t,hc,hx,hk=>by
  unfold dz at hc
  split at hc
  ·rename_i kk hu
   obtain⟨k,a,rfl,g⟩:=ln (K:=fun _ _=>K) hx hk
   refine⟨g,fun e n w hn=> ?_⟩
   obtain⟨n,rfl⟩:∃n',n=n'+1:=⟨n - 1,by omega⟩
   simp[Instr.checkKey,run_underlying hu]
  ·rename_i hu
   obtain⟨a,rfl,g⟩:=PJ (K:=fun _=>K) hx hk
   refine⟨g,fun e n w hn=> ?_⟩
   obtain⟨n,rfl⟩:∃n',n=n'+1:=⟨n - 1,by omega⟩
   simp[Instr.checkKey,run_underlying hu]
  ·rename_i hu
   obtain⟨a,rfl,g⟩:=qm (K:=fun _=>K) hx hk
   refine⟨g,fun e n w hn=> ?_⟩
   obtain⟨n,rfl⟩:∃n',n=n'+1:=⟨n - 1,by omega⟩
   simp[Instr.checkKey,run_underlying hu]
  ·rename_i gs fs hu
   obtain⟨cs,rfl,g1⟩:=fT hk
   simp only[den]at hx
   split at hx
   case h_2=>cases hx
   rename_i xs hxs
   cases hx
   simp only[acW,Bool.not_eq_true']at hc
   have key:∀(l:List Field) (gs:List (Nat×Nat×Bool×ET)),fS (dz P d) P l gs=true→(List.rec K (fun f _ r=>jk f.2.2.1 f.1 f.2.1 cs fun u=>wD d f.2.2.2 u r) gs:Bool)=true→K=true∧
     ∀(e:Bool) (n:Nat) (w:World),d≤n→∀f∈l,f.name≠ "_" ∧∃z,(part f.type xs.toArray f.offset).run P w= .ok z w∧(Instr.checkKey e n f.type z).run P w= .ok () w:=by
    intro l
    induction l with
    |nil=>
     intro gs hf hk
     cases gs with
     |nil=>exact⟨hk,fun _ _ _ _ f hf=>by simp at hf⟩
     |cons g gs=>simp[fS]at hf
    |cons f l ihl=>
     intro gs hf hk
     cases gs with
     |nil=>simp[fS]at hf
     |cons g gs=>
      simp only[fS,acW,decide_eq_true_eq]at hf
      obtain⟨⟨⟨⟨⟨f1,f2⟩,f3⟩,f4⟩,f5⟩,f6⟩:=hf
      have f1:f.name≠ "_" :=by simpa using f1
      have hk':jk g.2.2.1 g.1 g.2.1 cs (fun u=>wD d g.2.2.2 u (List.rec K (fun f _ r=>jk f.2.2.1 f.1 f.2.1 cs fun u=>wD d f.2.2.2 u r) gs))=true:=hk
      obtain⟨u,zu,u1,u2,u3⟩:=qQ hxs hk' f4 f3
      obtain⟨k1,k2⟩:=xA d f5 u1 u2
      obtain⟨k3,k4⟩:=ihl gs f6 k1
      refine⟨k3,fun e n w hn f' hf'=> ?_⟩
      rcases List.mem_cons.1 hf' with rfl|hf'
      ·exact⟨f1,zu,by rw[f2];exact u3 w,k2 e n w hn⟩
      ·exact k4 e n w hn f' hf'
   obtain⟨k1,k2⟩:=key fs.toList gs hc.2 g1
   refine⟨k1,fun e n w hn=> ?_⟩
   obtain⟨n,rfl⟩:∃n',n=n'+1:=⟨n - 1,by omega⟩
   have k3:=k2 e n w (by omega)
   simp only[Instr.checkKey,acQ,run_underlying hu,acP]
   rw[←Array.forIn_toList]
   generalize fs.toList=l at k3
   clear hu key k2 hc
   induction l with
   |nil=>simp
   |cons f l ihl=>
    obtain⟨q1,z,q2,q3⟩:=k3 f (by simp)
    have:=ihl fun g hg=>k3 g (by simp[hg])
    simp[q1,q2,q3]at this ⊢
    exact this
  ·rename_i offs n agg e len el hu
   obtain⟨cs,rfl,g1⟩:=fT hk
   simp only[den]at hx
   split at hx
   case h_2=>cases hx
   rename_i xs hxs
   cases hx
   simp only[acW,decide_eq_true_eq]at hc
   obtain⟨⟨⟨c1,c2⟩,c3⟩,c4⟩:=hc
   have key:∀(l:List Nat),(List.rec K (fun o _ r=>jk agg o n cs fun u=>wD d e u r) l:Bool)=true→K=true∧∀(b:Bool) (m:Nat) (w:World),d≤m→∀o∈l,∃z,(part el xs.toArray o).run P w= .ok z w∧(Instr.checkKey b m el z).run P w= .ok () w:=by
    intro l
    induction l with
    |nil=>intro hk;exact⟨hk,fun _ _ _ _ o ho=>by simp at ho⟩
    |cons o l ihl=>
     intro hk
     have hk':jk agg o n cs (fun u=>wD d e u (List.rec K (fun o _ r=>jk agg o n cs fun u=>wD d e u r) l))=true:=hk
     obtain⟨u,zu,u1,u2,u3⟩:=qQ hxs hk' c2 c1
     obtain⟨k1,k2⟩:=xA d c4 u1 u2
     obtain⟨k3,k4⟩:=ihl k1
     refine⟨k3,fun b m w hm o' ho'=> ?_⟩
     rcases List.mem_cons.1 ho' with rfl|ho'
     ·exact⟨zu,u3 w,k2 b m w hm⟩
     ·exact k4 b m w hm o' ho'
   obtain⟨k1,k2⟩:=key offs g1
   refine⟨k1,fun b m w hm=> ?_⟩
   obtain⟨m,rfl⟩:∃n',m=n'+1:=⟨m - 1,by omega⟩
   have k3:=k2 b m w (by omega)
   simp only[Instr.checkKey,acQ,run_underlying hu,acP]
   rw[Std.Legacy.Range.forIn_eq_forIn_range']
   simp only[Std.Legacy.Range.size,Nat.sub_zero,Nat.add_sub_cancel,Nat.div_one]
   rw[c3,List.range_eq_range']at k3
   generalize List.range' 0 len=l at k3 ⊢
   clear hu key c3 g1 k2
   induction l with
   |nil=>simp
   |cons i l ihl=>
    obtain⟨z,q2,q3⟩:=k3 (i*n) (by simp)
    have:=ihl fun g hg=>k3 g (by simp at hg ⊢;exact .inr hg)
    simp[Go.Eng.run_sizeOf c1,q2,q3]at this ⊢
    exact this
  ·cases hc
theorem Fz {d:Nat} {et:ET} {k:AV} {x:Value} {kt:TypeId} (hd:d≤10000) (hc:dz P d et kt=true) (hx:den E ρ k=some x) {es:List (AV×AV×Nat)} {ms:List MapEntry} {Kn:Bool} {Ks:Nat→AV×AV×Nat→Bool} (he:bS E ρ es=some ms) (hk:KR d et k es Kn Ks=true):
  (Kn=true∧∀w,(Instr.findKey kt x ms).run P w= .ok none w)∨(∃j e y,es[j]?=some e∧Ks j e=true∧den E ρ e.2.1=some y∧∀w,(Instr.findKey kt x ms).run P w= .ok (some (j,y)) w):=by
 obtain⟨dd,hu⟩:∃dd,P.underlying kt=some dd:=by
  cases d with
  |zero=>simp[dz]at hc
  |succ d=>
   unfold dz at hc
   rcases hq:P.underlying kt with _|dd
   ·rw[hq]at hc;cases et<;>simp at hc
   ·exact⟨dd,rfl⟩
 rcases MF hd hc hx (i:=0) he hk with⟨q1,q2⟩|⟨j,e,y,q1,q2,q3,q4⟩
 ·refine .inl ⟨q1,fun w=> ?_⟩
  rcases(q2 w).2 dd hu with q|q
  ·simp[Instr.findKey,run_underlying hu,q]
  ·simp[Instr.findKey,run_underlying hu,q,(q2 w).1]
 ·rw[Nat.zero_add]at q2
  refine .inr ⟨j,e,y,q1,q2,q3,fun w=> ?_⟩
  have:=q4 w
  rw[Nat.zero_add]at this
  rcases this.2 dd hu with q|q
  ·simp[Instr.findKey,run_underlying hu,q]
  ·simp[Instr.findKey,run_underlying hu,q,this.1]
theorem Sim.map (h:Sim E ρ G F M nx w) {i:Nat} {es:List (AV×AV×Nat)} {cl:Nat} (hi:M.get i=some (.map es cl)):∃e ms,ρ i=some e∧bS E ρ es=some ms∧w.heap[e.b]?=some (.map ms.toArray cl):=by
 obtain⟨e,ob,h1,h2,ms,h3,rfl⟩:=h.obj hi
 exact⟨e,ms,h1,h3,h2⟩
noncomputable def yb (M:T) (i:Nat) (K:Bool→Bool→Bool→(α:Type)→List α→(α→List PL)→(α→List PL)→Bool):Bool:=dJ (M.get i) fun ob=>AObj.casesOn ob (fun _ _ _ _=>false) (fun _ _=>false) (fun _ _ _ _=>false) false (fun _ _ _ _ _=>false) K
theorem sv {M:T} {i:Nat} {K:Bool→Bool→Bool→(α:Type)→List α→(α→List PL)→(α→List PL)→Bool} (h:yb M i K=true):∃sure ak av α l k v,M.get i=some (.kmap sure ak av α l k v)∧K sure ak av α l k v=true:=by
 obtain⟨ob,h1,h2⟩:=bO h
 cases ob<;>first|exact⟨_,_,_,_,_,_,_,h1,h2⟩|cases h2
noncomputable def isK (M:T) (i:Nat):Bool:=Option.casesOn (M.get i) false fun ob=>AObj.casesOn ob (fun _ _ _ _=>false) (fun _ _=>false) (fun _ _ _ _=>false) false (fun _ _ _ _ _=>false) (fun _ _ _ _ _ _ _=>true)
noncomputable def Wl (d:Nat) (et:ET) (key:AV) (ak:Bool) (α:Type) (l:List α) (k:α→List PL) (Q:α→Prop):Bool:=
 aA fun x:α=>bn (au (x∈l)) (sE d et key (ch ak (k x)) fun b=>bn b (au (Q x)) (au (¬Q x))) true
theorem PI {d:Nat} {et:ET} {key:AV} {ak:Bool} {α:Type} {l:List α} {k:α→List PL} {Q:α→Prop} (h:Wl d et key ak α l k Q=true):∀x∈l,sE d et key (ch ak (k x)) (fun b=>bn b (au (Q x)) (au (¬Q x)))=true:=fun x hx=>by
 have h:=aF h x
 rw[prB_true.2 hx]at h
 exact h
theorem MG {d:Nat} {et:ET} {key:AV} {x:Value} {kt:TypeId} (hd:d≤10000) (hc:dz P d et kt=true) (hx:den E ρ key=some x) {α:Type} {ak av:Bool} {k v:α→List PL} {Q:α→Prop}:∀{l:List α} {es:List (AV×AV×Nat)} {ms:List MapEntry} {i:Nat},
  es.map (fun e=>(e.1,e.2.1))=l.map (fun x=>(ch ak (k x),ch av (v x)))→bS E ρ es=some ms→(∀y∈l,sE d et key (ch ak (k y)) (fun b=>bn b (au (Q y)) (au (¬Q y)))=true)→
  ((∀y∈l,¬Q y)∧∀w,(Instr.findAsking kt x ms i).run P w= .ok none w∧∀dd,P.underlying kt=some dd→(Instr.findNow dd x ms i=some none∨(Instr.findNow dd x ms i=none)))∨
  (∃j y z,l[j]?=some y∧Q y∧den E ρ (ch av (v y))=some z∧∀w,(Instr.findAsking kt x ms i).run P w= .ok (some (i+j,z)) w∧∀dd,P.underlying kt=some dd→(Instr.findNow dd x ms i=some (some (i+j,z))∨Instr.findNow dd x ms i=none))
 |[],[],ms,i,_,he,_=>by
  simp[bS]at he
  subst he
  exact .inl ⟨fun y hy=>(by cases hy),fun w=>⟨by simp[Instr.findAsking],fun dd _=>.inl rfl⟩⟩
 |[],_::_,ms,i,h1,_,_=>by simp at h1
 |_::_,[],ms,i,h1,_,_=>by simp at h1
 |y::l,(k',v',b')::es,ms,i,hs,he,hq=>by
  simp only[List.map_cons,List.cons.injEq,Prod.mk.injEq]at hs
  obtain⟨⟨rfl,rfl⟩,hs⟩:=hs
  obtain⟨x',y',ms',h1,h2,h3,rfl⟩:=dS he
  obtain⟨b,b1,b2,hsn⟩:=BZ d hc hx h1 (hq y List.mem_cons_self)
  have hr:∀w,(Op.equal kt x x').run P w= .ok b w:=fun w=>b2 10000 w hd
  rcases bh b1 with⟨rfl,b3⟩|⟨rfl,b3⟩
  ·refine .inr ⟨0,y,y',rfl,prB_true.1 b3,h2,fun w=>⟨by simp[Instr.findAsking,hr],fun dd hu=> ?_⟩⟩
   rcases hsn dd hu with q|q<;>simp[Instr.findNow,q]
  ·rcases MG hd hc hx (i:=i+1) hs h3 (fun z hz=>hq z (List.mem_cons_of_mem _ hz)) with⟨q1,q2⟩|⟨j,z,y2,q1,q2,q3,q4⟩
   ·refine .inl ⟨fun z hz=> ?_,fun w=>⟨by simp[Instr.findAsking,hr,(q2 w).1],fun dd hu=> ?_⟩⟩
    ·rcases List.mem_cons.1 hz with rfl|hz
     ·exact prB_true.1 b3
     ·exact q1 z hz
    rcases hsn dd hu with q|q
    ·simp only[Instr.findNow,q]
     exact(q2 w).2 dd hu
    ·exact .inr (by simp[Instr.findNow,q])
   ·refine .inr ⟨j+1,z,y2,by simpa using q1,q2,q3,fun w=>⟨by simp[Instr.findAsking,hr,(q4 w).1];omega,fun dd hu=> ?_⟩⟩
    rcases hsn dd hu with q|q
    ·simp only[Instr.findNow,q]
     have:=(q4 w).2 dd hu
     rw[show i+1+j=i+(j+1) by omega]at this
     exact this
    ·exact .inr (by simp[Instr.findNow,q])
theorem Ke {d:Nat} {et:ET} {key:AV} {x:Value} {kt:TypeId} (hd:d≤10000) (hc:dz P d et kt=true) (hx:den E ρ key=some x) {α:Type} {ak av:Bool} {k v:α→List PL} {Q:α→Prop} {l:List α} {es:List (AV×AV×Nat)} {ms:List MapEntry}
  (hs:es.map (fun e=>(e.1,e.2.1))=l.map (fun x=>(ch ak (k x),ch av (v x)))) (he:bS E ρ es=some ms) (hq:∀y∈l,sE d et key (ch ak (k y)) (fun b=>bn b (au (Q y)) (au (¬Q y)))=true):
  ((∀y∈l,¬Q y)∧∀w,(Instr.findKey kt x ms).run P w= .ok none w)∨(∃j y z,l[j]?=some y∧Q y∧den E ρ (ch av (v y))=some z∧∀w,(Instr.findKey kt x ms).run P w= .ok (some (j,z)) w):=by
 obtain⟨dd,hu⟩:∃dd,P.underlying kt=some dd:=by
  cases d with
  |zero=>simp[dz]at hc
  |succ d=>
   unfold dz at hc
   rcases hq:P.underlying kt with _|dd
   ·rw[hq]at hc;cases et<;>simp at hc
   ·exact⟨dd,rfl⟩
 rcases MG hd hc hx (i:=0) hs he hq with⟨q1,q2⟩|⟨j,y,z,q1,q2,q3,q4⟩
 ·refine .inl ⟨q1,fun w=> ?_⟩
  rcases(q2 w).2 dd hu with q|q
  ·simp[Instr.findKey,run_underlying hu,q]
  ·simp[Instr.findKey,run_underlying hu,q,(q2 w).1]
 ·refine .inr ⟨j,y,z,q1,q2,q3,fun w=> ?_⟩
  have:=q4 w
  rw[Nat.zero_add]at this
  rcases this.2 dd hu with q|q
  ·simp[Instr.findKey,run_underlying hu,q]
  ·simp[Instr.findKey,run_underlying hu,q,this.1]
theorem Sim.kmap (h:Sim E ρ G F M nx w) {i:Nat} {ak av:Bool} {α:Type} {l:List α} {k v:α→List PL} (hi:M.get i=some (.kmap false ak av α l k v)) {x:Value} (hm:den E ρ (.sy (.kmp i))=some x):
  ∃e,ρ i=some e∧((x= .map (some e.b)∧∃es ms cl,es.map (fun e=>(e.1,e.2.1))=l.map (fun x=>(ch ak (k x),ch av (v x)))∧bS E ρ es=some ms∧w.heap[e.b]?=some (.map ms.toArray cl))∨(x= .map none∧l=[])):=by
 obtain⟨e,h1,q⟩:=h.objP hi
 simp only[den,bz,h1,acX]at hm
 refine⟨e,h1,?_⟩
 rcases q with⟨q1,ob,q2,es,cl,ms,h3,h4,rfl⟩|⟨q1,q2⟩
 ·refine .inl ⟨?_,es,ms,cl,h3,h4,q2⟩
  have q1:(false|| !Nat.beq e.cap 0)=true:=q1
  have q3:Nat.beq e.cap 0=false:=by simpa using q1
  rw[←hm,q3];rfl
 ·refine .inr ⟨?_,q2.2⟩
  have q1:(false|| !Nat.beq e.cap 0)=false:=q1
  have q3:Nat.beq e.cap 0=true:=by simpa using q1
  rw[←hm,q3];rfl
theorem Sim.kmapS (h:Sim E ρ G F M nx w) {i:Nat} {ak av:Bool} {α:Type} {l:List α} {k v:α→List PL} (hi:M.get i=some (.kmap true ak av α l k v)):∃e es ms cl,ρ i=some e∧es.map (fun e=>(e.1,e.2.1))=l.map (fun x=>(ch ak (k x),ch av (v x)))∧bS E ρ es=some ms∧w.heap[e.b]?=some (.map ms.toArray cl):=by
 obtain⟨e,ob,h1,h2,es,cl,ms,h3,h4,rfl⟩:=h.obj hi
 exact⟨e,es,ms,cl,h1,h3,h4,h2⟩
noncomputable def KY (v:AV) (K:Nat→Bool) (K0:Bool):Bool:=match v with
 |.sy (.kmp i)=>K i
 |_=>K0
theorem Nr {v:AV} {K:Nat→Bool} {K0:Bool} (h:KY v K K0=true):(∃i,v= .sy (.kmp i)∧K i=true)∨K0=true:=by
 unfold KY at h
 split at h
 ·exact .inl ⟨_,rfl,h⟩
 ·exact .inr h
noncomputable def lkK (d:Nat) (et:ET) (zv:AV) (comma:Bool) (k:AV) (ak av:Bool) (α:Type) (l:List α) (kf vf:α→List PL) (K:AV→Bool):Bool:=
 aI fun Q:α→Prop=>ac (Wl d et k ak α l kf Q) (ac (bn (au (∀x∈l,¬Q x)) (bn comma (K (.tup [zv,.bool false])) (K zv)) true) (aA fun x:α=>bn (au (x∈l∧Q x)) (bn comma (K (.tup [ch av (vf x),.bool true])) (K (ch av (vf x)))) true))
noncomputable def lkX (d:Nat) (et:ET) (zv:AV) (comma:Bool) (m k:AV) (M:T) (K:AV→Bool):Bool:=
 wD d et k (KY m (fun i=>yb M i fun sure ak av α l kf vf=>bn sure false (lkK d et zv comma k ak av α l kf vf K)) (wA m (bn comma (K (.tup [zv,.bool false])) (K zv)) fun i=>bn (isK M i) (yb M i fun sure ak av α l kf vf=>ac sure (lkK d et zv comma k ak av α l kf vf K)) (rK M i fun es _=>KR d et k es (bn comma (K (.tup [zv,.bool false])) (K zv)) fun _ e=>bn comma (K (.tup [e.2.1,.bool true])) (K e.2.1))))
theorem abd (h:Sim E ρ G F M nx w) {d:Nat} {et:ET} {zv:AV} {zx:Value} {comma:Bool} {m k:AV} {K:AV→Bool} {x y:Value} {t kt e:TypeId} (hd:d≤10000) (ht:P.underlying t=some (.map kt e)) (hc:dz P d et kt=true) (hz:∀w,(zeroValue e).run P w= .ok zx w) (hzv:den E ρ zv=some zx)
  (hm:den E ρ m=some x) (hk:den E ρ k=some y) (hg:lkX d et zv comma m k M K=true):∃u z,den E ρ u=some z∧K u=true∧(Instr.lookup t x y comma).run P w= .ok z w:=by
 obtain⟨g1,g2⟩:=xA d hc hk hg
 have none_:(bn comma (K (.tup [zv,.bool false])) (K zv))=true→∃u z,den E ρ u=some z∧K u=true∧z=(if comma then .tuple #[zx,.bool false] else zx):=by
  intro hh
  rcases bh hh with⟨rfl,hh⟩|⟨rfl,hh⟩
  ·exact⟨_,_,by simp only[den,aR,hzv];rfl,hh,by simp⟩
  ·exact⟨_,_,hzv,hh,by simp⟩
 have nil_:(bn comma (K (.tup [zv,.bool false])) (K zv))=true→x= .map none→∃u z,den E ρ u=some z∧K u=true∧(Instr.lookup t x y comma).run P w= .ok z w:=fun g3 e=>by
  subst e
  obtain⟨u,z,u1,u2,u3⟩:=none_ g3
  refine⟨u,z,u1,u2,?_⟩
  have hf:(Instr.findKey kt y []).run P w= .ok none w:=by
   obtain⟨dd,hu⟩:∃dd,P.underlying kt=some dd:=by
    cases d with
    |zero=>simp[dz]at hc
    |succ d=>
     unfold dz at hc
     rcases hq:P.underlying kt with _|dd
     ·rw[hq]at hc;cases et<;>simp at hc
     ·exact⟨dd,rfl⟩
   simp[Instr.findKey,run_underlying hu,Instr.findNow]
  subst u3
  cases comma<;>simp[Instr.lookup,run_underlying ht,g2 _ 10000 w hd,hf,hz]
 have made_:∀{ak av:Bool} {α:Type} {l:List α} {kf vf:α→List PL} {f:eH} {es:List (AV×AV×Nat)} {ms:List MapEntry} {cl:Nat},lkK d et zv comma k ak av α l kf vf K=true→x= .map (some f.b)→es.map (fun e=>(e.1,e.2.1))=l.map (fun x=>(ch ak (kf x),ch av (vf x)))→bS E ρ es=some ms→w.heap[f.b]?=some (.map ms.toArray cl)→∃u z,den E ρ u=some z∧K u=true∧(Instr.lookup t x y comma).run P w= .ok z w:=by
  intro ak av α l kf vf f es ms cl g4 ex fs f2 f3
  subst ex
  obtain⟨Q,g5⟩:=bL g4
  obtain⟨g6,g7⟩:=aw g5
  obtain⟨g8,g9⟩:=aw g7
  rcases Ke hd hc hk fs f2 (PI g6) with⟨q1,q2⟩|⟨j,e',y',q1,q2,q3,q4⟩
  ·rw[prB_true.2 q1]at g8
   obtain⟨u,z,u1,u2,u3⟩:=none_ g8
   refine⟨u,z,u1,u2,?_⟩
   subst u3
   cases comma<;>simp[Instr.lookup,run_underlying ht,MapKept.run_getObj_map f3,g2 _ 10000 w hd,q2,hz]
  ·have g10:=aF g9 e'
   rw[prB_true.2 ⟨acH q1,q2⟩]at g10
   have g10:(bn comma (K (.tup [ch av (vf e'),.bool true])) (K (ch av (vf e'))))=true:=g10
   rcases bh g10 with⟨rfl,q5⟩|⟨rfl,q5⟩
   ·exact⟨_,.tuple #[y',.bool true],by simp only[den,aR,q3],q5,by simp[Instr.lookup,run_underlying ht,MapKept.run_getObj_map f3,g2 _ 10000 w hd,q4]⟩
   ·exact⟨_,y',q3,q5,by simp[Instr.lookup,run_underlying ht,MapKept.run_getObj_map f3,g2 _ 10000 w hd,q4]⟩
 rcases Nr g1 with⟨i,rfl,g3⟩|g1
 ·obtain⟨sure,ak,av,α,l,kf,vf,hi,g4⟩:=sv g3
  rcases bh g4 with⟨_,g4⟩|⟨rfl,g4⟩
  ·cases g4
  obtain⟨f,f1,⟨ex,es,ms,cl,fs,f2,f3⟩|⟨e0,rfl⟩⟩:=h.kmap hi hm
  ·exact made_ g4 ex fs f2 f3
  ·obtain⟨Q,g5⟩:=bL g4
   obtain⟨g6,g7⟩:=aw g5
   obtain⟨g8,g9⟩:=aw g7
   rw[prB_true.2 (fun z hz=>by cases hz)]at g8
   exact nil_ g8 e0
 rcases oK g1 with⟨rfl,g3⟩|⟨i,rfl,g3⟩
 ·cases hm
  obtain⟨u,z,u1,u2,u3⟩:=none_ g3
  refine⟨u,z,u1,u2,?_⟩
  have hf:(Instr.findKey kt y []).run P w= .ok none w:=by
   obtain⟨dd,hu⟩:∃dd,P.underlying kt=some dd:=by
    cases d with
    |zero=>simp[dz]at hc
    |succ d=>
     unfold dz at hc
     rcases hq:P.underlying kt with _|dd
     ·rw[hq]at hc;cases et<;>simp at hc
     ·exact⟨dd,rfl⟩
   simp[Instr.findKey,run_underlying hu,Instr.findNow]
  subst u3
  cases comma<;>simp[Instr.lookup,run_underlying ht,g2 _ 10000 w hd,hf,hz]
 ·rcases bh g3 with⟨_,g3⟩|⟨_,g3⟩
  ·obtain⟨sure,ak,av,α,l,kf,vf,hi,g4⟩:=sv g3
   obtain⟨hs,g4⟩:=aw g4
   subst hs
   obtain⟨f,es,ms,cl,f1,fs,f2,f3⟩:=h.kmapS hi
   simp only[den,f1,acX]at hm
   exact made_ g4 hm.symm fs f2 f3
  obtain⟨es,cl,hi,g4⟩:=kO g3
  obtain⟨f,ms,f1,f2,f3⟩:=h.map hi
  simp only[den,f1]at hm
  cases hm
  rcases Fz hd hc hk f2 g4 with⟨q1,q2⟩|⟨j,e',y',q1,q2,q3,q4⟩
  ·obtain⟨u,z,u1,u2,u3⟩:=none_ q1
   refine⟨u,z,u1,u2,?_⟩
   subst u3
   cases comma<;>simp[Instr.lookup,run_underlying ht,MapKept.run_getObj_map f3,g2 _ 10000 w hd,q2,hz]
  ·rcases bh q2 with⟨rfl,q5⟩|⟨rfl,q5⟩
   ·exact⟨_,.tuple #[y',.bool true],by simp only[den,aR,q3],q5,by simp[Instr.lookup,run_underlying ht,MapKept.run_getObj_map f3,g2 _ 10000 w hd,q4]⟩
   ·exact⟨_,y',q3,q5,by simp[Instr.lookup,run_underlying ht,MapKept.run_getObj_map f3,g2 _ 10000 w hd,q4]⟩
end
noncomputable def Ll (u v:AV):Bool:=AV.casesOn u false (fun k a=>ks v fun k2 b=>Bool.and (Nat.beq k k2) (uW a b)) (fun a=>PK v fun b=>Bool.rec (Bool.not b) b a) (fun l=>qn v fun m=>Ki l m) (fun i o=>qo v fun j p=>Bool.and (Nat.beq i j) (Nat.beq o p)) (fun _ _ _ _=>false) (fun _=>false) false false false false false (fun _ _=>false) (fun _ _=>false) (fun _=>false) (fun _=>false) (fun _=>false) (fun _=>false) (fun _=>false)
noncomputable def sbL (l m:List AV):Bool:=List.rec (motive:=fun _=>List AV→Bool) (fun m=>List.casesOn m true (fun _ _=>false)) (fun x _ ih m=>List.casesOn m false (fun y r=>Bool.and (Ll x y) (ih r))) l m
noncomputable def sbX (u v:AV):Bool:=AV.casesOn u false (fun _ _=>Ll u v) (fun _=>Ll u v) (fun _=>Ll u v) (fun _ _=>Ll u v) (fun _ _ _ _=>false) (fun _=>false) false false false false false (fun _ _=>false) (fun _ _=>false) (fun _=>false) (fun l=>asAgg v fun m=>sbL l m) (fun _=>false) (fun _=>false) (fun _=>false)
noncomputable def ers {α:Type _} (l:List α):Nat→(List α→Bool)→Bool:=List.rec (fun _ _=>false) (fun x xs ih n K=>Nat.rec (K xs) (fun m _=>ih m fun r=>K (x::r)) n) l
theorem TQ {α:Type _}:∀{l:List α} {n:Nat} {K:List α→Bool},ers l n K=true→K (l.eraseIdx n)=true∧n<l.length
 |[],n,K,h=>by cases h
 |x::l,0,K,h=>⟨h,by simp⟩
 |x::l,n+1,K,h=>by
  have h':ers l n (fun r=>K (x::r))=true:=h
  obtain⟨h1,h2⟩:=TQ h'
  exact⟨by simpa using h1,by simp;omega⟩
section
variable {P:Program} {E:Env} {ρ:Ren} {G:GS} {F:List aH} {M:T} {nx:Nat} {w:World}
theorem vb {a b:Bool} (h:Bool.and a b=true):a=true∧b=true:=by
 have h':(a&&b)=true:=h
 simpa using h'
theorem Be {u v:AV} {x y:Value} (h:Ll u v=true) (hx:den E ρ u=some x) (hy:den E ρ v=some y) (n:Nat):Instr.sameBits n x y=true:=by
 cases u<;>first|(cases h;done)|skip
 case int k a=>
  obtain⟨k2,b,rfl,h1⟩:=jW h
  obtain⟨h2,h3⟩:=vb h1
  have h2:=acG h2
  subst h2
  rw[uV,decide_eq_true_eq]at h3
  subst h3
  cases hx;cases hy
  unfold Instr.sameBits;simp
 case bool a=>
  obtain⟨b,rfl,h1⟩:=HA h
  cases hx;cases hy
  unfold Instr.sameBits
  cases a<;>cases b<;>first|rfl|cases h1
 case str l=>
  obtain⟨m,rfl,h1⟩:=jH h
  rw[yf,decide_eq_true_eq]at h1
  subst h1
  cases hx;cases hy
  unfold Instr.sameBits
  rw[beq_toListBytes];simp
 case ptr i o=>
  obtain⟨j,p,rfl,h1⟩:=jI h
  obtain⟨h2,h3⟩:=vb h1
  have h2:=acG h2
  have h3:=acG h3
  subst h2;subst h3
  rw[hx]at hy;cases hy
  simp only[den]at hx
  split at hx<;>cases hx
  unfold Instr.sameBits;simp
theorem SA:∀{l m:List AV} {xs ys:List Value},sbL l m=true→aR E ρ l=some xs→aR E ρ m=some ys→∀n,xs.length=ys.length∧(xs.zip ys).all (fun p=>Instr.sameBits n p.1 p.2)=true
 |[],[],xs,ys,_,hx,hy,n=>by simp[aR]at hx hy;subst hx;subst hy;simp
 |[],b::m,xs,ys,h,hx,hy,n=>by cases h
 |a::l,[],xs,ys,h,hx,hy,n=>by cases h
 |a::l,b::m,xs,ys,h,hx,hy,n=>by
  obtain⟨x,xs,h1,h2,rfl⟩:=bu hx
  obtain⟨y,ys,h3,h4,rfl⟩:=bu hy
  obtain⟨h5,h6⟩:=vb (a:=Ll a b) (b:=sbL l m) h
  obtain⟨h7,h8⟩:=SA h6 h2 h4 n
  refine⟨by simp[h7],?_⟩
  simp only[List.zip_cons_cons,List.all_cons,acW]
  exact⟨Be h5 h1 h3 n,h8⟩
theorem aaE {u v:AV} {x y:Value} (h:sbX u v=true) (hx:den E ρ u=some x) (hy:den E ρ v=some y):Instr.sameBits 10000 x y=true:=by
 cases u<;>first|(cases h;done)|skip
 case int k a=>exact Be (u:=.int k a) h hx hy 10000
 case bool a=>exact Be (u:=.bool a) h hx hy 10000
 case str a=>exact Be (u:=.str a) h hx hy 10000
 case ptr i o=>exact Be (u:=.ptr i o) h hx hy 10000
 case agg l=>
  obtain⟨m,rfl,h1⟩:=fT h
  simp only[den]at hx hy
  split at hx
  case h_2=>cases hx
  rename_i xs hxs
  split at hy
  case h_2=>cases hy
  rename_i ys hys
  cases hx;cases hy
  obtain⟨h2,h3⟩:=SA h1 hxs hys 9999
  show Instr.sameBits (9999+1) (.agg xs.toArray) (.agg ys.toArray)=true
  unfold Instr.sameBits
  simp only[acW,beq_iff_eq]
  exact⟨by simpa using h2,by simpa using h3⟩
theorem FH:∀{es:List (AV×AV×Nat)} {ms:List MapEntry} {k v:AV} {b:Nat} {x y:Value},bS E ρ es=some ms→den E ρ k=some x→den E ρ v=some y→bS E ρ (es++[(k,v,b)])=some (ms++[⟨x,y,b⟩])
 |[],ms,k,v,b,x,y,h,h1,h2=>by simp[bS]at h;subst h;simp[bS,h1,h2]
 |(k',v',b')::es,ms,k,v,b,x,y,h,h1,h2=>by
  obtain⟨x',y',ms',q1,q2,q3,rfl⟩:=dS h
  have:=FH q3 h1 h2 (b:=b)
  simp[bS,q1,q2,this]
theorem PC:∀{es:List (AV×AV×Nat)} {ms:List MapEntry} {i:Nat} {e:AV×AV×Nat},bS E ρ es=some ms→es[i]?=some e→∃x y,den E ρ e.1=some x∧den E ρ e.2.1=some y∧ms[i]?=some ⟨x,y,e.2.2⟩
 |[],ms,i,e,h,hi=>by simp at hi
 |(k',v',b')::es,ms,0,e,h,hi=>by
  obtain⟨x',y',ms',q1,q2,q3,rfl⟩:=dS h
  simp at hi;subst hi
  exact⟨x',y',q1,q2,rfl⟩
 |(k',v',b')::es,ms,i+1,e,h,hi=>by
  obtain⟨x',y',ms',q1,q2,q3,rfl⟩:=dS h
  obtain⟨x,y,h1,h2,h3⟩:=PC q3 (show es[i]?=some e by simpa using hi)
  exact⟨x,y,h1,h2,by simpa using h3⟩
theorem FF:∀{es:List (AV×AV×Nat)} {ms:List MapEntry},bS E ρ es=some ms→ms.length=es.length
 |[],ms,h=>by simp[bS]at h;subst h;rfl
 |(k',v',b')::es,ms,h=>by
  obtain⟨x',y',ms',q1,q2,q3,rfl⟩:=dS h
  simp[FF q3]
theorem MW:∀{es:List (AV×AV×Nat)} {ms:List MapEntry} {i:Nat} {k v:AV} {b:Nat} {x y:Value},bS E ρ es=some ms→den E ρ k=some x→den E ρ v=some y→bS E ρ (es.set i (k,v,b))=some (ms.set i ⟨x,y,b⟩)
 |[],ms,i,k,v,b,x,y,h,h1,h2=>by simp[bS]at h;subst h;simp[bS]
 |(k',v',b')::es,ms,0,k,v,b,x,y,h,h1,h2=>by
  obtain⟨x',y',ms',q1,q2,q3,rfl⟩:=dS h
  simp[bS,h1,h2,q3]
 |(k',v',b')::es,ms,i+1,k,v,b,x,y,h,h1,h2=>by
  obtain⟨x',y',ms',q1,q2,q3,rfl⟩:=dS h
  have:=MW q3 h1 h2 (i:=i) (b:=b)
  simp[bS,q1,q2,this]
theorem Hm:∀{es:List (AV×AV×Nat)} {ms:List MapEntry} {i:Nat},bS E ρ es=some ms→bS E ρ (es.eraseIdx i)=some (ms.eraseIdx i)
 |[],ms,i,h=>by simp[bS]at h;subst h;simp[bS]
 |(k',v',b')::es,ms,0,h=>by
  obtain⟨x',y',ms',q1,q2,q3,rfl⟩:=dS h
  simpa using q3
 |(k',v',b')::es,ms,i+1,h=>by
  obtain⟨x',y',ms',q1,q2,q3,rfl⟩:=dS h
  have:=Hm q3 (i:=i)
  simp[bS,q1,q2,this]
theorem Sim.mapTurn (h:Sim E ρ G F M nx w) {i:Nat} {es es':List (AV×AV×Nat)} {cl cl':Nat} {e:eH} {ms':List MapEntry} {M':T} (hi:M.get i=some (.map es cl)) (he:ρ i=some e) (hd:bS E ρ es'=some ms') (h1:M'.get i=some (.map es' cl')) (h2:∀m,m≠i→M'.get m=M.get m):
  Sim E ρ G F M' nx {w with heap:=w.heap.setIfInBounds e.b (.map ms'.toArray cl')}:=by
 obtain⟨e',ms,q1,q2,q3⟩:=h.map hi
 rw[he]at q1;cases q1
 have hlt:=bQ q3
 exact h.turn (o':=.map es' cl') (ob':=.map ms'.toArray cl') hi he rfl rfl rfl (fun b _ hb=>by
  have:¬e.b=b:=fun q=>hb q.symm
  simp[this]) (by simp[hlt]) ⟨ms',hd,rfl⟩ h1 h2
theorem Sim.kmapTurn (h:Sim E ρ G F M nx w) {i:Nat} {ak av:Bool} {α:Type} {l:List α} {kf vf:α→List PL} {y:α} {e:eH} {es:List (AV×AV×Nat)} {ms:List MapEntry} {x z:Value} {cl:Nat} {M':T} (hi:M.get i=some (.kmap true ak av α l kf vf)) (he:ρ i=some e)
  (hs:es.map (fun e=>(e.1,e.2.1))=l.map (fun x=>(ch ak (kf x),ch av (vf x)))) (hd:bS E ρ es=some ms) (h3:w.heap[e.b]?=some (.map ms.toArray cl)) (hk:den E ρ (ch ak (kf y))=some x) (hv:den E ρ (ch av (vf y))=some z)
  (h1:M'.get i=some (.kmap true ak av α (l++[y]) kf vf)) (h2:∀m,m≠i→M'.get m=M.get m):
  Sim E ρ G F M' nx {w with heap:=w.heap.setIfInBounds e.b (.map (ms++[(⟨x,z,cl⟩:MapEntry)]).toArray (cl+1))}:=by
 have hlt:=bQ h3
 exact h.turn (o':=.kmap true ak av α (l++[y]) kf vf) (ob':=.map (ms++[(⟨x,z,cl⟩:MapEntry)]).toArray (cl+1)) hi he rfl rfl rfl (fun b _ hb=>by
  have:¬e.b=b:=fun q=>hb q.symm
  simp[this]) (by simp[hlt]) ⟨es++[(ch ak (kf y),ch av (vf y),cl)],cl+1,ms++[(⟨x,z,cl⟩:MapEntry)],by simp[hs],FH hd hk hv,rfl⟩ h1 h2
noncomputable def abb (M:T) (nx:Nat) (K:AV→T→Nat→Bool):Bool:=T.set cb M nx (some (.map [] 0)) fun M'=>fN (Nat.succ nx) fun n=>K (.map nx) M' n
theorem XZ (h:Sim E ρ G F M nx w) {K:AV→T→Nat→Bool} (hk:abb M nx K=true) {t:TypeId} {kt e:TypeId} (ht:P.underlying t=some (.map kt e)) {hint:Option Value} (hh:∀v,hint=some v→∃k n,v= .int k n):
  ∃v M' nx' ρ' w' x,ρ.Le ρ'∧Sim E ρ' G F M' nx' w'∧K v M' nx'=true∧den E ρ' v=some x∧(Instr.makeMap t hint).run P w= .ok x w':=by
 obtain⟨M',k1,k2,k3⟩:=T.set_ok _ _ _ _ _ hk
 rw[ck]at k1
 have hn:=h.fresh nx (acU _)
 refine⟨_,M',_,ρ.set nx ⟨w.heap.size,0⟩,w.alloc (.map #[] 0),Value.map (some w.heap.size),Ren.le_set _ hn,h.alloc (o:=.map [] 0) (ob:=.map #[] 0) hn (Nat.le_succ _) (Nat.lt_succ_self _) (cap:=0) ⟨[],rfl,rfl⟩ k2 k3,k1,by simp[den,Ren.set_self],?_⟩
 rcases hint with _|v
 ·simp[Instr.makeMap,newObj,Sem.run]
 ·obtain⟨k,n,rfl⟩:=hh v rfl
  simp[Instr.makeMap,run_underlying ht,asInt,asIntOf,newObj,Sem.run]
noncomputable def muX (d:Nat) (et:ET) (m k v:AV) (M:T) (K:T→Bool):Bool:=
 wD d et k (wA m false fun i=>bn (isK M i) (yb M i fun sure ak av α l kf vf=>ac sure (aI fun Q:α→Prop=>ac (Wl d et k ak α l kf Q) (ac (au (∀x∈l,¬Q x)) (aI fun x:α=>ac (au (ch ak (kf x)=k)) (ac (au (ch av (vf x)=v)) (T.set cb M i (some (.kmap true ak av α (l++[x]) kf vf)) K)))))) (rK M i fun es cl=>KR d et k es
  (app es [(k,v,cl)] fun es'=>fN (Nat.succ cl) fun cl'=>T.set cb M i (some (.map es' cl')) K)
  fun j e=>ac (sbX e.1 k) (ix es j [(k,v,e.2.2)] fun es'=>T.set cb M i (some (.map es' cl)) K)))
theorem aa8 (h:Sim E ρ G F M nx w) {d:Nat} {et:ET} {m k v:AV} {K:T→Bool} {x y z:Value} {t kt e:TypeId} (hd:d≤10000) (ht:P.underlying t=some (.map kt e)) (hc:dz P d et kt=true) (hm:den E ρ m=some x) (hk:den E ρ k=some y) (hv:den E ρ v=some z)
  (hg:muX d et m k v M K=true):∃M' w',Sim E ρ G F M' nx w'∧K M'=true∧(Instr.mapUpdate t x y z).run P w= .ok () w':=by
 obtain⟨g1,g2⟩:=xA d hc hk hg
 rcases oK g1 with⟨_,g3⟩|⟨i,rfl,g3⟩
 ·cases g3
 rcases bh g3 with⟨_,g3⟩|⟨_,g3⟩
 ·obtain⟨sure,ak,av,α,l,kf,vf,hi,g4⟩:=sv g3
  obtain⟨hsu,g4⟩:=aw g4
  subst hsu
  obtain⟨Q,g5⟩:=bL g4
  obtain⟨g6,g7⟩:=aw g5
  obtain⟨g8,g9⟩:=aa g7
  obtain⟨y0,g10⟩:=bL g9
  obtain⟨g11,g12⟩:=aa g10
  obtain⟨g13,g14⟩:=aa g12
  obtain⟨f,es,ms,cl,f1,fs,f2,f3⟩:=h.kmapS hi
  simp only[den,f1]at hm
  cases hm
  obtain⟨M',k1,k2,k3⟩:=T.set_ok _ _ _ _ _ g14
  rcases Ke hd hc hk fs f2 (PI g6) with⟨q1,q2⟩|⟨j,e',y',q1,q2,q3,q4⟩
  ·refine⟨M',_,h.kmapTurn hi f1 fs f2 f3 (by rw[g11];exact hk) (by rw[g13];exact hv) k2 k3,k1,?_⟩
   simp[Instr.mapUpdate,run_underlying ht,MapKept.run_getObj_map f3,g2 _ 10000 w hd,q2,MapKept.run_setObj_map _ f3]
  ·exact absurd q2 (g8 e' (acH q1))
 obtain⟨es,cl,hi,g4⟩:=kO g3
 obtain⟨f,ms,f1,f2,f3⟩:=h.map hi
 simp only[den,f1]at hm
 cases hm
 rcases Fz hd hc hk f2 g4 with⟨q1,q2⟩|⟨j,e',y',q1,q2,q3,q4⟩
 ·rw[yh,ck]at q1
  obtain⟨M',k1,k2,k3⟩:=T.set_ok _ _ _ _ _ q1
  refine⟨M',_,h.mapTurn hi f1 (FH f2 hk hv) k2 k3,k1,?_⟩
  simp[Instr.mapUpdate,run_underlying ht,MapKept.run_getObj_map f3,g2 _ 10000 w hd,q2,MapKept.run_setObj_map _ f3]
 ·obtain⟨hs,q5⟩:=aw q2
  obtain⟨q6,hle⟩:=ef q5
  obtain⟨M',k1,k2,k3⟩:=T.set_ok _ _ _ _ _ q6
  obtain⟨xk,yv,r1,r2,r3⟩:=PC f2 q1
  have hset:es.take j++[(k,v,e'.2.2)]++es.drop (j+[(k,v,e'.2.2)].length)=es.set j (k,v,e'.2.2):=by
   simp at hle
   rw[List.set_eq_take_append_cons_drop,if_pos (by omega)]
   simp
  rw[hset]at k2
  refine⟨M',_,h.mapTurn hi f1 (MW (i:=j) f2 hk hv) k2 k3,k1,?_⟩
  have hm:(ms.toArray.modify j fun e=>{e with key:=y,val:=z})=(ms.set j ⟨y,z,e'.2.2⟩).toArray:=by
   apply Array.ext'
   simp only[Array.toList_modify,List.toList_toArray]
   refine List.ext_getElem? fun q=> ?_
   have hlt:=(List.getElem?_eq_some_iff.1 r3).1
   by_cases hq:j=q
   ·subst hq
    rw[List.getElem?_modify_eq,r3,List.getElem?_set_self hlt]
    rfl
   ·rw[List.getElem?_modify_ne _ _ hq,List.getElem?_set_ne hq]
  have hstay:(Instr.keyThatStays (((ms.toArray[j]?).map (·.key)).getD y) y).run P w= .ok y w:=by
   simp[r3,Instr.keyThatStays,aaE hs r1 hk]
  simp only[Instr.mapUpdate,acQ,run_underlying ht,acP,MapKept.run_getObj_map f3,g2 _ 10000 w hd,q4,hstay,MapKept.run_setObj_map _ f3]
  rw[hm]
noncomputable def abG (d:Nat) (et:ET) (m k:AV) (M:T) (K:T→Bool):Bool:=
 wD d et k (wA m (K M) fun i=>rK M i fun es cl=>KR d et k es (T.set cb M i (some (.map es cl)) K) fun j _=>ers es j fun es'=>T.set cb M i (some (.map es' cl)) K)
theorem Yx (h:Sim E ρ G F M nx w) {d:Nat} {et:ET} {m k:AV} {K:T→Bool} {x y:Value} {t t2 kt e ty:TypeId} (hd:d≤10000) (ht:P.underlying t=some (.map kt e)) (hc:dz P d et kt=true) (hm:den E ρ m=some x) (hk:den E ρ k=some y)
  (hg:abG d et m k M K=true):∃M' w',Sim E ρ G F M' nx w'∧K M'=true∧(Builtin.delete_ #[t,t2] ty #[x,y]).run P w= .ok (.tuple #[]) w':=by
 obtain⟨g1,g2⟩:=xA d hc hk hg
 rcases oK g1 with⟨rfl,g3⟩|⟨i,rfl,g3⟩
 ·cases hm
  exact⟨M,w,h,g3,by simp[Builtin.delete_,run_underlying ht,g2 _ 10000 w hd]⟩
 obtain⟨es,cl,hi,g4⟩:=kO g3
 obtain⟨f,ms,f1,f2,f3⟩:=h.map hi
 simp only[den,f1]at hm
 cases hm
 rcases Fz hd hc hk f2 g4 with⟨q1,q2⟩|⟨j,e',y',q1,q2,q3,q4⟩
 ·obtain⟨M',k1,k2,k3⟩:=T.set_ok _ _ _ _ _ q1
  exact⟨M',_,h.mapTurn hi f1 f2 k2 k3,k1,by simp[Builtin.delete_,run_underlying ht,MapKept.run_getObj_map f3,g2 _ 10000 w hd,q2,MapKept.run_setObj_map _ f3]⟩
 ·obtain⟨q5,hlt⟩:=TQ q2
  obtain⟨M',k1,k2,k3⟩:=T.set_ok _ _ _ _ _ q5
  refine⟨M',_,h.mapTurn hi f1 (Hm (i:=j) f2) k2 k3,k1,?_⟩
  have hm:ms.toArray.eraseIdxIfInBounds j=(ms.eraseIdx j).toArray:=by
   have hl:=FF f2
   rw[Array.eraseIdxIfInBounds,dif_pos (by simp;omega)]
   simp
  simp[Builtin.delete_,run_underlying ht,MapKept.run_getObj_map f3,g2 _ 10000 w hd,q4,MapKept.run_setObj_map _ f3,hm]
end
end Go.Sy
namespace Go.Sy
open Go Go.RowKit Go.Eng
open Go.ChangeMaps (setBlock)
section
variable {P:Program} {E:Env} {ρ:Ren} {G:GS} {F:List aH} {M:T} {nx:Nat} {w:World}
noncomputable def Wy (v:AV) (K:AV→Bool):Bool:=qn v fun l=>fN (eG l) fun n=>K (.int 0 (.ofNat n))
theorem UO {v:AV} {K:AV→Bool} {x:Value} {t ty:TypeId} (ht:P.underlying t=some .string) (hv:den E ρ v=some x) (hk:Wy v K=true):∃u z,den E ρ u=some z∧K u=true∧∀(cs:Array Bool) w,(builtin .len #[t] ty cs #[x]).run P w= .ok (.value z) w:=by
 obtain⟨l,rfl,k1⟩:=jH hk
 rw[ck,cT]at k1
 cases hv
 refine⟨_,_,rfl,k1,fun cs w=> ?_⟩
 have h1:ByteArray.size ⟨(l.map ac0).toArray⟩=l.length:=by simp[ByteArray.size]
 simp[builtin,Builtin.len_,h1,goInt,run_underlying ht,dc]
noncomputable def abg (v:AV) (K:AV→Bool):Bool:=xw v (K (.int 0 (.ofNat 0))) fun _ _ n _=>K (.int 0 (.ofNat n))
theorem Ye {v:AV} {K:AV→Bool} {x:Value} {t ty e:TypeId} (ht:P.underlying t=some (.slice e)) (hv:den E ρ v=some x) (hk:abg v K=true):∃u z,den E ρ u=some z∧K u=true∧∀(cs:Array Bool) w,(builtin .len #[t] ty cs #[x]).run P w= .ok (.value z) w:=by
 rcases nz hk with⟨rfl,k1⟩|⟨i,o,n,c,rfl,k1⟩
 ·cases hv
  exact⟨_,_,rfl,k1,fun cs w=>by simp[builtin,Builtin.len_,goInt,run_underlying ht,dc]⟩
 ·simp only[den]at hv
  split at hv
  ·cases hv
   exact⟨_,_,rfl,k1,fun cs w=>by simp[builtin,Builtin.len_,goInt,run_underlying ht,dc]⟩
  ·cases hv
noncomputable def WG (v:AV) (M:T) (K:AV→Bool):Bool:=wA v (K (.int 0 (.ofNat 0))) fun i=>rK M i fun es _=>fN (eG es) fun n=>K (.int 0 (.ofNat n))
theorem Vm (h:Sim E ρ G F M nx w) {v:AV} {K:AV→Bool} {x:Value} {t ty kt e:TypeId} (ht:P.underlying t=some (.map kt e)) (hv:den E ρ v=some x) (hk:WG v M K=true):∃u z,den E ρ u=some z∧K u=true∧∀cs:Array Bool,(builtin .len #[t] ty cs #[x]).run P w= .ok (.value z) w:=by
 rcases oK hk with⟨rfl,k1⟩|⟨i,rfl,k1⟩
 ·cases hv
  exact⟨_,_,rfl,k1,fun cs=>by simp[builtin,Builtin.len_,goInt,run_underlying ht,dc]⟩
 ·obtain⟨es,cl,hi,k2⟩:=kO k1
  rw[ck,cT]at k2
  obtain⟨f,ms,f1,f2,f3⟩:=h.map hi
  simp only[den,f1]at hv
  cases hv
  refine⟨_,_,rfl,k2,fun cs=> ?_⟩
  have:=FF f2
  simp[builtin,Builtin.len_,goInt,run_underlying ht,dc,MapKept.run_getObj_map f3,this]
noncomputable def mxX (mx:Bool) (v1 v2:AV) (K:AV→Bool):Bool:=ks v1 fun k a=>ks v2 fun k2 b=>ac (Nat.beq k k2) (bn (uO a b) (bn mx (K v2) (K v1)) (bn mx (K v1) (K v2)))
theorem aa7 {mx:Bool} {v1 v2:AV} {K:AV→Bool} {x y:Value} {ta:Array TypeId} {ty:TypeId} (h1:den E ρ v1=some x) (h2:den E ρ v2=some y) (hk:mxX mx v1 v2 K=true):
  ∃u z,den E ρ u=some z∧K u=true∧∀(cs:Array Bool) w,(builtin (bif mx then .max else .min) ta ty cs #[x,y]).run P w= .ok (.value z) w:=by
 obtain⟨k,a,b,rfl,rfl,g⟩:=pB (f:=fun k a b=>bn (uO a b) (bn mx (K v2) (K v1)) (bn mx (K v1) (K v2))) hk
 cases h1;cases h2
 rw[xZ]at g
 rcases bh g with⟨q,g⟩|⟨q,g⟩
 ·have q:a<b:=of_decide_eq_true q
  rcases bh g with⟨rfl,g⟩|⟨rfl,g⟩
  ·exact⟨_,_,rfl,g,fun cs w=>by simp[builtin,Builtin.max_,Builtin.max2,q]⟩
  ·exact⟨_,_,rfl,g,fun cs w=>by
    have:¬b<a:=by omega
    simp[builtin,Builtin.min_,Builtin.min2,this]⟩
 ·have q:¬a<b:=of_decide_eq_false q
  rcases bh g with⟨rfl,g⟩|⟨rfl,g⟩
  ·exact⟨_,_,rfl,g,fun cs w=>by simp[builtin,Builtin.max_,Builtin.max2,q]⟩
  ·refine⟨_,_,rfl,g,fun cs w=> ?_⟩
   by_cases e:b<a
   ·simp[builtin,Builtin.min_,Builtin.min2,e]
   ·have:a=b:=by omega
    subst this
    simp[builtin,Builtin.min_,Builtin.min2]
noncomputable def abw (i:Nat) (v:AV) (K:AV→Bool):Bool:=WW v fun l=>dJ (fF l i) K
theorem Yu {i:Nat} {v:AV} {K:AV→Bool} {x:Value} (hv:den E ρ v=some x) (hk:abw i v K=true):∃u z,den E ρ u=some z∧K u=true∧∀w,(Instr.extract x i).run P w= .ok z w:=by
 obtain⟨l,rfl,k1⟩:=Wm hk
 obtain⟨u,hu,k2⟩:=bO k1
 rw[gB]at hu
 simp only[den]at hv
 split at hv
 ·rename_i xs hd
  cases hv
  obtain⟨z,h1,h2⟩:=pl hd hu
  exact⟨u,z,h1,k2,fun w=>by simp[Instr.extract,h2]⟩
 ·cases hv
noncomputable def aaB (v iv:AV) (K:AV→Bool):Bool:=qn v fun l=>Hz iv fun _ n=>dJ (fF l n) fun c=>ac (Nat.blt c 256) (K (.int 1 (.ofNat c)))
theorem Xy {v iv:AV} {K:AV→Bool} {x y:Value} {t:TypeId} (ht:P.underlying t=some .string) (hv:den E ρ v=some x) (hi:den E ρ iv=some y) (hk:aaB v iv K=true):∃u z,den E ρ u=some z∧K u=true∧∀w,(Instr.index t x y).run P w= .ok z w:=by
 obtain⟨l,rfl,k1⟩:=jH hk
 obtain⟨kd,n,rfl,k2⟩:=At k1
 obtain⟨c,hc,k3⟩:=bO k2
 obtain⟨hb,k4⟩:=aw k3
 rw[ac2]at hb
 rw[gB]at hc
 cases hv;cases hi
 refine⟨_,_,rfl,k4,fun w=> ?_⟩
 have hlt:=(List.getElem?_eq_some_iff.1 hc).1
 have hg:(ByteArray.data ⟨(l.map ac0).toArray⟩)[n]?=some (ac0 c):=by simp[hc]
 have h1:ByteArray.size ⟨(l.map ac0).toArray⟩=l.length:=by simp[ByteArray.size]
 have hx:l[n]'hlt=c:=(List.getElem?_eq_some_iff.1 hc).2
 simp[Instr.index,run_underlying ht,asIntOf,h1,hlt,dc]
 show(((((l.map ac0).toArray)[n]'(by simp;omega)).toNat:Nat):Int)=c
 simp[hx]
 omega
noncomputable def itX (mi:Option Nat) (cl:Nat) (M:T) (nx:Nat) (K:AV→T→Nat→Bool):Bool:=T.set cb M nx (some (.iter mi cl [] cl)) fun M'=>fN (Nat.succ nx) fun n=>K (.ptr nx 0) M' n
noncomputable def aaF (m:AV) (M:T) (nx:Nat) (K:AV→T→Nat→Bool):Bool:=wA m (itX none 0 M nx K) fun i=>rK M i fun _ cl=>itX (some i) cl M nx K
theorem XB (h:Sim E ρ G F M nx w) {m:AV} {K:AV→T→Nat→Bool} {x:Value} {t kt e:TypeId} (ht:P.underlying t=some (.map kt e)) (hm:den E ρ m=some x) (hk:aaF m M nx K=true):
  ∃v M' nx' ρ' w' z,ρ.Le ρ'∧Sim E ρ' G F M' nx' w'∧K v M' nx'=true∧den E ρ' v=some z∧(Instr.range t x).run P w= .ok z w':=by
 have hn:=h.fresh nx (acU _)
 rcases oK hk with⟨rfl,g⟩|⟨i,rfl,g⟩
 ·cases hm
  obtain⟨M',k1,k2,k3⟩:=T.set_ok _ _ _ _ _ g
  rw[ck]at k1
  exact⟨_,M',_,ρ.set nx ⟨w.heap.size,0⟩,w.alloc (.mapIter none 0 #[] 0),.pointer (some ⟨w.heap.size,0,none⟩),Ren.le_set _ hn,h.alloc (o:=.iter none 0 [] 0) (ob:=.mapIter none 0 #[] 0) hn (Nat.le_succ _) (Nat.lt_succ_self _) (cap:=0) ⟨none,rfl,rfl⟩ k2 k3,k1,by simp[den,Ren.set_self],run_range_nilMap w t kt e ht⟩
 ·obtain⟨es,cl,hi,g2⟩:=kO g
  obtain⟨f,ms,f1,f2,f3⟩:=h.map hi
  simp only[den,f1]at hm
  cases hm
  obtain⟨M',k1,k2,k3⟩:=T.set_ok _ _ _ _ _ g2
  rw[ck]at k1
  have hne:i≠nx:=fun q=>by rw[q,hn]at f1;cases f1
  exact⟨_,M',_,ρ.set nx ⟨w.heap.size,0⟩,w.alloc (.mapIter (some f.b) cl #[] cl),.pointer (some ⟨w.heap.size,0,none⟩),Ren.le_set _ hn,h.alloc (o:=.iter (some i) cl [] cl) (ob:=.mapIter (some f.b) cl #[] cl) hn (Nat.le_succ _) (Nat.lt_succ_self _) (cap:=0) ⟨some f.b,⟨f,f1,rfl⟩,rfl⟩ k2 k3,k1,by simp[den,Ren.set_self],run_range_map w t kt e f.b _ cl ht f3⟩
noncomputable def Fy (n:Nat) (l:List Nat):Bool:=List.rec false (fun x _ ih=>Bool.rec ih true (Nat.beq x n)) l
theorem IC (n:Nat):∀l,Fy n l=l.contains n
 |[]=>rfl
 |x::l=>by
  have:Fy n (x::l)=Bool.rec (motive:=fun _=>Bool) (Fy n l) true (Nat.beq x n):=rfl
  rw[this,IC n l]
  by_cases h:x=n
  ·subst h;simp
  ·have hb:Nat.beq x n=false:=by
    cases e:Nat.beq x n with
    |false=>rfl
    |true=>exact absurd (acG e) h
   simp[hb,Ne.symm h]
noncomputable def RC (since:Nat) (es:List (AV×AV×Nat)):Bool:=List.rec true (fun e _ ih=>Bool.rec false ih (Nat.blt e.2.2 since)) es
theorem Ni {since:Nat}:∀{es:List (AV×AV×Nat)} {ms:List MapEntry},RC since es=true→bS E ρ es=some ms→∀x∈ms,x.born<since
 |[],ms,_,h=>by simp[bS]at h;subst h;simp
 |(k,v,b)::es,ms,hb,h=>by
  obtain⟨x,y,ms',h1,h2,h3,rfl⟩:=dS h
  have hb':Bool.rec (motive:=fun _=>Bool) false (RC since es) (Nat.blt b since)=true:=hb
  have hv:Nat.blt b since=true:=by
   cases q:Nat.blt b since with
   |true=>rfl
   |false=>rw[q]at hb';cases hb'
  rw[hv]at hb'
  rw[ac2]at hv
  intro z hz
  rcases List.mem_cons.1 hz with rfl|hz
  ·exact hv
  ·exact Ni hb' h3 z hz
noncomputable def KW (seen:List Nat) (es:List (AV×AV×Nat)) (K:AV×AV×Nat→Bool):Bool:=List.rec true (fun e _ ih=>bn (Fy e.2.2 seen) ih (ac (K e) ih)) es
noncomputable def Cs (seen:List Nat) (es:List (AV×AV×Nat)):Bool:=List.rec false (fun e _ ih=>bn (Fy e.2.2 seen) ih true) es
theorem FI {seen:List Nat} {K:AV×AV×Nat→Bool}:∀{es:List (AV×AV×Nat)} {ms:List MapEntry},KW seen es K=true→bS E ρ es=some ms→∀x∈ms,seen.contains x.born=false→∃e,K e=true∧e∈es∧den E ρ e.1=some x.key∧den E ρ e.2.1=some x.val∧e.2.2=x.born
 |[],ms,_,h=>by simp[bS]at h;subst h;simp
 |(k,v,b)::es,ms,hc,h=>by
  obtain⟨x,y,ms',h1,h2,h3,rfl⟩:=dS h
  have hc':bn (Fy b seen) (KW seen es K) (ac (K (k,v,b)) (KW seen es K))=true:=hc
  intro z hz hs
  rcases bh hc' with⟨q,hc'⟩|⟨q,hc'⟩
  ·rcases List.mem_cons.1 hz with rfl|hz
   ·rw[IC]at q
    rw[q]at hs;cases hs
   ·obtain⟨e,e1,e2,e3⟩:=FI hc' h3 z hz hs
    exact⟨e,e1,by simp[e2],e3⟩
  ·obtain⟨q1,q2⟩:=aw hc'
   rcases List.mem_cons.1 hz with rfl|hz
   ·exact⟨_,q1,by simp,h1,h2,rfl⟩
   ·obtain⟨e,e1,e2,e3⟩:=FI q2 h3 z hz hs
    exact⟨e,e1,by simp[e2],e3⟩
theorem IT {seen:List Nat}:∀{es:List (AV×AV×Nat)} {ms:List MapEntry},bS E ρ es=some ms→(Cs seen es=true↔∃x∈ms,seen.contains x.born=false)
 |[],ms,h=>by simp[bS]at h;subst h;simp[Cs]
 |(k,v,b)::es,ms,h=>by
  obtain⟨x,y,ms',h1,h2,h3,rfl⟩:=dS h
  have hu:Cs seen ((k,v,b)::es)=bn (Fy b seen) (Cs seen es) true:=rfl
  rw[hu,GW,IC]
  have ih:=IT (seen:=seen) h3
  cases q:seen.contains b with
  |true=>
   simp only[cond_true,ih,List.mem_cons,exists_eq_or_imp,q,Bool.true_eq_false,false_or]
  |false=>
   simp only[cond_false,List.mem_cons,exists_eq_or_imp,q,true_or]
noncomputable def aaX (it:AV) (M:T) (K:AV→T→Bool):Bool:=qo it fun r o=>ac (Nat.beq o 0) (LU M r fun mi since seen c0=>Option.casesOn mi (K (.tup [.bool false]) M) fun i=>rK M i fun es cl=>
 ac (Nat.ble since c0) (ac (RC since es) (bn (Cs seen es)
  (KW seen es fun e=>app seen [e.2.2] fun seen'=>T.set cb M r (some (.iter (some i) since seen' cl)) fun M'=>K (.tup [.bool true,e.1,e.2.1]) M')
  (K (.tup [.bool false]) M))))
theorem XL (h:Sim E ρ G F M nx w) {it:AV} {K:AV→T→Bool} {x:Value} {ty:TypeId} (hv:den E ρ it=some x) (hk:aaX it M K=true):
  ∃v M' w' z,Sim E ρ G F M' nx w'∧K v M'=true∧den E ρ v=some z∧(Instr.next x false ty).run P w= .ok z w':=by
 obtain⟨r,o,rfl,g1⟩:=jI hk
 obtain⟨g2,g3⟩:=aw g1
 have g2:=acG g2
 subst g2
 obtain⟨mi,since,seen,c0,hi,g4⟩:=JL g3
 obtain⟨e,ob,e1,e2,mb,e3,rfl⟩:=h.obj hi
 simp only[den,e1]at hv
 cases hv
 cases mi with
 |none=>
  have e3:mb=none:=e3
  subst e3
  refine⟨_,M,w,.tuple #[.bool false],h,g4,rfl,?_⟩
  simp only[Instr.next,getObj,acQ,Sem.run,e2,Result.andThen]
  rfl
 |some i=>
  obtain⟨f,f1,rfl⟩:∃f,ρ i=some f∧mb=some f.b:=e3
  obtain⟨es,cl,hm,g5⟩:=kO g4
  obtain⟨f',ms,f2,f3,f4⟩:=h.map hm
  rw[f1]at f2;cases f2
  obtain⟨g6,g7⟩:=aw g5
  obtain⟨g8,g9⟩:=aw g7
  rw[Nat.ble_eq]at g6
  have hold:=Ni g8 f3
  rcases run_next_at (P:=P) w ty e.b f.b since c0 seen.toArray ms.toArray cl e2 f4 (by simpa using hold) g6 with⟨n1,n2⟩|⟨en,n1,w1,n2,n3⟩
  ·have hno:Cs seen es=false:=by
    cases q:Cs seen es with
    |false=>rfl
    |true=>
     obtain⟨x,hx,hs⟩:=(IT f3).1 q
     have hmem:x∈leftOf ms.toArray seen.toArray:=by simpa[leftOf] using⟨hx,by simpa using hs⟩
     have:=Array.size_pos_of_mem hmem
     omega
   rw[GW,hno,cond_false]at g9
   exact⟨_,M,w,_,h,g9,rfl,n2⟩
  ·have hmem:en∈ms∧seen.contains en.born=false:=by simpa[leftOf] using n1
   have hyes:Cs seen es=true:=(IT f3).2 ⟨en,hmem⟩
   rw[GW,hyes,cond_true]at g9
   obtain⟨c,c1,c2,c3,c4,c5⟩:=FI g9 f3 en hmem.1 hmem.2
   rw[yh]at c1
   obtain⟨M',k1,k2,k3⟩:=T.set_ok _ _ _ _ _ c1
   have hw1:Sim E ρ G F M nx w1:=by rcases n2 with rfl|rfl<;>first|exact h|exact h.drawn
   have hr1:w1.heap=w.heap:=by rcases n2 with rfl|rfl<;>rfl
   have hlt:=bQ e2
   refine⟨_,M',_,.tuple #[.bool true,en.key,en.val],?_,k1,by simp only[den,aR,c3,c4],n3⟩
   refine hw1.turn (o':=.iter (some i) since (seen++[c.2.2]) cl) (ob':=.mapIter (some f.b) since (seen.toArray.push en.born) cl) hi e1 rfl rfl rfl (fun b _ hb=> ?_) ?_ ⟨some f.b,⟨f,f1,rfl⟩,by rw[c5];simp⟩ k2 k3
   ·have:¬e.b=b:=fun q=>hb q.symm
    simp[setBlock,this]
   ·simp[setBlock,hr1,hlt]
noncomputable def VJ (b:Nat) (es:List (AV×AV×Nat)) (K:AV×AV×Nat→Bool):Bool:=List.rec false (fun e _ ih=>bn (Nat.beq e.2.2 b) (K e) ih) es
theorem Px {b:Nat} {K:AV×AV×Nat→Bool}:∀{es:List (AV×AV×Nat)} {ms:List MapEntry},VJ b es K=true→bS E ρ es=some ms→∃e x y,K e=true∧den E ρ e.1=some x∧den E ρ e.2.1=some y∧ms.find? (·.born==b)=some ⟨x,y,b⟩
 |[],ms,hf,h=>by cases hf
 |(k,v,c)::es,ms,hf,h=>by
  obtain⟨x,y,ms',h1,h2,h3,rfl⟩:=dS h
  have hf':bn (Nat.beq c b) (K (k,v,c)) (VJ b es K)=true:=hf
  rcases bh hf' with⟨q,g⟩|⟨q,g⟩
  ·have:=acG q
   subst this
   exact⟨_,x,y,g,h1,h2,by simp⟩
  ·obtain⟨e,x',y',r1,r2,r3,r4⟩:=Px g h3
   refine⟨e,x',y',r1,r2,r3,?_⟩
   have:(c==b)=false:=by
    rw[QG]at q
    simpa using q
   simp[this,r4]
noncomputable def WH (l:List Nat) (K:Nat→Bool):Bool:=List.rec false (fun x xs ih=>List.casesOn xs (K x) fun _ _=>ih) l
theorem LQ {K:Nat→Bool}:∀{l:List Nat},WH l K=true→∃x r,l=r++[x]∧K x=true
 |[],h=>by cases h
 |[x],h=>⟨x,[],rfl,h⟩
 |x::y::l,h=>by
  obtain⟨z,r,h1,h2⟩:=LQ (l:=y::l) h
  exact⟨z,x::r,by rw[h1];rfl,h2⟩
noncomputable def abF (it:AV) (M:T) (K:AV→Bool):Bool:=qo it fun r o=>ac (Nat.beq o 0) (LU M r fun mi _ seen c0=>dJ mi fun i=>rK M i fun es cl=>ac (Nat.beq c0 cl) (WH seen fun b=>VJ b es fun e=>K (.tup [e.1,e.2.1])))
theorem Yw (h:Sim E ρ G F M nx w) {it:AV} {K:AV→Bool} {x:Value} (hv:den E ρ it=some x) (hk:abF it M K=true):∃v z,den E ρ v=some z∧K v=true∧(Instr.entry x).run P w= .ok z w:=by
 obtain⟨r,o,rfl,g1⟩:=jI hk
 obtain⟨g2,g3⟩:=aw g1
 have g2:=acG g2
 subst g2
 obtain⟨mi,since,seen,c0,hi,g4⟩:=JL g3
 obtain⟨i,rfl,g5⟩:=bO g4
 obtain⟨e,ob,e1,e2,mb,e3,rfl⟩:=h.obj hi
 obtain⟨f,f1,rfl⟩:∃f,ρ i=some f∧mb=some f.b:=e3
 simp only[den,e1]at hv
 cases hv
 obtain⟨es,cl,hm,g6⟩:=kO g5
 obtain⟨f',ms,f2,f3,f4⟩:=h.map hm
 rw[f1]at f2;cases f2
 obtain⟨g7,g8⟩:=aw g6
 have g7:=acG g7
 subst g7
 obtain⟨b,q,rfl,g9⟩:=LQ g8
 obtain⟨c,x,y,c1,c2,c3,c4⟩:=Px g9 f3
 refine⟨_,.tuple #[x,y],by simp only[den,aR,c2,c3],c1,?_⟩
 have hb:(q++[b]).toArray.back?=some b:=by simp
 have hf:ms.toArray.find? (·.born==b)=some ⟨x,y,b⟩:=by simpa using c4
 simp only[Instr.entry,getObj,acQ,Sem.run,e2,f4,Result.andThen,hb,hf]
 simp
end
end Go.Sy
namespace Go.Sy
open Go Go.RowKit Go.Eng
section
variable {P:Program} {E:Env} {ρ:Ren} {G:GS} {F:List aH} {M:T} {nx:Nat} {w:World}
noncomputable def arS (o:Nat) (v1 v2:AV) (K:AV→Bool):Bool:=
 qk v1 fun k a=>qk v2 fun k2 b=>ac (Nat.beq k k2) (
  Nat.rec (uy k (a+b) K) (fun o _=>
  Nat.rec (uy k (a - b) K) (fun o _=>
  Nat.rec (uy k (a*b) K) (fun o _=>
  Nat.rec (ac (au (b≠0)) (uy k (Int.tdiv a b) K)) (fun _ _=>
  ac (au (b≠0)) (K (.sy (.int k (Int.tmod a b))))) o) o) o) o)
theorem qC {v1 v2:AV} {x y:Value} {f:Nat→Int→Int→Bool} (h1:den E ρ v1=some x) (h2:den E ρ v2=some y) (h:(qk v1 fun k a=>qk v2 fun k2 b=>ac (Nat.beq k k2) (f k a b))=true):∃k a b,x= .int (dc k) a∧y= .int (dc k) b∧f k a b=true:=by
 obtain⟨k,a,e1,g1⟩:=ln h1 h
 obtain⟨k2,b,e2,g2⟩:=ln h2 g1
 obtain⟨g3,g4⟩:=aw g2
 have:=acG g3
 subst this
 exact⟨k,a,b,e1,e2,g4⟩
theorem abW {o:Nat} {v1 v2:AV} {K:AV→Bool} {x y:Value} (h1:den E ρ v1=some x) (h2:den E ρ v2=some y) (h:arS o v1 v2 K=true) (t:TypeId) (p q:Operand):
  ∃v z,den E ρ v=some z∧K v=true∧∀w,((do eqGuard (mE o) t p q x y;binOp (mE o) t x y):Sem Value).run P w= .ok z w:=by
 match o with
 |0=>
  obtain⟨k,a,b,rfl,rfl,g⟩:=qC (f:=fun k a b=>uy k (a+b) K) h1 h2 h
  obtain⟨g1,g2,g3⟩:=tQ (E:=E) (ρ:=ρ) g
  exact⟨_,_,g3,g2,fun w=>by simp[mE,eqGuard,binOp,Op.intArith,g1]⟩
 |1=>
  obtain⟨k,a,b,rfl,rfl,g⟩:=qC (f:=fun k a b=>uy k (a - b) K) h1 h2 h
  obtain⟨g1,g2,g3⟩:=tQ (E:=E) (ρ:=ρ) g
  exact⟨_,_,g3,g2,fun w=>by simp[mE,eqGuard,binOp,Op.intArith,g1]⟩
 |2=>
  obtain⟨k,a,b,rfl,rfl,g⟩:=qC (f:=fun k a b=>uy k (a*b) K) h1 h2 h
  obtain⟨g1,g2,g3⟩:=tQ (E:=E) (ρ:=ρ) g
  exact⟨_,_,g3,g2,fun w=>by simp[mE,eqGuard,binOp,Op.intArith,g1]⟩
 |3=>
  obtain⟨k,a,b,rfl,rfl,g⟩:=qC (f:=fun k a b=>ac (au (b≠0)) (uy k (Int.tdiv a b) K)) h1 h2 h
  obtain⟨hb,g⟩:=aa g
  obtain⟨g1,g2,g3⟩:=tQ (E:=E) (ρ:=ρ) g
  exact⟨_,_,g3,g2,fun w=>by simp[mE,eqGuard,binOp,Op.intDiv,hb,g1]⟩
 |o+4=>
  obtain⟨k,a,b,rfl,rfl,g⟩:=qC (f:=fun k a b=>ac (au (b≠0)) (K (.sy (.int k (Int.tmod a b))))) h1 h2 h
  obtain⟨hb,g⟩:=aa g
  exact⟨_,_,rfl,g,fun w=>by simp[mE,eqGuard,binOp,Op.intDiv,hb]⟩
noncomputable def FS (u v:AV):Bool:=Bool.or (fp u) (fp v)
noncomputable def arY (o:Nat) (u v:AV) (K:AV→Bool):Bool:=bn (FS u v) (arS o u v K) (arX o u v K)
theorem abU {o:Nat} {v1 v2:AV} {K:AV→Bool} {x y:Value} (h1:den E ρ v1=some x) (h2:den E ρ v2=some y) (h:arY o v1 v2 K=true) (t:TypeId) (p q:Operand):
  ∃v z,den E ρ v=some z∧K v=true∧∀w,((do eqGuard (mE o) t p q x y;binOp (mE o) t x y):Sem Value).run P w= .ok z w:=by
 rcases bh h with⟨_,g⟩|⟨_,g⟩
 ·exact abW h1 h2 g t p q
 ·exact abV h1 h2 g t p q
def Ce (o:Nat) (a b:Int):Prop:=match o with
 |0=>a<b|1=>a≤b|2=>b<a|3=>b≤a|4=>a=b|_=>¬a=b
noncomputable def acv (o:Nat) (v1 v2:AV) (K:AV→Bool):Bool:=qk v1 fun k a=>qk v2 fun k2 b=>ac (Nat.beq k k2) (K (.sy (.bool (Ce o a b))))
noncomputable def VX (o:Nat) (u v:AV) (K:AV→Bool):Bool:=bn (FS u v) (acv o u v K) (abL o u v K)
theorem YB {o:Nat} {v1 v2:AV} {K:AV→Bool} {x y:Value} (h1:den E ρ v1=some x) (h2:den E ρ v2=some y) (h:VX o v1 v2 K=true) (t:TypeId) (p q:Operand):
  ∃v z,den E ρ v=some z∧K v=true∧∀w,((do eqGuard (mC o) t p q x y;binOp (mC o) t x y):Sem Value).run P w= .ok z w:=by
 rcases bh h with⟨_,g⟩|⟨_,g⟩
 ·obtain⟨k,a,b,rfl,rfl,g⟩:=qC (f:=fun k a b=>K (.sy (.bool (Ce o a b)))) h1 h2 g
  refine⟨_,_,rfl,g,fun w=> ?_⟩
  match o with
  |0=>simp[mC,Ce,eqGuard,binOp,Op.intCmp,oY]
  |1=>simp[mC,Ce,eqGuard,binOp,Op.intCmp,oY]
  |2=>simp[mC,Ce,eqGuard,binOp,Op.intCmp,oY]
  |3=>simp[mC,Ce,eqGuard,binOp,Op.intCmp,oY]
  |4=>simp[mC,Ce,eqGuard,binOp,Op.intCmp,oY,pn]
  |o+5=>simp[mC,Ce,eqGuard,binOp,Op.intCmp,oY,bne,pn]
 ·exact YC h1 h2 g t p q
theorem Xs (l m:List UInt8):(⟨l.toArray⟩:ByteArray)++⟨m.toArray⟩=⟨(l++m).toArray⟩:=by
 apply ByteArray.ext
 simp
noncomputable def Qp (u v:AV) (K:AV→Bool):Bool:=bn (FS u v) (Ew u fun l=>Ew v fun m=>ac (au (l.length+m.length≤9223372036854775807)) (K (.sy (.str (l++m))))) (Wz u v K)
theorem US {v1 v2:AV} {K:AV→Bool} {x y:Value} (h1:den E ρ v1=some x) (h2:den E ρ v2=some y) (h:Qp v1 v2 K=true) (t:TypeId) (p q:Operand):
  ∃v z,den E ρ v=some z∧K v=true∧∀w,((do eqGuard .add t p q x y;binOp .add t x y):Sem Value).run P w= .ok z w:=by
 rcases bh h with⟨_,g⟩|⟨_,g⟩
 ·obtain⟨l,rfl,g1⟩:=qm h1 g
  obtain⟨m,rfl,g2⟩:=qm h2 g1
  obtain⟨hb,g⟩:=aa g2
  refine⟨_,_,rfl,g,fun w=> ?_⟩
  have e1:ByteArray.size ⟨l.toArray⟩=l.length:=by simp[ByteArray.size]
  have e2:ByteArray.size ⟨m.toArray⟩=m.length:=by simp[ByteArray.size]
  simp[eqGuard,binOp,Op.stringOp,e1,e2,Xs]
  omega
 ·exact UT h1 h2 g t p q
noncomputable def UP (ne:Bool) (u v:AV) (K:AV→Bool):Bool:=bn (FS u v) (Ew u fun l=>Ew v fun m=>Bool.rec (K (.sy (.bool (l=m)))) (K (.sy (.bool (¬l=m)))) ne) (aaD ne u v K)
theorem Xz {ne:Bool} {v1 v2:AV} {K:AV→Bool} {x y:Value} (h1:den E ρ v1=some x) (h2:den E ρ v2=some y) (h:UP ne v1 v2 K=true) (t:TypeId) (p q:Operand):
  ∃v z,den E ρ v=some z∧K v=true∧∀w,((do eqGuard (bif ne then .neq else .eql) t p q x y;binOp (bif ne then .neq else .eql) t x y):Sem Value).run P w= .ok z w:=by
 rcases bh h with⟨_,g⟩|⟨_,g⟩
 ·obtain⟨l,rfl,g1⟩:=qm h1 g
  obtain⟨m,rfl,g2⟩:=qm h2 g1
  cases ne
  ·refine⟨.sy (.bool (l=m)),_,rfl,g2,fun w=> ?_⟩
   simp only[cond_false,eqGuard,binOp,Op.stringOp,oW,acQ,Sem.run_pure,acP,oY]
   by_cases h:l=m<;>simp[h]
  ·refine⟨.sy (.bool (¬l=m)),_,rfl,g2,fun w=> ?_⟩
   simp only[cond_true,eqGuard,binOp,Op.stringOp,oW,acQ,Sem.run_pure,acP,oY]
   by_cases h:l=m<;>simp[h]
 ·exact XA h1 h2 g t p q
noncomputable def aaY (u:AV) (K:AV→Bool):Bool:=bn (fp u) (Wn u fun p=>K (.sy (.bool (¬p)))) (aaZ u K)
theorem XM {v:AV} {K:AV→Bool} {x:Value} (h1:den E ρ v=some x) (h:aaY v K=true):∃u z,den E ρ u=some z∧K u=true∧∀w,(Op.unary .not x).run P w= .ok z w:=by
 rcases bh h with⟨_,g⟩|⟨_,g⟩
 ·obtain⟨p,rfl,g⟩:=PJ h1 g
  refine⟨_,_,rfl,g,fun w=> ?_⟩
  have:au (¬p)= !au p:=by
   by_cases hp:p
   ·rw[prB_true.2 hp,prB_false.2 (fun q=>q hp)];rfl
   ·rw[prB_false.2 hp,prB_true.2 hp];rfl
  simp[Op.unary,this]
 ·exact XN h1 g
noncomputable def aa0 (u:AV) (K:AV→Bool):Bool:=bn (fp u) (qk u fun k z=>uy k (-z) K) (aa1 u K)
theorem XQ {v:AV} {K:AV→Bool} {x:Value} (h1:den E ρ v=some x) (h:aa0 v K=true):∃u z,den E ρ u=some z∧K u=true∧∀w,(Op.unary .neg x).run P w= .ok z w:=by
 rcases bh h with⟨_,g⟩|⟨_,g⟩
 ·obtain⟨k,z,rfl,g⟩:=ln h1 g
  obtain⟨g1,g2,g3⟩:=tQ (E:=E) (ρ:=ρ) g
  exact⟨_,_,g3,g2,fun w=>by simp[Op.unary,Op.intArith,g1]⟩
 ·exact XR h1 g
noncomputable def abJ (k:Nat) (u:AV) (K:AV→Bool):Bool:=bn (fp u) (qk u fun _ z=>uy k z K) (abK k u K)
theorem Yz {k:Nat} {v:AV} {K:AV→Bool} {x:Value} (h1:den E ρ v=some x) (h:abJ k v K=true) {src dst:TypeId} (hs:(P.underlying src).isSome=true) (hd:P.underlying dst=some (.int (dc k))):
  ∃u z,den E ρ u=some z∧K u=true∧∀w,(convert src dst x).run P w= .ok z w:=by
 rcases bh h with⟨_,g⟩|⟨_,g⟩
 ·obtain⟨k0,z,rfl,g⟩:=ln h1 g
  obtain⟨g1,g2,g3⟩:=tQ (E:=E) (ρ:=ρ) g
  obtain⟨d,hs⟩:=Option.isSome_iff_exists.1 hs
  exact⟨_,_,g3,g2,fun w=>by simp[convert,run_underlying hs,run_underlying hd,Conv.intToInt,g1]⟩
 ·exact YA h1 g hs hd
noncomputable def Wx (u:AV) (K:AV→Bool):Bool:=bn (fp u) (Ew u fun l=>K (.sy (.int 0 (l.length:Int)))) (Wy u K)
theorem UN {v:AV} {K:AV→Bool} {x:Value} {t ty:TypeId} (ht:P.underlying t=some .string) (hv:den E ρ v=some x) (hk:Wx v K=true):∃u z,den E ρ u=some z∧K u=true∧∀(cs:Array Bool) w,(builtin .len #[t] ty cs #[x]).run P w= .ok (.value z) w:=by
 rcases bh hk with⟨_,g⟩|⟨_,g⟩
 ·obtain⟨l,rfl,g⟩:=qm hv g
  refine⟨_,_,rfl,g,fun cs w=> ?_⟩
  have e:ByteArray.size ⟨l.toArray⟩=l.length:=by simp[ByteArray.size]
  simp[builtin,Builtin.len_,goInt,run_underlying ht,dc,e]
 ·exact UO ht hv g
noncomputable def mxY (mx:Bool) (u v:AV) (K:AV→Bool):Bool:=bn (FS u v) (qk u fun k a=>qk v fun k2 b=>ac (Nat.beq k k2) (Bool.rec (K (.sy (.int k (min a b)))) (K (.sy (.int k (max a b)))) mx)) (mxX mx u v K)
theorem aa6 {mx:Bool} {v1 v2:AV} {K:AV→Bool} {x y:Value} {ta:Array TypeId} {ty:TypeId} (h1:den E ρ v1=some x) (h2:den E ρ v2=some y) (hk:mxY mx v1 v2 K=true):
  ∃u z,den E ρ u=some z∧K u=true∧∀(cs:Array Bool) w,(builtin (bif mx then .max else .min) ta ty cs #[x,y]).run P w= .ok (.value z) w:=by
 rcases bh hk with⟨_,g⟩|⟨_,g⟩
 ·obtain⟨k,m,n,rfl,rfl,g⟩:=qC (f:=fun k a b=>Bool.rec (K (.sy (.int k (min a b)))) (K (.sy (.int k (max a b)))) mx) h1 h2 g
  cases mx
  ·refine⟨.sy (.int k (min m n)),_,rfl,g,fun cs w=> ?_⟩
   have e:(if n<m then n else m)=min m n:=by simp only[Int.min_def];split<;>split<;>omega
   simp[builtin,Builtin.min_,Builtin.min2,e]
  ·refine⟨.sy (.int k (max m n)),_,rfl,g,fun cs w=> ?_⟩
   have e:(if n > m then n else m)=max m n:=by simp only[Int.max_def];split<;>split<;>omega
   simp[builtin,Builtin.max_,Builtin.max2,e]
 ·exact aa7 h1 h2 g
noncomputable def aaA (u v:AV) (K:AV→Bool):Bool:=bn (FS u v) (Ew u fun l=>qk v fun _ z=>ac (au (0≤z∧z<(l.length:Int))) (K (.sy (.int 1 ((l.getD z.toNat 0).toNat:Int))))) (aaB u v K)
theorem Xx {v iv:AV} {K:AV→Bool} {x y:Value} {t:TypeId} (ht:P.underlying t=some .string) (hv:den E ρ v=some x) (hi:den E ρ iv=some y) (hk:aaA v iv K=true):∃u z,den E ρ u=some z∧K u=true∧∀w,(Instr.index t x y).run P w= .ok z w:=by
 rcases bh hk with⟨_,g⟩|⟨_,g⟩
 ·obtain⟨l,rfl,g1⟩:=qm hv g
  obtain⟨kd,z,rfl,g2⟩:=ln hi g1
  obtain⟨⟨z0,zl⟩,g⟩:=aa g2
  obtain⟨n,rfl⟩:=Int.eq_ofNat_of_zero_le z0
  have hlt:n<l.length:=by omega
  refine⟨_,_,rfl,g,fun w=> ?_⟩
  have h1:ByteArray.size ⟨l.toArray⟩=l.length:=by simp[ByteArray.size]
  simp[Instr.index,run_underlying ht,asIntOf,h1,hlt,dc]
  rfl
 ·exact Xy ht hv hi g
end
section
variable {P:Program} {E:Env} {ρ:Ren} {G:GS} {F:List aH} {M:T} {nx:Nat} {w:World}
noncomputable def Wt (v:AV) (K:PL→Bool):Bool:=AV.casesOn v false (fun k z=>K (.int k z)) (fun b=>K (.bool b)) (fun l=>K (.str l)) (fun _ _=>false) (fun _ _ _ _=>false) (fun _=>false) (K .nilP) (K .nilS) (K .nilM) (K .nilF) (K .nilI) (fun _ _=>false) (fun _ _=>false) (fun _=>false) (fun _=>false) (fun _=>false) (fun _=>false)
 fun s=>SY.casesOn s (fun k z=>K (.sint k z)) (fun p=>K (.sbool p)) (fun l=>K (.sstr l)) (fun h sz α l enc=>K (.imm h sz α l enc)) (fun _ _ _=>false) (fun _ _=>false) (fun _ _ _ _=>false) (fun _ _ _ _=>false) (fun _ _ _=>false) (fun _=>false)
theorem Sv {v:AV} {x:Value} {K:PL→Bool} (hd:den E ρ v=some x) (h:Wt v K=true):∃p,OkP E.M p∧x=bR p∧K p=true:=by
 cases v<;>first|(cases h;done)|skip
 case int k z=>cases hd;exact⟨.int k z,.int k z,rfl,h⟩
 case bool b=>cases hd;exact⟨.bool b,.bool b,rfl,h⟩
 case str l=>cases hd;exact⟨.str l,.str l,rfl,h⟩
 case nilP=>cases hd;exact⟨.nilP,.nilP,rfl,h⟩
 case nilS=>cases hd;exact⟨.nilS,.nilS,rfl,h⟩
 case nilM=>cases hd;exact⟨.nilM,.nilM,rfl,h⟩
 case nilF=>cases hd;exact⟨.nilF,.nilF,rfl,h⟩
 case nilI=>cases hd;exact⟨.nilI,.nilI,rfl,h⟩
 case sy s=>
  cases s<;>first|(cases h;done)|skip
  case int k z=>cases hd;exact⟨.sint k z,.sint k z,rfl,h⟩
  case bool p=>cases hd;exact⟨.sbool p,.sbool p,rfl,h⟩
  case str l=>cases hd;exact⟨.sstr l,.sstr l,rfl,h⟩
  case imm hh sz α l enc=>
   obtain⟨h1,h2⟩:=iu (show iR E (.imm hh sz α l enc)=some x from hd)
   exact⟨_,h1,h2,h⟩
noncomputable def Qe (vs:List AV):(List PL→Bool)→Bool:=List.rec (fun K=>K []) (fun v _ ih K=>Wt v fun p=>ih fun ps=>K (p::ps)) vs
theorem HV:∀{vs:List AV} {xs:List Value} {K:List PL→Bool},aR E ρ vs=some xs→Qe vs K=true→∃ps,(∀p∈ps,OkP E.M p)∧xs=ps.map bR∧K ps=true∧ps.length=vs.length
 |[],xs,K,hd,h=>by
  simp[aR]at hd
  subst hd
  exact⟨[],by simp,rfl,h,rfl⟩
 |v::vs,xs,K,hd,h=>by
  obtain⟨x,ys,h1,h2,rfl⟩:=bu hd
  obtain⟨p,p1,rfl,p2⟩:=Sv (K:=fun p=>Qe vs fun ps=>K (p::ps)) h1 h
  obtain⟨ps,q1,rfl,q2,q3⟩:=HV h2 p2
  exact⟨p::ps,fun q hq=>by
   rcases List.mem_cons.1 hq with rfl|hq
   ·exact p1
   ·exact q1 q hq,rfl,q2,by simp[q3]⟩
theorem Ez {p:PL} {M:pp} (h:OkP M p):Value.oneCell' (bR p)=true:=by
 cases h with
 |imm ao cap hh=>subst hh;rfl
 |_=>rfl
theorem zr {M:pp} {h:Value} {sz:Nat} {α:Type} {l:List α} {enc:α→List PL} (hp:OkP M (.imm h sz α l enc)):∃ao cap,h= .slice ao l.length cap∧l.length≤cap∧cap≤maxLen∧0<sz∧
  (0<l.length→ao=some ⟨blk ao,lI ao,none⟩)∧(∀x∈l,(enc x).length=sz)∧(∀x∈l,∀p∈enc x,OkP M p)∧(∀i x,l[i]?=some x→MRow M (blk ao) (lI ao+i*sz) ((enc x).map bR)):=by
 cases hp with
 |imm ao cap hh h1 h2 h3 ha hl ho hr=>exact⟨ao,cap,hh,h1,h2,h3,ha,hl,ho,hr⟩
theorem fd {e:eH} {n:Nat} {x:Value} (h:oI e n=some x):(e.cap=0∧n=0∧x= .slice none 0 0)∨∃c,e.cap=c+1∧x= .slice (some ⟨e.b,0,none⟩) n c:=by
 unfold oI at h
 split at h
 ·rename_i hc
  split at h
  ·rename_i hn;cases h;exact .inl ⟨hc,hn,rfl⟩
  ·cases h
 ·rename_i c hc;cases h;exact .inr ⟨c,hc,rfl⟩
theorem sC {e:eH} {n m:Nat} {x:Value} (h:IB e n m=some x):(e.cap=0∧n=0∧m=0∧x= .slice none 0 0)∨∃c,e.cap=c+1∧x= .slice (some ⟨e.b,0,none⟩) n m:=by
 unfold IB at h
 split at h
 ·rename_i hc
  split at h
  ·rename_i hn;cases h;exact .inl ⟨hc,hn.1,hn.2,rfl⟩
  ·cases h
 ·rename_i c hc;cases h;exact .inr ⟨c,hc,rfl⟩
theorem wo {e:eH} {sz a n:Nat} {x:Value} (h:IA e sz a n=some x):(e.cap=0∧n=0∧a=0∧x= .slice none 0 0)∨∃c,e.cap=c+1∧x= .slice (some ⟨e.b,if c=a then 0 else a*sz,none⟩) n (c - a)∧a+n≤c:=by
 unfold IA at h
 split at h
 ·rename_i hc
  split at h
  ·rename_i hn;cases h;exact .inl ⟨hc,hn.1,hn.2,rfl⟩
  ·cases h
 ·rename_i c hc
  split at h
  ·rename_i hn;cases h;exact .inr ⟨c,hc,rfl,hn⟩
  ·cases h
theorem yG {t ty e:TypeId} (ht:P.underlying t=some (.slice e)) (ao:Option Addr) (n c:Nat) (cs:Array Bool) (w:World):(builtin .len #[t] ty cs #[.slice ao n c]).run P w= .ok (.value (.int .i64 n)) w:=by
 simp[builtin,Builtin.len_,goInt,run_underlying ht]
noncomputable def acj (u:AV) (K:AV→Bool):Bool:=oJ u fun s=>SY.casesOn s (fun _ _=>false) (fun _=>false) (fun _=>false) (fun _ _ _ l _=>K (.sy (.int 0 (l.length:Int)))) (fun _ _ _=>false) (fun _ n=>K (.sy (.int 0 (n:Int)))) (fun _ _ _ n=>K (.sy (.int 0 (n:Int)))) (fun _ _ _ _=>false) (fun _ n _=>K (.sy (.int 0 (n:Int)))) (fun _=>false)
noncomputable def abf (u:AV) (K:AV→Bool):Bool:=bn (fp u) (acj u K) (abg u K)
theorem Yd {v:AV} {K:AV→Bool} {x:Value} {t ty e:TypeId} (ht:P.underlying t=some (.slice e)) (hv:den E ρ v=some x) (hk:abf v K=true):∃u z,den E ρ u=some z∧K u=true∧∀(cs:Array Bool) w,(builtin .len #[t] ty cs #[x]).run P w= .ok (.value z) w:=by
 rcases bh hk with⟨-,g⟩|⟨-,g⟩
 ·replace g:=gN g
  obtain⟨s,rfl,g⟩:=g
  cases s<;>first|(cases g;done)|skip
  case imm h sz α l enc=>
   obtain⟨h1,rfl⟩:=iu (show iR E (.imm h sz α l enc)=some x from hv)
   obtain⟨ao,cap,rfl,_⟩:=zr h1
   exact⟨_,.int .i64 (l.length:Int),rfl,g,fun cs w=>yG ht _ _ _ cs w⟩
  case prow i n=>
   refine⟨.sy (.int 0 (n:Int)),.int .i64 (n:Int),rfl,g,fun cs w=> ?_⟩
   simp only[den,bz]at hv
   split at hv
   ·rcases fd hv with⟨_,rfl,rfl⟩|⟨c,_,rfl⟩<;>rw[yG ht]
   ·cases hv
  case psub i sz a n=>
   refine⟨.sy (.int 0 (n:Int)),.int .i64 (n:Int),rfl,g,fun cs w=> ?_⟩
   simp only[den,bz]at hv
   split at hv
   ·rcases wo hv with⟨_,rfl,rfl,rfl⟩|⟨c,_,rfl,_⟩<;>rw[yG ht]
   ·cases hv
  case pfix i n c=>
   refine⟨.sy (.int 0 (n:Int)),.int .i64 (n:Int),rfl,g,fun cs w=> ?_⟩
   simp only[den,bz]at hv
   split at hv
   ·rcases sC hv with⟨_,rfl,rfl,rfl⟩|⟨c,_,rfl⟩<;>rw[yG ht]
   ·cases hv
 ·exact Ye ht hv g
noncomputable def faS (off:Nat) (v:AV) (K:AV→Bool):Bool:=oJ v fun s=>SY.casesOn s (fun _ _=>false) (fun _=>false) (fun _=>false) (fun _ _ _ _ _=>false) (fun b o cs=>K (.sy (.pim b (o+off) (AT cs off)))) (fun _ _=>false) (fun _ _ _ _=>false) (fun i sz q o=>K (.sy (.rptr i sz q (o+off)))) (fun _ _ _=>false) (fun _=>false)
noncomputable def faY (off:Nat) (v:AV) (K:AV→Bool):Bool:=bn (fp v) (faS off v K) (faX off v K)
theorem DQ {t i off b o:Nat} (h:jU P t i=some off) (w:World):(Instr.fieldAt t (.pointer (some ⟨b,o,none⟩)) i).run P w= .ok (.pointer (some ⟨b,o+off,none⟩)) w:=by
 have h':=h
 unfold jU at h'
 rcases ht:P.underlying t with _|d
 ·simp[ht]at h'
 rw[ht]at h'
 cases d<;>simp at h'
 rename_i fs
 rcases hf:fs[i]? with _|f
 ·simp[hf]at h'
 simp[Instr.fieldAt,Instr.sureAddr,run_underlying ht,hf,qF ht hf h]
theorem Vc {b o:Nat} {cs:List PL} (off:Nat) (h:(∀p∈cs,OkP E.M p)∧MRow E.M b o (cs.map bR)):(∀p∈cs.drop off,OkP E.M p)∧MRow E.M b (o+off) ((cs.drop off).map bR):=
 ⟨fun p hp=>h.1 p (List.mem_of_mem_drop hp),fun j v hv=>by
  have:=h.2 (off+j) v (by rw[List.map_drop,List.getElem?_drop]at hv;exact hv)
  rwa[←Nat.add_assoc]at this⟩
theorem FE {b o:Nat} {cs:List PL} {x:Value} (h:bz E ρ (.pim b o cs)=some x):((∀p∈cs,OkP E.M p)∧MRow E.M b o (cs.map bR))∧x= .pointer (some ⟨b,o,none⟩):=by
 simp only[bz]at h
 split at h
 ·exact⟨‹_›,(ac1 h).symm⟩
 ·cases h
theorem En {b o:Nat} {cs:List PL} (h:(∀p∈cs,OkP E.M p)∧MRow E.M b o (cs.map bR)):bz E ρ (.pim b o cs)=some (.pointer (some ⟨b,o,none⟩)):=by
 simp only[bz];rw[if_pos h]
theorem wv {i sz q o:Nat} {x:Value} (h:bz E ρ (.rptr i sz q o)=some x):∃e,ρ i=some e∧x= .pointer (some ⟨e.b,q*sz+o,none⟩):=by
 simp only[bz]at h
 split at h
 ·rename_i e he;exact⟨e,he,(ac1 h).symm⟩
 ·cases h
theorem abu {off:Nat} {v:AV} {K:AV→Bool} {x:Value} {t i:Nat} (h:jU P t i=some off) (hv:den E ρ v=some x) (hk:faY off v K=true):∃u z,den E ρ u=some z∧K u=true∧∀w,(Instr.fieldAt t x i).run P w= .ok z w:=by
 rcases bh hk with⟨-,g⟩|⟨-,g⟩
 ·replace g:=gN g
  obtain⟨s,rfl,g⟩:=g
  cases s<;>first|(cases g;done)|skip
  case pim b o cs=>
   obtain⟨h1,rfl⟩:=FE (show bz E ρ (.pim b o cs)=some x from hv)
   replace g:K (.sy (.pim b (o+off) (AT cs off)))=true:=g
   rw[uX]at g
   exact⟨_,_,show den E ρ (.sy (.pim b (o+off) (cs.drop off)))=_ from En (Vc off h1),g,fun w=>DQ h w⟩
  case rptr j sz q o=>
   obtain⟨e,he,rfl⟩:=wv (show bz E ρ (.rptr j sz q o)=some x from hv)
   exact⟨_,.pointer (some ⟨e.b,q*sz+(o+off),none⟩),by simp only[den,bz,he],g,fun w=>by rw[DQ h,Nat.add_assoc]⟩
 ·exact abv h hv g
noncomputable def aci (v:AV) (K:AV→Bool):Bool:=oJ v fun s=>SY.casesOn s (fun _ _=>false) (fun _=>false) (fun _=>false) (fun _ _ _ _ _=>false) (fun _ _ _=>K v) (fun _ _=>false) (fun _ _ _ _=>false) (fun _ _ _ _=>K v) (fun _ _ _=>false) (fun _=>false)
noncomputable def aa2 (v:AV) (K:AV→Bool):Bool:=bn (fp v) (aci v K) (aa3 v K)
theorem XS {v:AV} {K:AV→Bool} {x:Value} (hv:den E ρ v=some x) (hk:aa2 v K=true) {a:Act} {o:Operand} (ha:a.eval o=x) {dst:Option Tmp} {ty:TypeId} {pos:String} {af:Array Edge} {g:Option (Nat×Bool)}:
  K v=true∧∀w,(execOp a.eval ⟨dst,.nilCheck o,ty,pos,af,g⟩).run P w= .ok (.value x) w:=by
 rcases bh hk with⟨-,k⟩|⟨-,k⟩
 ·replace k:=gN k
  obtain⟨s,rfl,k⟩:=k
  cases s<;>first|(cases k;done)|skip
  case pim b o cs=>
   obtain⟨h1,rfl⟩:=FE (show bz E ρ (.pim b o cs)=some x from hv)
   exact⟨k,fun w=>by simp[execOp,ha]⟩
  case rptr j sz q o=>
   obtain⟨e,he,rfl⟩:=wv (show bz E ρ (.rptr j sz q o)=some x from hv)
   exact⟨k,fun w=>by simp[execOp,ha]⟩
 ·exact XT hv k ha
noncomputable def BQ (n:Nat) (z:Int) (K:Nat→Bool):Nat→Bool:=Nat.rec (fun _=>ac (au False) true) (fun _ ih k=>bn (au (z=Int.ofNat k)) (K k) (ih (Nat.succ k))) n
theorem yd {z:Int} {K:Nat→Bool}:∀{n k:Nat},BQ n z K k=true→∃j:Nat,z=(j:Int)∧j<k+n∧K j=true
 |0,k,h=>absurd (aa (show ac (au False) true=true from h)).1 id
 |n+1,k,h=>by
  have h':bn (au (z=Int.ofNat k)) (K k) (BQ n z K (Nat.succ k))=true:=h
  rcases lj h' with⟨q,g⟩|⟨_,g⟩
  ·exact⟨k,q,by omega,g⟩
  ·obtain⟨j,h1,h2,h3⟩:=yd g
   exact⟨j,h1,by omega,h3⟩
noncomputable def acm (n sz:Nat) (v iv:AV) (K:AV→Bool):Bool:=qo v fun i o=>qk iv fun _ z=>BQ n z (fun k=>fN (Nat.add o (Nat.mul k sz)) fun o=>K (.ptr i o)) 0
noncomputable def abm (n sz:Nat) (v iv:AV) (K:AV→Bool):Bool:=bn (fp iv) (acm n sz v iv K) (abn n sz v iv K)
theorem Ym {n sz:Nat} {v iv:AV} {K:AV→Bool} {x y:Value} {t e:TypeId} (ht:P.underlying t=some (.array n e)) (hs:cj P e=some sz) (hv:den E ρ v=some x) (hi:den E ρ iv=some y) (hk:abm n sz v iv K=true):
  ∃u z,den E ρ u=some z∧K u=true∧∀w,(Instr.indexAt t x y).run P w= .ok z w:=by
 rcases bh hk with⟨-,g⟩|⟨-,g⟩
 ·obtain⟨j,o,rfl,k1⟩:=jI g
  obtain⟨kd,z,rfl,k2⟩:=ln hi k1
  obtain⟨q,rfl,hq,k3⟩:=yd k2
  rw[ck]at k3
  simp only[den]at hv
  split at hv
  ·rename_i f hf
   cases hv
   have hq:q<n:=by omega
   refine⟨_,.pointer (some ⟨f.b,o+q*sz,none⟩),by simp only[den,hf];rfl,k3,fun w=> ?_⟩
   simp[Instr.indexAt,Instr.sureAddr,asIntOf,run_underlying ht,Go.Eng.run_sizeOf hs,hq,cZ]
  ·cases hv
 ·exact Yn ht hs hv hi g
def abQ:Value→Nat
 |.slice ao _ _=>blk ao
 |_=>0
def aaU:Value→Nat
 |.slice ao _ _=>lI ao
 |_=>0
noncomputable def ack (sz:Nat) (v iv:AV) (K:AV→Bool):Bool:=qk iv fun _ z=>oJ v fun s=>SY.casesOn s (fun _ _=>false) (fun _=>false) (fun _=>false)
 (fun h sz' _ l enc=>ac (Nat.beq sz sz') (ac (au (0≤z∧z<(l.length:Int))) (aA fun x=>bn (au (l[z.toNat]?=some x)) (K (.sy (.pim (abQ h) (aaU h+z.toNat*sz) (enc x)))) true)))
 (fun _ _ _=>false) (fun i n=>ac (au (0≤z∧z<(n:Int))) (K (.sy (.rptr i sz z.toNat 0)))) (fun i sz' a n=>ac (Nat.beq sz sz') (ac (au (0≤z∧z<(n:Int))) (K (.sy (.rptr i sz (a+z.toNat) 0))))) (fun _ _ _ _=>false)
 (fun i n _=>ac (au (0≤z∧z<(n:Int))) (K (.sy (.rptr i sz z.toNat 0)))) (fun _=>false)
noncomputable def acl (sz:Nat) (v iv:AV) (K:AV→Bool):Bool:=xw v false fun i o n _=>qk iv fun _ z=>BQ n z (fun k=>fN (Nat.add o (Nat.mul k sz)) fun o=>K (.ptr i o)) 0
noncomputable def abk (sz:Nat) (v iv:AV) (K:AV→Bool):Bool:=bn (fp v) (ack sz v iv K) (bn (fp iv) (acl sz v iv K) (abl sz v iv K))
theorem pF {t e sz n c i:Nat} {k:IntKind} {b o:Nat} (ht:P.underlying t=some (.slice e)) (hs:cj P e=some sz) (hi:i<n) (w:World):(Instr.indexAt t (.slice (some ⟨b,o,none⟩) n c) (.int k (i:Int))).run P w= .ok (.pointer (some ⟨b,o+i*sz,none⟩)) w:=by
 simp[Instr.indexAt,asIntOf,run_underlying ht,Go.Eng.run_sizeOf hs,hi,cZ]
theorem Yk {sz:Nat} {v iv:AV} {K:AV→Bool} {x y:Value} {t e:TypeId} (ht:P.underlying t=some (.slice e)) (hs:cj P e=some sz) (hv:den E ρ v=some x) (hi:den E ρ iv=some y) (hk:abk sz v iv K=true):
  ∃u z,den E ρ u=some z∧K u=true∧∀w,(Instr.indexAt t x y).run P w= .ok z w:=by
 rcases bh hk with⟨-,g⟩|⟨-,g⟩
 ·replace g:=ln hi g
  obtain⟨kd,z,rfl,g⟩:=g
  replace g:=gN g
  obtain⟨s,rfl,g⟩:=g
  cases s<;>first|(cases g;done)|skip
  case imm h sz' α l enc=>
   obtain⟨g1,g2⟩:=aw g
   have g1:=acG g1
   subst g1
   obtain⟨⟨z0,zl⟩,g3⟩:=aa g2
   obtain⟨n,rfl⟩:=Int.eq_ofNat_of_zero_le z0
   have hlt:n<l.length:=by omega
   obtain⟨h1,rfl⟩:=iu (show iR E (.imm h sz α l enc)=some x from hv)
   obtain⟨ao,cap,rfl,c1,c2,c3,ha,hl,ho,hr⟩:=zr h1
   ·
    have g4:=aF g3 l[n]
    rcases lj g4 with⟨q,g5⟩|⟨q,_⟩
    ·have hx:l[n]?=some l[n]:=List.getElem?_eq_getElem hlt
     have hao:=ha (by omega)
     refine⟨.sy (.pim _ _ _),_,En (ρ:=ρ) ⟨ho _ (List.getElem_mem hlt),?_⟩,g5,fun w=> ?_⟩
     ·simpa[abQ,aaU] using hr n _ hx
     ·show(Instr.indexAt t (.slice ao l.length cap) (.int (dc kd) (n:Int))).run P w=_
      rw[hao,pF ht hs hlt]
      rfl
    ·exact absurd (by simp[hlt]) q
  case prow i n=>
   obtain⟨⟨z0,zl⟩,g3⟩:=aa g
   obtain⟨m,rfl⟩:=Int.eq_ofNat_of_zero_le z0
   have hlt:m<n:=by omega
   simp only[den,bz]at hv
   split at hv
   case h_2=>cases hv
   rename_i f hf
   rcases fd hv with⟨_,q,rfl⟩|⟨c,_,rfl⟩
   ·omega
   ·exact⟨_,.pointer (some ⟨f.b,m*sz+0,none⟩),by simp only[den,bz,hf];rfl,g3,fun w=>by rw[pF ht hs hlt,Nat.zero_add,Nat.add_zero]⟩
  case psub i sz' a n=>
   obtain⟨g1,g2⟩:=aw g
   have g1:=acG g1
   subst g1
   obtain⟨⟨z0,zl⟩,g3⟩:=aa g2
   obtain⟨m,rfl⟩:=Int.eq_ofNat_of_zero_le z0
   have hlt:m<n:=by omega
   simp only[den,bz]at hv
   split at hv
   case h_2=>cases hv
   rename_i f hf
   rcases wo hv with⟨_,q,_,rfl⟩|⟨c,_,rfl,hc⟩
   ·omega
   ·have hne:¬c=a:=by omega
    rw[if_neg hne]
    refine⟨_,.pointer (some ⟨f.b,(a+m)*sz+0,none⟩),by simp only[den,bz,hf];rfl,g3,fun w=> ?_⟩
    rw[pF ht hs hlt,Nat.add_mul,Nat.add_zero]
  case pfix i n cc=>
   obtain⟨⟨z0,zl⟩,g3⟩:=aa g
   obtain⟨m,rfl⟩:=Int.eq_ofNat_of_zero_le z0
   have hlt:m<n:=by omega
   simp only[den,bz]at hv
   split at hv
   case h_2=>cases hv
   rename_i f hf
   rcases sC hv with⟨_,q,_,rfl⟩|⟨c,_,rfl⟩
   ·omega
   ·exact⟨_,.pointer (some ⟨f.b,m*sz+0,none⟩),by simp only[den,bz,hf];rfl,g3,fun w=>by rw[pF ht hs hlt,Nat.zero_add,Nat.add_zero]⟩
 ·rcases bh g with⟨-,g⟩|⟨-,g⟩
  ·rcases nz g with⟨_,k1⟩|⟨j,o,n,c,rfl,k1⟩
   ·cases k1
   obtain⟨kd,z,rfl,k2⟩:=ln hi k1
   obtain⟨q,rfl,hq,k3⟩:=yd k2
   rw[ck]at k3
   simp only[den]at hv
   split at hv
   ·rename_i f hf
    cases hv
    have hq:q<n:=by omega
    exact⟨_,.pointer (some ⟨f.b,o+q*sz,none⟩),by simp only[den,hf];rfl,k3,fun w=>pF ht hs hq w⟩
   ·cases hv
  ·exact Yl ht hs hv hi g
end
section
variable {P:Program} {E:Env} {ρ:Ren} {G:GS} {F:List aH} {M:T} {nx:Nat} {w:World}
noncomputable def Qy (agg:Bool) (n:Nat) (cs:List PL) (o:Nat) (K:AV→Bool):Bool:=bn agg (DO (AT cs o) n fun l=>K (.agg (tb l))) (dJ (fF cs o) fun p=>K (DM p))
theorem Lv {agg:Bool} {n:Nat} {cs:List PL} {o b base:Nat} {K:AV→Bool} {t:TypeId} (hk:Qy agg n cs o K=true) (hp:∀p∈cs,OkP E.M p) (hc:∀j v,(cs.map bR)[j]?=some v→w.cell? ⟨b,base+j,none⟩=some v)
  (hag:ia P t=some agg) (hs:cj P t=some n):∃u z,den E ρ u=some z∧K u=true∧(Instr.loadAt t (.pointer (some ⟨b,base+o,none⟩))).run P w= .ok z w:=by
 rcases bh hk with⟨rfl,g⟩|⟨rfl,g⟩
 ·obtain⟨g1,hle⟩:=xz g
  rw[uX]at g1 hle
  have hl:∀p∈(cs.drop o).take n,OkP E.M p:=fun p q=>hp p (List.mem_of_mem_drop (List.mem_of_mem_take q))
  refine⟨.agg (tb ((cs.drop o).take n)),.agg (((cs.drop o).take n).map bR).toArray,by simp only[den,LL hl],g1,?_⟩
  have hlen:(((cs.drop o).take n).map bR).length=n:=by simp only[acE,acT];omega
  have:=Go.Eng.run_loadCells (P:=P) (w:=w) b (base+o) (((cs.drop o).take n).map bR) 0 #[] (fun j v hv=>by
   rw[Nat.zero_add,Nat.add_assoc]
   refine hc (o+j) v ?_
   rw[List.map_take,List.map_drop]at hv
   have hj:j<n:=by
    have:=(List.getElem?_eq_some_iff.1 hv).1
    rw[acT]at this;omega
   rw[acV hj,List.getElem?_drop]at hv
   exact hv)
  rw[hlen]at this
  simp[Instr.loadAt,Instr.sureAddr,loadVar,Go.Eng.run_isAgg hag,Go.Eng.run_sizeOf hs,loadCells,this]
 ·obtain⟨p,h1,g1⟩:=bO g
  rw[gB]at h1
  have hm:=acH h1
  have:=hc o (bR p) (by rw[acY,h1];rfl)
  exact⟨DM p,bR p,OL (hp p hm),g1,by simp[Instr.loadAt,Instr.sureAddr,loadVar,run_isAgg hag,load,Sem.run,this]⟩
noncomputable def nJ (M:T) (i:Nat) (K:Nat→Nat→(α:Type)→List α→(α→List PL)→Bool):Bool:=dJ (M.get i) fun ob=>AObj.casesOn ob (fun _ _ _ _=>false) (fun _ _=>false) (fun _ _ _ _=>false) false K (fun _ _ _ _ _ _ _=>false)
theorem jh {M:T} {i:Nat} {K:Nat→Nat→(α:Type)→List α→(α→List PL)→Bool} (h:nJ M i K=true):∃Ty sz α l enc,M.get i=some (.prow Ty sz α l enc)∧K Ty sz α l enc=true:=by
 obtain⟨ob,h1,h2⟩:=bO h
 cases ob<;>first|exact⟨_,_,_,_,_,h1,h2⟩|cases h2
theorem kp {e:eH} {c Ty sz:Nat} {α:Type} {l:List α} {enc:α→List PL} (h:e.cap=c+1):cG e (.prow Ty sz α l enc)=true:=by
 unfold cG;rw[h];rfl
structure RowAt (E:Env) (w:World) (e:eH) (Ty sz:Nat) (ps:List PL) (n c:Nat) (arr:Array Value):Prop where
 heap:w.heap[e.b]?=some (.cells arr Ty (0,0))
 ok:∀p∈ps,OkP E.M p
 len:ps.length=n*sz
 size:arr.size=c*sz
 take:arr.toList.take (n*sz)=ps.map bR
 le:n≤c
 max:c≤maxLen
theorem lw {α:Type} {enc:α→List PL} {sz:Nat}:∀{l:List α},(∀x∈l,(enc x).length=sz)→(l.flatMap enc).length=l.length*sz
 |[],_=>by simp
 |x::l,h=>by
  rw[List.flatMap_cons,acC,h x (by simp),lw fun y hy=>h y (by simp[hy]),List.length_cons,Nat.add_mul]
  omega
theorem Sim.prow (h:Sim E ρ G F M nx w) {i Ty sz:Nat} {α:Type} {l:List α} {enc:α→List PL} (hi:M.get i=some (.prow Ty sz α l enc)):
  ∃e,ρ i=some e∧0<sz∧((e.cap=0∧l=[])∨∃c arr,e.cap=c+1∧(∀x∈l,(enc x).length=sz)∧RowAt E w e Ty sz (l.flatMap enc) l.length c arr):=by
 obtain⟨e,h1,⟨q,ob,h2,arr,xs,rfl,h4,h5,h6,h7,h8,h9,h10⟩|⟨q,h3,h4⟩⟩:=h.objP hi
 ·have hc:e.cap≠0:=by
   intro hc
   simp[cG,hc]at q
  obtain⟨c,hc⟩:=Nat.exists_eq_succ_of_ne_zero hc
  obtain⟨p1,rfl⟩:=tE h6
  rw[hc]at h7 h9 h10
  exact⟨e,h1,h4,.inr ⟨c,arr,hc,h5,h2,p1,lw h5,by simpa using h7,h8,by simpa using h9,by simpa using h10⟩⟩
 ·refine⟨e,h1,h4,.inl ⟨?_,h3⟩⟩
  simp[cG]at q
  exact q
theorem RowAt.cell {e:eH} {Ty sz n c:Nat} {ps:List PL} {arr:Array Value} (r:RowAt E w e Ty sz ps n c arr) {j:Nat} {v:Value} (hv:(ps.map bR)[j]?=some v):w.cell? ⟨e.b,j,none⟩=some v:=by
 rw[←r.take]at hv
 have hlt:j<n*sz:=by
  have:=(List.getElem?_eq_some_iff.1 hv).1
  rw[acT]at this;omega
 rw[acV hlt]at hv
 simp only[World.cell?,r.heap]
 simpa using hv
theorem zY {α:Type} {enc:α→List PL} {sz:Nat} {l:List α} {q:Nat} {x:α} (hl:∀x∈l,(enc x).length=sz) (hx:l[q]?=some x) {j:Nat} {p:PL} (hp:(enc x)[j]?=some p):(l.flatMap enc)[q*sz+j]?=some p:=by
 have:=BR (els:=l.map enc) (sz:=sz) (q:=q) (r:=j) (el:=enc x) (v:=p) (fun e he=>by
  obtain⟨y,hy,rfl⟩:=List.mem_map.1 he
  exact hl y hy) (by rw[acY,hx];rfl) hp
 rwa[←List.flatMap_def]at this
noncomputable def ldS (agg:Bool) (n:Nat) (v:AV) (M:T) (K:AV→Bool):Bool:=oJ v fun s=>SY.casesOn s (fun _ _=>false) (fun _=>false) (fun _=>false) (fun _ _ _ _ _=>false) (fun _ _ cs=>Qy agg n cs 0 K) (fun _ _=>false) (fun _ _ _ _=>false)
 (fun i sz q o=>nJ M i fun _ sz' _ l enc=>ac (Nat.beq sz sz') (ac (au (q<l.length)) (aA fun x=>bn (au (l[q]?=some x)) (Qy agg n (enc x) o K) true))) (fun _ _ _=>false) (fun _=>false)
theorem abi (h:Sim E ρ G F M nx w) {agg:Bool} {n:Nat} {v:AV} {K:AV→Bool} {x:Value} (hv:den E ρ v=some x) (hk:ldS agg n v M K=true) {t:TypeId} (hag:ia P t=some agg) (hs:cj P t=some n):∃u z,den E ρ u=some z∧K u=true∧(Instr.loadAt t x).run P w= .ok z w:=by
 replace hk:=gN hk
 obtain⟨s,rfl,g⟩:=hk
 cases s<;>first|(cases g;done)|skip
 case pim b o cs=>
  obtain⟨⟨h1,h2⟩,rfl⟩:=FE (show bz E ρ (.pim b o cs)=some x from hv)
  exact Lv (b:=b) (base:=o) (o:=0) g h1 (fun j v hv=>h.cellM (h2 j v hv)) hag hs
 case rptr i sz q o=>
  obtain⟨e,he,rfl⟩:=wv (show bz E ρ (.rptr i sz q o)=some x from hv)
  obtain⟨Ty,sz',α,l,enc,hi,g1⟩:=jh g
  obtain⟨g2,g3⟩:=aw g1
  have g2:=acG g2
  subst g2
  obtain⟨hlt,g4⟩:=aa g3
  have hx:l[q]?=some l[q]:=List.getElem?_eq_getElem hlt
  obtain⟨e',q1,hsz,⟨_,q2⟩|⟨c,arr,q2,q3,r⟩⟩:=h.prow hi
  ·subst q2;simp at hlt
  rw[he]at q1;cases q1
  rcases lj (aF g4 l[q]) with⟨_,g5⟩|⟨q,_⟩
  ·exact Lv (b:=e.b) (base:=q*sz) (o:=o) g5 (fun p hp=>r.ok p (List.mem_flatMap.2 ⟨_,List.getElem_mem hlt,hp⟩)) (fun j v hv=>by
    rw[acY]at hv
    rcases hp:(enc l[q])[j]? with _|p
    ·rw[hp]at hv;cases hv
    ·rw[hp]at hv
     have:=r.cell (j:=q*sz+j) (v:=v) (by rw[acY,zY q3 hx hp];exact hv)
     exact this) hag hs
  ·exact absurd hx q
noncomputable def Pf (agg:Bool) (n:Nat) (v:AV) (M:T) (K:AV→Bool):Bool:=bn (fp v) (ldS agg n v M K) (bn agg (abh n v M K) (abj v M K))
theorem LP (h:Sim E ρ G F M nx w) {agg:Bool} {n:Nat} {v:AV} {K:AV→Bool} {x:Value} (hv:den E ρ v=some x) (hk:Pf agg n v M K=true) {t:TypeId} (hag:ia P t=some agg) (hs:cj P t=some n):∃u z,den E ρ u=some z∧K u=true∧(Instr.loadAt t x).run P w= .ok z w:=by
 rcases bh hk with⟨-,g⟩|⟨-,g⟩
 ·exact abi h hv g hag hs
 ·rcases bh g with⟨rfl,g⟩|⟨rfl,g⟩
  ·exact Yh h hv g hag hs
  ·exact Yi h hv g hag
noncomputable def stS (n:Nat) (v x:AV) (M:T) (K:T→Bool):Bool:=oJ v fun s=>SY.casesOn s (fun _ _=>false) (fun _=>false) (fun _=>false) (fun _ _ _ _ _=>false) (fun _ _ _=>false) (fun _ _=>false) (fun _ _ _ _=>false)
 (fun i sz q o=>nJ M i fun Ty sz' α l enc=>ac (Nat.beq sz sz') (ac (Nat.beq (eG (cB x)) n) (ac (au (q<l.length)) (Qe (cB x) fun ps=>aA fun y=>bn (au (l[q]?=some y)) (aI fun y'=>ac (au (o+ps.length≤sz∧enc y'=(enc y).take o++ps++(enc y).drop (o+ps.length)))
  (T.set cb M i (some (.prow Ty sz α (l.set q y') enc)) K)) true)))) (fun _ _ _=>false) (fun _=>false)
noncomputable def stY (n:Nat) (v x:AV) (M:T) (K:T→Bool):Bool:=bn (fp v) (stS n v x M K) (stX n v x M K)
theorem Oz {α:Type} {enc:α→List PL} {sz:Nat} {l:List α} {q o:Nat} {y y':α} {ps:List PL} (hl:∀x∈l,(enc x).length=sz) (hx:l[q]?=some y) (ho:o+ps.length≤sz) (he:enc y'=(enc y).take o++ps++(enc y).drop (o+ps.length)):
  (l.set q y').flatMap enc=(l.flatMap enc).take (q*sz+o)++ps++(l.flatMap enc).drop (q*sz+o+ps.length):=by
 have hmem:∀e∈l.map enc,e.length=sz:=fun e he=>by
  obtain⟨y,hy,rfl⟩:=List.mem_map.1 he
  exact hl y hy
 have hy:=hl y (acH hx)
 have:=MC (els:=l.map enc) (sz:=sz) (q:=q) (r:=o) (el:=enc y) (vs:=ps) hmem (by rw[acY,hx];rfl) (by omega)
 rw[List.flatMap_def,List.flatMap_def,←this,List.map_set]
 congr 1
 have hq:=(List.getElem?_eq_some_iff.1 hx).1
 rw[List.set_eq_take_append_cons_drop,if_pos (by simpa using hq),he]
 simp
theorem aav (hE:fM E) (h:Sim E ρ G F M nx w) {n:Nat} {v x:AV} {K:T→Bool} {p y:Value} (hv:den E ρ v=some p) (hx:den E ρ x=some y) (hk:stY n v x M K=true) {t:TypeId} (hs:cj P t=some n):
  ∃M' w',Sim E ρ G F M' nx w'∧K M'=true∧(Instr.storeAt t p y).run P w= .ok () w':=by
 rcases bh hk with⟨-,g⟩|⟨-,g⟩
 ·replace g:=gN g
  obtain⟨s,rfl,g⟩:=g
  cases s<;>first|(cases g;done)|skip
  case rptr i sz q o=>
   obtain⟨e,he,rfl⟩:=wv (show bz E ρ (.rptr i sz q o)=some p from hv)
   obtain⟨Ty,sz',α,l,enc,hi,g1⟩:=jh g
   obtain⟨g2,g3⟩:=aw g1
   have g2:=acG g2
   subst g2
   obtain⟨g4,g5⟩:=aw g3
   obtain⟨hlt,g6⟩:=aa g5
   have hcx:=qg hE hx
   have hcl:=cV hcx
   have hn':(cB x).length=n:=by rw[←cT];exact acG g4
   obtain⟨ps,p1,p2,g7,p3⟩:=HV hcx g6
   have hlx:l[q]?=some l[q]:=List.getElem?_eq_getElem hlt
   rcases lj (aF g7 l[q]) with⟨_,g8⟩|⟨q,_⟩
   case inr=>exact absurd hlx q
   obtain⟨y',g9⟩:=bL g8
   obtain⟨⟨ho,henc⟩,g10⟩:=aa g9
   obtain⟨M',hK,hg1,hg2⟩:=T.set_ok _ _ _ _ _ g10
   obtain⟨e',q1,hsz,⟨_,q2⟩|⟨c,arr,q2,q3,r⟩⟩:=h.prow hi
   ·subst q2;simp at hlt
   rw[he]at q1;cases q1
   have hlen:q*sz+o+y.cells.toList.length≤l.length*sz:=by
    rw[p2,acE]
    have:(q+1)*sz≤l.length*sz:=Nat.mul_le_mul_right _ (by omega)
    rw[Nat.add_mul,Nat.one_mul]at this
    omega
   have hle:l.length*sz≤arr.size:=by rw[r.size];exact Nat.mul_le_mul_right _ r.le
   obtain⟨w',hr,w1,w2,w3,w4,w5,w6⟩:=yF (P:=P) (q*sz+o) y.cells.toList 0 w arr r.heap (by omega) (by
    rw[p2,List.all_map]
    exact List.all_eq_true.2 fun u hu=>Ez (p1 u hu))
   rw[Nat.add_zero]at w1
   have hB:cG e (.prow Ty sz α l enc)=true:=kp q2
   have hsp:=rS y.cells.toList arr (q*sz+o) (by omega)
   have hfm:=Oz q3 hlx ho henc
   refine⟨M',w',h.turn (o':=.prow Ty sz α (l.set q y') enc) (ob':=.cells (eF arr (q*sz+o) y.cells.toList) Ty (0,0)) hi he w2 w3 w4 (fun b _ hb=>w6 b hb) w1 ⟨eF arr (q*sz+o) y.cells.toList,((l.set q y').flatMap enc).map bR,rfl,hsz,?_,uY ?_,?_,?_,?_,?_⟩ hg1 hg2 hB (kp q2),hK,?_⟩
   ·intro x hx
    rcases List.mem_or_eq_of_mem_set hx with hx|rfl
    ·exact q3 x hx
    ·rw[henc]
     have:=q3 _ (acH hlx)
     simp only[acC,acT,List.length_drop]
     omega
   ·intro p hp
    rw[hfm]at hp
    simp only[acS]at hp
    rcases hp with(hp|hp)|hp
    ·exact r.ok p (List.mem_of_mem_take hp)
    ·exact p1 p hp
    ·exact r.ok p (List.mem_of_mem_drop hp)
   ·rw[rq,r.size,q2];simp
   ·rw[List.length_set,hsp,hfm,acR,acR,List.map_take,List.map_drop,p2,acE]
    have hlen':q*sz+o+(ps.map bR).length≤l.length*sz:=by rw[←p2];exact hlen
    rw[acE]at hlen'
    have:=DN (arr:=arr.toList) (xs:=(l.flatMap enc).map bR) (ys:=ps.map bR) (o:=q*sz+o) (L:=l.length*sz) r.take (by rw[acE];exact hlen') (by rw[Array.length_toList];exact hle)
    rw[acE]at this
    exact this
   ·rw[List.length_set,q2];simpa using r.le
   ·rw[q2];simpa using r.max
   ·have hsz2:y.cells.size=n:=by rw[←Array.length_toList,hcl,hn']
    simp[Instr.storeAt,Instr.sureAddr,storeVar,Go.Eng.run_sizeOf hs,hsz2,hr]
 ·exact aaw hE h hv hx g hs
end
section
variable {P:Program} {E:Env} {ρ:Ren} {G:GS} {F:List aH} {M:T} {nx:Nat} {w:World}
def Fx (ao:Option Addr) (sz a b m:Nat):Value:=.slice (if m=a then ao else ao.map (·.add (a*sz))) (b - a) (m - a)
def hsl (h:Value) (sz a b:Nat):Value:=match h with|.slice ao _ cap=>Fx ao sz a b cap|v=>v
def acq (h:Value) (sz a b m:Nat):Value:=match h with|.slice ao _ _=>Fx ao sz a b m|v=>v
theorem SO {M:pp} {ao:Option Addr} {n cap sz a b m:Nat} {α:Type} {l:List α} {enc:α→List PL} (h:OkP M (.imm (.slice ao n cap) sz α l enc)) (h1:a≤b) (h2:b≤l.length) (h3:b≤m) (h4:m≤cap):
  OkP M (.imm (Fx ao sz a b m) sz α ((l.drop a).take (b - a)) enc):=by
 obtain⟨ao',cap',hh,c1,c2,c3,ha,hl,ho,hr⟩:=zr h
 injection hh with e1 e2 e3
 subst e1;subst e2;subst e3
 have hlen:((l.drop a).take (b - a)).length=b - a:=by rw[acT,List.length_drop];omega
 refine .imm (if m=a then ao else ao.map (·.add (a*sz))) (m - a) (by rw[hlen];rfl) (by rw[hlen];omega) (by omega) c3 (fun q=> ?_) (fun x hx=>hl x (List.mem_of_mem_drop (List.mem_of_mem_take hx))) (fun x hx=>ho x (List.mem_of_mem_drop (List.mem_of_mem_take hx))) (fun i x hx=> ?_)
 ·rw[hlen]at q
  rw[if_neg (by omega),ha (by omega)]
  simp[cZ,blk,lI]
 ·have hi:i<b - a:=by
   have:=(List.getElem?_eq_some_iff.1 hx).1
   omega
  rw[acV hi,List.getElem?_drop]at hx
  have:=hr (a+i) x hx
  rw[if_neg (by omega),ha (by omega)]
  rw[ha (by omega)]at this
  simp only[Option.map_some,cZ,blk,lI]at this ⊢
  rw[Nat.add_mul,←Nat.add_assoc]at this
  exact this
noncomputable def Fg (d:Int) (o:Option AV) (K:Int→Bool):Bool:=Option.casesOn o (K d) fun v=>qk v fun _ z=>K z
theorem tO {d:Int} {o:Option AV} {xo:Option Value} {K:Int→Bool} (hd:Ag E ρ o xo) (h:Fg d o K=true):∃z,K z=true∧((o=none∧xo=none∧z=d)∨∃k,xo=some (.int (dc k) z)):=by
 rcases hd with⟨rfl,rfl⟩|⟨v,y,rfl,rfl,hv⟩
 ·exact⟨d,h,.inl ⟨rfl,rfl,rfl⟩⟩
 ·obtain⟨k,z,rfl,g⟩:=ln (K:=fun _ z=>K z) hv h
  exact⟨z,g,.inr ⟨k,rfl⟩⟩
noncomputable def acb (sz:Nat) (v:AV) (lo hi mx:Option AV) (M:T) (K:AV→Bool):Bool:=oJ v fun s=>SY.casesOn s (fun _ _=>false) (fun _=>false) (fun _=>false)
 (fun h sz' α l enc=>ac (Nat.beq sz sz') (Fg 0 lo fun a=>Fg (l.length:Int) hi fun b=>Option.casesOn mx
  (ac (au (0≤a∧a≤b∧b≤(l.length:Int))) (K (.sy (.imm (hsl h sz a.toNat b.toNat) sz α ((l.drop a.toNat).take (b.toNat - a.toNat)) enc))))
  (fun _=>ac (np hi) (Fg 0 mx fun m=>ac (au (0≤a∧a≤b∧b≤m∧m≤(l.length:Int))) (K (.sy (.imm (acq h sz a.toNat b.toNat m.toNat) sz α ((l.drop a.toNat).take (b.toNat - a.toNat)) enc)))))))
 (fun _ _ _=>false)
 (fun i n=>nJ M i fun _ sz' _ l _=>ac (Nat.beq sz sz') (Fg 0 lo fun a=>Fg (n:Int) hi fun b=>Option.casesOn mx
  (ac (au (n=l.length∧0≤a∧a≤b∧b≤(n:Int))) (K (.sy (.psub i sz a.toNat (b.toNat - a.toNat)))))
  (fun _=>ac (np hi) (Fg 0 mx fun m=>ac (au (n=l.length∧a=0∧b=(n:Int)∧m=(n:Int))) (K (.sy (.pfix i n n)))))))
 (fun _ _ _ _=>false) (fun _ _ _ _=>false) (fun _ _ _=>false) (fun _=>false)
noncomputable def aay (sz:Nat) (v:AV) (lo hi mx:Option AV) (M:T) (K:AV→Bool):Bool:=bn (fp v) (acb sz v lo hi mx M K) (aaz sz v lo hi mx M K)
theorem lm {o:Option AV} {xo:Option Value} {z d:Int} {n dn:Nat} (hz:z=(n:Int)) (hd:d=(dn:Int)) (h:(o=none∧xo=none∧z=d)∨∃k,xo=some (.int (dc k) z)):(xo=none∧n=dn)∨∃k,xo=some (.int k (.ofNat n)):=by
 rcases h with⟨_,h1,h2⟩|⟨k,h1⟩
 ·exact .inl ⟨h1,by omega⟩
 ·exact .inr ⟨dc k,by rw[h1,hz];rfl⟩
theorem Xv (h:Sim E ρ G F M nx w) {sz:Nat} {v:AV} {lo hi mx:Option AV} {K:AV→Bool} {x:Value} {xl xh xm:Option Value} {t e:TypeId} (ht:P.underlying t=some (.slice e)) (hs:cj P e=some sz) (hv:den E ρ v=some x)
  (hlo:Ag E ρ lo xl) (hhi:Ag E ρ hi xh) (hmx:Ag E ρ mx xm) (hk:aay sz v lo hi mx M K=true):∃u z,den E ρ u=some z∧K u=true∧(Instr.sliceAt t x xl xh xm).run P w= .ok z w:=by
 rcases bh hk with⟨-,g⟩|⟨-,g⟩
 case inr=>exact Xw h ht hs hv hlo hhi hmx g
 have hrun:∀(ao:Option Addr) (n c l hh m:Nat),(Instr.sliceBounds true n c xl xh xm).run P w= .ok (l,hh,m) w→(Instr.sliceAt t (.slice ao n c) xl xh xm).run P w= .ok (.slice (if m=l then ao else ao.map (·.add (l*sz))) (hh - l) (m - l)) w:=by
  intro ao n c l hh m hb
  simp[Instr.sliceAt,Instr.slice,run_underlying ht,hb,Go.Eng.run_sizeOf hs]
 have hno:mx=none→xm=none:=fun q=>by
  rcases hmx with⟨_,h2⟩|⟨_,_,h2,_⟩
  ·exact h2
  ·rw[q]at h2;cases h2
 have hsome:np hi=true→xh≠none:=fun q=>by
  rcases hhi with⟨p,_⟩|⟨_,_,_,p,_⟩
  ·rw[p]at q;cases q
  ·rw[p];simp
 replace g:=gN g
 obtain⟨s,rfl,g⟩:=g
 cases s<;>first|(cases g;done)|skip
 case imm hh sz' α l enc=>
  obtain⟨g1,g2⟩:=aw g
  have g1:=acG g1
  subst g1
  obtain⟨a,g3,ha⟩:=tO hlo g2
  obtain⟨b,g4,hb⟩:=tO hhi g3
  obtain⟨h1,rfl⟩:=iu (show iR E (.imm hh sz α l enc)=some x from hv)
  obtain⟨ao,cap,rfl,c1,c2,_⟩:=zr h1
  cases mx with
  |none=>
   have hxm:=hno rfl
   subst hxm
   obtain⟨⟨b1,b2,b3⟩,g5⟩:=aa g4
   obtain⟨a,rfl⟩:=Int.eq_ofNat_of_zero_le b1
   obtain⟨b,rfl⟩:=Int.eq_ofNat_of_zero_le (show 0≤b by omega)
   have hbd:=fY (P:=P) (isS:=true) (len:=l.length) (cap:=cap) (lm rfl (show(0:Int)=((0:Nat):Int) from rfl) ha) (lm rfl rfl hb) (.inl ⟨rfl,rfl⟩) (fun q=>absurd rfl q) (by omega) (by omega) (acU cap) w
   exact⟨.sy (.imm (Fx ao sz a b cap) sz α ((l.drop a).take (b - a)) enc),Fx ao sz a b cap,qX (SO h1 (by omega) (by omega) (by omega) (acU cap)),g5,hrun ao l.length cap a b cap hbd⟩
  |some mv=>
   obtain⟨q1,g5⟩:=aw (b:=np hi) g4
   obtain⟨m,g6,hm⟩:=tO hmx g5
   obtain⟨⟨b1,b2,b3,b4⟩,g7⟩:=aa g6
   obtain⟨a,rfl⟩:=Int.eq_ofNat_of_zero_le b1
   obtain⟨b,rfl⟩:=Int.eq_ofNat_of_zero_le (show 0≤b by omega)
   obtain⟨m,rfl⟩:=Int.eq_ofNat_of_zero_le (show 0≤m by omega)
   have hm':∃k,xm=some (.int k (.ofNat m)):=by
    rcases hm with⟨q,_⟩|⟨k,q⟩
    ·cases q
    ·exact⟨dc k,q⟩
   have hbd:=fY (P:=P) (isS:=true) (len:=l.length) (cap:=cap) (lm rfl (show(0:Int)=((0:Nat):Int) from rfl) ha) (lm rfl rfl hb) (.inr hm') (fun _=>hsome q1) (by omega) (by omega) (by omega) w
   exact⟨.sy (.imm (Fx ao sz a b m) sz α ((l.drop a).take (b - a)) enc),Fx ao sz a b m,qX (SO h1 (by omega) (by omega) (by omega) (by omega)),g7,hrun ao l.length cap a b m hbd⟩
 case prow i n=>
  obtain⟨Ty,sz',α,l,enc,hi',g1⟩:=jh g
  obtain⟨g2,g3⟩:=aw g1
  have g2:=acG g2
  subst g2
  obtain⟨a,g3,ha⟩:=tO hlo g3
  obtain⟨b,g4,hb⟩:=tO hhi g3
  simp only[den,bz]at hv
  obtain⟨f,q1,hsz,hrow⟩:=h.prow hi'
  rw[q1]at hv
  cases mx with
  |none=>
   have hxm:=hno rfl
   subst hxm
   obtain⟨⟨b0,b1,b2,b3⟩,g5⟩:=aa g4
   obtain⟨a,rfl⟩:=Int.eq_ofNat_of_zero_le b1
   obtain⟨b,rfl⟩:=Int.eq_ofNat_of_zero_le (show 0≤b by omega)
   rcases hrow with⟨q2,q3⟩|⟨c,arr,q2,q3,r⟩
   ·rcases fd hv with⟨_,rfl,rfl⟩|⟨c,q4,_⟩
    ·have ea:a=0:=by omega
     have eb:b=0:=by omega
     subst ea;subst eb
     have hbd:=fY (P:=P) (isS:=true) (len:=0) (cap:=0) (lm rfl (show(0:Int)=((0:Nat):Int) from rfl) ha) (lm rfl rfl hb) (.inl ⟨rfl,rfl⟩) (fun q=>absurd rfl q) (by omega) (by omega) (acU 0) w
     refine⟨_,_,?_,g5,hrun none 0 0 0 0 0 hbd⟩
     simp[den,bz,q1,IA,q2]
    ·omega
   ·rcases fd hv with⟨q4,_⟩|⟨c',q4,rfl⟩
    ·omega
    ·have:c'=c:=by omega
     subst this
     have hle:=r.le
     have hbd:=fY (P:=P) (isS:=true) (len:=n) (cap:=c') (lm rfl (show(0:Int)=((0:Nat):Int) from rfl) ha) (lm rfl rfl hb) (.inl ⟨rfl,rfl⟩) (fun q=>absurd rfl q) (by omega) (by omega) (acU c') w
     refine⟨_,_,?_,g5,hrun _ n c' a b c' hbd⟩
     simp only[den,bz,q1,IA,q2]
     rw[if_pos (by omega)]
     by_cases q:c'=a
     ·simp[q]
     ·simp[q,cZ]
  |some mv=>
   obtain⟨p1,g5⟩:=aw (b:=np hi) g4
   obtain⟨m,g6,hm⟩:=tO hmx g5
   obtain⟨⟨b0,b1,b2,b3⟩,g7⟩:=aa g6
   subst b1;subst b2;subst b3
   have hm':∃k,xm=some (.int k (.ofNat n)):=by
    rcases hm with⟨q,_⟩|⟨k,q⟩
    ·cases q
    ·exact⟨dc k,q⟩
   rcases hrow with⟨q2,q3⟩|⟨c,arr,q2,q3,r⟩
   ·rcases fd hv with⟨_,rfl,rfl⟩|⟨c,q4,_⟩
    ·have hbd:=fY (P:=P) (isS:=true) (len:=0) (cap:=0) (lm (n:=0) rfl (show(0:Int)=((0:Nat):Int) from rfl) ha) (lm rfl rfl hb) (.inr hm') (fun _=>hsome p1) (by omega) (by omega) (acU 0) w
     refine⟨_,_,?_,g7,hrun none 0 0 0 0 0 hbd⟩
     simp[den,bz,q1,IB,q2]
    ·omega
   ·rcases fd hv with⟨q4,_⟩|⟨c',q4,rfl⟩
    ·omega
    ·have:c'=c:=by omega
     subst this
     have hle:=r.le
     have hbd:=fY (P:=P) (isS:=true) (len:=n) (cap:=c') (lm (n:=0) rfl (show(0:Int)=((0:Nat):Int) from rfl) ha) (lm rfl rfl hb) (.inr hm') (fun _=>hsome p1) (by omega) (by omega) (by omega) w
     refine⟨_,_,?_,g7,hrun _ n c' 0 n n hbd⟩
     simp only[den,bz,q1,IB,q2]
     by_cases q:n=0
     ·simp[q]
     ·simp[q,cZ]
def lF (h:Value):Prop:=∃n c,h= .slice none n c
noncomputable def acn (ne:Bool) (kd:Nat) (v:AV) (K:AV→Bool):Bool:=ac (Nat.beq kd 2) (oJ v fun s=>SY.casesOn s (fun _ _=>false) (fun _=>false) (fun _=>false)
 (fun h _ _ l _=>bn (au (lF h→l=[])) (Bool.rec (K (.sy (.bool (lF h)))) (K (.sy (.bool (¬lF h)))) ne) true) (fun _ _ _=>false) (fun _ n=>aA fun p:Prop=>bn (au (p→n=0)) (Bool.rec (K (.sy (.bool p))) (K (.sy (.bool (¬p)))) ne) true) (fun _ _ _ _=>false) (fun _ _ _ _=>false) (fun _ _ _=>false) (fun _=>false))
noncomputable def abo (ne:Bool) (kd:Nat) (v:AV) (K:AV→Bool):Bool:=bn (fp v) (acn ne kd v K) (abp ne kd v K)
theorem OT (p:Prop):au (¬p)= !au p:=by
 by_cases hp:p
 ·rw[prB_true.2 hp,prB_false.2 (fun q=>q hp)];rfl
 ·rw[prB_false.2 hp,prB_true.2 hp];rfl
theorem Yo {ne:Bool} {kd:Nat} {v:AV} {K:AV→Bool} {x:Value} {t:TypeId} {y:Value} (hn:LE P t kd=some y) (h1:den E ρ v=some x) (h:abo ne kd v K=true) (p:Operand) (c:Value):
  ∃u z,den E ρ u=some z∧K u=true∧∀w,((do eqGuard (bif ne then .neq else .eql) t p (.const c) x y;binOp (bif ne then .neq else .eql) t x y):Sem Value).run P w= .ok z w:=by
 rcases bh h with⟨-,g⟩|⟨-,g⟩
 case inr=>exact Yp hn h1 g p c
 obtain⟨g1,g2⟩:=aw g
 have g1:=acG g1
 subst g1
 have hty:∃e,P.underlying t=some (.slice e)∧y= .slice none 0 0:=by
  unfold LE at hn
  split at hn<;>first|(cases hn;done)|skip
  all_goals(rename_i q;first|(cases hn;exact⟨_,by assumption,rfl⟩)|skip)
  all_goals simp_all
 obtain⟨e,hu,rfl⟩:=hty
 have hr:∀(ao:Option Addr) (n cc:Nat) (w:World),((do eqGuard (bif ne then .neq else .eql) t p (.const c) (.slice ao n cc) (.slice none 0 0);binOp (bif ne then .neq else .eql) t (.slice ao n cc) (.slice none 0 0)):Sem Value).run P w= .ok (.bool (bif ne then !ao.isNone else ao.isNone)) w:=by
  intro ao n cc w
  have ho:∀x y:Value,Op.equal t x y=Op.equalIn (9999+1) t x y:=fun _ _=>rfl
  cases ne<;>simp[eqGuard,binOp,ho,BY hu]
 replace g2:=gN g2
 clear g h
 obtain⟨s,rfl,g⟩:=g2
 cases s<;>first|(cases g;done)|skip
 case imm hh sz α l enc=>
  obtain⟨h1,rfl⟩:=iu (show iR E (.imm hh sz α l enc)=some x from h1)
  obtain⟨ao,cap,rfl,_,_,_,ha,_⟩:=zr h1
  have hl0:lF (.slice ao l.length cap)→l=[]:=fun⟨_,_,q⟩=>by
   injection q with q
   subst q
   rcases Nat.eq_zero_or_pos l.length with z|z
   ·exact acZ z
   ·exact absurd (ha z) (by simp)
  have g:(Bool.rec (K (.sy (.bool (lF (.slice ao l.length cap))))) (K (.sy (.bool (¬lF (.slice ao l.length cap))))) ne:Bool)=true:=by
   have g':bn (au (lF (.slice ao l.length cap)→l=[])) (Bool.rec (K (.sy (.bool (lF (.slice ao l.length cap))))) (K (.sy (.bool (¬lF (.slice ao l.length cap))))) ne) true=true:=g
   rwa[prB_true.2 hl0]at g'
  have hnil:au (lF (.slice ao l.length cap))=ao.isNone:=by
   cases ao with
   |none=>exact prB_true.2 ⟨_,_,rfl⟩
   |some a=>exact prB_false.2 (fun⟨_,_,q⟩=>by injection q with q;cases q)
  cases ne with
  |false=>exact⟨.sy (.bool (lF (.slice ao l.length cap))),_,rfl,g,fun w=>by rw[hnil];exact hr ao _ _ w⟩
  |true=>exact⟨.sy (.bool (¬lF (.slice ao l.length cap))),_,rfl,g,fun w=>by rw[OT,hnil];exact hr ao _ _ w⟩
 case prow i n=>
  simp only[den,bz]at h1
  split at h1
  case h_2=>cases h1
  have key:∃ao n' c',x= .slice ao n' c'∧(ao.isNone=true→n=0):=by
   rcases fd h1 with⟨_,rfl,rfl⟩|⟨c,_,rfl⟩
   ·exact⟨_,_,_,rfl,fun _=>rfl⟩
   ·exact⟨_,_,_,rfl,fun q=>by cases q⟩
  obtain⟨ao,n',c',rfl,hn0⟩:=key
  rcases lj (aF g (ao.isNone=true)) with⟨_,g⟩|⟨q,_⟩
  ·cases ne with
   |false=>exact⟨.sy (.bool (ao.isNone=true)),_,rfl,g,fun w=>by rw[yJ];exact hr ao _ _ w⟩
   |true=>exact⟨.sy (.bool (¬ao.isNone=true)),_,rfl,g,fun w=>by rw[OT,yJ];exact hr ao _ _ w⟩
  ·exact absurd hn0 q
theorem Sim.freeze (h:Sim E ρ G F M nx w) {i:Nat} {o:AObj} {e:eH} {M':T} (hi:M.get i=some o) (he:ρ i=some e) (hB:cG e o=true) (h1:M'.get i=none) (h2:∀m,m≠i→M'.get m=M.get m):
  ∃ob E',Ey ρ E E'∧E'.at_=E.at_∧E'.M e.b=some ob∧ORel E ρ e o ob∧Sim E' ρ G F M' nx w:=by
 obtain⟨c,hh,ho,hinj⟩:=h.ex
 obtain⟨f,a1,⟨_,ob,a2,a3⟩|⟨q,_⟩⟩:=ho i o hi
 case inr=>rw[he]at a1;cases a1;rw[hB]at q;cases q
 rw[he]at a1;cases a1
 obtain⟨A,B,rfl⟩:=List.append_of_mem a2
 have hh':Holds {G with M:=E.M} w ([(e.b,ob)]::(A++B)::F):=hh.perm (by
  simp only[acI,List.cons_append,acM,acL]
  exact List.perm_middle.symm)
 obtain⟨t1,t2,t3⟩:=hh'.toG
 refine⟨ob,⟨E.at_,(GS.add {G with M:=E.M} [(e.b,ob)]).M⟩,⟨fun _ _ _=>rfl,t1.mem⟩,rfl,t3 (e.b,ob) (by simp),a3,⟨A++B,t2,fun k o2 hk=> ?_,fun k l e' f' o1 o2 hk hl he' hf' hb1 hb2 hb=> ?_⟩,MLe.trans h.mem t1.mem,h.fresh⟩
 ·have hki:k≠i:=fun q=>by subst q;rw[h1]at hk;cases hk
  rw[h2 k hki]at hk
  obtain⟨f,b1,⟨b0,ob2,b2,b3⟩|b4⟩:=ho k o2 hk
  ·refine⟨f,b1,.inl ⟨b0,ob2,?_,ORel.env (E:=E) (E':=⟨E.at_,(GS.add {G with M:=E.M} [(e.b,ob)]).M⟩) ⟨fun _ _ _=>rfl,t1.mem⟩ b3⟩⟩
   simp only[acS,List.mem_cons]at b2 ⊢
   rcases b2 with b2|b2|b2
   ·exact .inl b2
   ·exfalso
    injection b2 with b2 _
    exact hki (hinj k i f e _ _ hk hi b1 he b0 hB b2)
   ·exact .inr b2
  ·exact⟨f,b1,.inr b4⟩
 ·have hki:k≠i:=fun q=>by subst q;rw[h1]at hk;cases hk
  have hli:l≠i:=fun q=>by subst q;rw[h1]at hl;cases hl
  rw[h2 k hki]at hk
  rw[h2 l hli]at hl
  exact hinj k l e' f' _ _ hk hl he' hf' hb1 hb2 hb
theorem aaP {E':Env} {e:eH} {Ty sz c m:Nat} {α:Type} {l:List α} {enc:α→List PL} {arr:Array Value} (hm:MLe E.M E'.M) (hM:E'.M e.b=some (.cells arr Ty (0,0))) (hsz:0<sz) (hl:∀x∈l,(enc x).length=sz) (r:RowAt E w e Ty sz (l.flatMap enc) l.length c arr) (h1:l.length≤m) (h2:m≤c):
  OkP E'.M (.imm (.slice (some ⟨e.b,0,none⟩) l.length m) sz α l enc):=by
 refine .imm (some ⟨e.b,0,none⟩) m rfl h1 (Nat.le_trans h2 r.max) hsz (fun _=>rfl) hl (fun x hx p hp=>(r.ok p (List.mem_flatMap.2 ⟨x,hx,hp⟩)).mono hm) (fun i x hx j v hv=> ?_)
 rw[acY]at hv
 rcases hp:(enc x)[j]? with _|p
 ·rw[hp]at hv;cases hv
 rw[hp]at hv
 have hf:=zY hl hx hp
 have:((l.flatMap enc).map bR)[i*sz+j]?=some v:=by rw[acY,hf];exact hv
 rw[←r.take]at this
 have hlt:i*sz+j<l.length*sz:=by
  have:=(List.getElem?_eq_some_iff.1 this).1
  rw[acT]at this;omega
 rw[acV hlt]at this
 simp only[blk,lI,Nat.zero_add,nn,hM]
 simpa using this
noncomputable def VI (i n:Nat) (M:T) (K:AV→T→Bool):Bool:=nJ M i fun _ sz α l enc=>ac (au (n=l.length)) (T.set cb M i none fun M'=>aA fun h:Value=>K (.sy (.imm h sz α l enc)) M')
noncomputable def Rh (v:AV) (M:T) (K:AV→T→Bool):Bool:=bn (fp v) (oJ v fun s=>SY.casesOn s (fun _ _=>K v M) (fun _=>K v M) (fun _=>K v M) (fun _ _ _ _ _=>K v M) (fun _ _ _=>false) (fun i n=>VI i n M K) (fun _ _ _ _=>false) (fun _ _ _ _=>false) (fun i n m=>ac (au (n=m)) (VI i n M K)) (fun _=>false))
 (Wt v fun _=>K v M)
theorem UH {v:AV} {x:Value} {K:PL→Bool} (hd:den E ρ v=some x) (h:Wt v K=true):den E (fun _=>none) v=some x:=by
 cases v<;>first|(cases h;done)|exact hd|skip
 case sy s=>
  cases s<;>first|(cases h;done)|exact hd
theorem Pv (h:Sim E ρ G F M nx w) {i n m:Nat} {x:Value} {K:AV→T→Bool} (hd:bz E ρ (.prow i n)=some x∨(n=m∧bz E ρ (.pfix i n m)=some x)) (hkk:VI i n M K=true):
  ∃E' M' v,Ey ρ E E'∧E'.at_=E.at_∧Sim E' ρ G F M' nx w∧den E' (fun _=>none) v=some x∧K v M'=true:=by
 obtain⟨Ty,sz,α,l,enc,hi,g1⟩:=jh hkk
 obtain⟨hn,g2⟩:=aa g1
 obtain⟨M',g3,s1,s2⟩:=T.set_ok _ _ _ _ _ g2
 obtain⟨e,q1,hsz,hrow⟩:=h.prow hi
 have hform:(e.cap=0∧n=0∧x= .slice none 0 0)∨∃c mm,e.cap=c+1∧x= .slice (some ⟨e.b,0,none⟩) n mm∧(mm=c∨mm=n):=by
  rcases hd with hd|⟨rfl,hd⟩
  ·simp only[bz,q1]at hd
   rcases fd hd with q|⟨c,q2,q3⟩
   ·exact .inl q
   ·exact .inr ⟨c,c,q2,q3,.inl rfl⟩
  ·simp only[bz,q1]at hd
   rcases sC hd with⟨q,q2,_,q3⟩|⟨c,q2,q3⟩
   ·exact .inl ⟨q,q2,q3⟩
   ·exact .inr ⟨c,n,q2,q3,.inr rfl⟩
 rcases hrow with⟨q2,q3⟩|⟨c,arr,q2,q3,r⟩
 ·rcases hform with⟨_,_,rfl⟩|⟨c,_,q4,_⟩
  ·subst q3
   refine⟨E,M',_,⟨fun _ _ _=>rfl,MLe.refl _⟩,rfl,?_,?_,aF g3 (.slice none 0 0)⟩
   ·obtain⟨cc,hh,ho,hinj⟩:=h.ex
    refine⟨⟨cc,hh,fun k o2 hk=> ?_,fun k l e' f' o1 o2 hk hl=> ?_⟩,h.mem,h.fresh⟩
    ·have hki:k≠i:=fun q=>by subst q;rw[s1]at hk;cases hk
     rw[s2 k hki]at hk
     exact ho k o2 hk
    ·have hki:k≠i:=fun q=>by subst q;rw[s1]at hk;cases hk
     have hli:l≠i:=fun q=>by subst q;rw[s1]at hl;cases hl
     rw[s2 k hki]at hk
     rw[s2 l hli]at hl
     exact hinj k l e' f' o1 o2 hk hl
   ·show iR E _=_
    exact qX (.imm none 0 rfl (by simp) (by decide) hsz (fun q=>by simp at q) (fun x hx=>by simp at hx) (fun x hx=>by simp at hx) (fun i x hx=>by simp at hx))
  ·omega
 ·rcases hform with⟨q4,_⟩|⟨c',mm,q4,rfl,q5⟩
  ·omega
  ·have:c'=c:=by omega
   subst this
   have hB:cG e (.prow Ty sz α l enc)=true:=kp q2
   obtain⟨ob,E',f1,f2,f3,f4,f5⟩:=h.freeze hi q1 hB s1 s2
   have hob:ob= .cells arr Ty (0,0):=by
    obtain⟨G',_,hh,hM⟩:=f5.holds
    have:=hh.mem e.b ob (by rw[hM];exact f3)
    rw[r.heap]at this
    exact(ac1 this).symm
   subst hob
   subst hn
   refine⟨E',M',_,f1,f2,f5,?_,aF g3 (.slice (some ⟨e.b,0,none⟩) l.length mm)⟩
   show iR E' _=_
   have hle:=r.le
   exact qX (aaP f1.mem f3 hsz q3 r (by rcases q5 with rfl|rfl<;>omega) (by rcases q5 with rfl|rfl<;>omega))
theorem Pw (h:Sim E ρ G F M nx w) {v:AV} {x:Value} {K:AV→T→Bool} (hd:den E ρ v=some x) (hk:Rh v M K=true):
  ∃E' M' u,Ey ρ E E'∧E'.at_=E.at_∧Sim E' ρ G F M' nx w∧den E' (fun _=>none) u=some x∧K u M'=true:=by
 rcases bh hk with⟨-,g⟩|⟨-,g⟩
 ·replace g:=gN g
  obtain⟨s,rfl,g⟩:=g
  cases s<;>first|(cases g;done)|skip
  case int=>exact⟨E,M,.sy (.int _ _),⟨fun _ _ _=>rfl,MLe.refl _⟩,rfl,h,hd,g⟩
  case bool=>exact⟨E,M,.sy (.bool _),⟨fun _ _ _=>rfl,MLe.refl _⟩,rfl,h,hd,g⟩
  case str=>exact⟨E,M,.sy (.str _),⟨fun _ _ _=>rfl,MLe.refl _⟩,rfl,h,hd,g⟩
  case imm=>exact⟨E,M,.sy (.imm _ _ _ _ _),⟨fun _ _ _=>rfl,MLe.refl _⟩,rfl,h,hd,g⟩
  case prow i n=>exact Pv (m:=0) h (.inl hd) g
  case pfix i n m=>
   obtain⟨g1,g2⟩:=aa g
   exact Pv (m:=m) h (.inr ⟨g1,hd⟩) g2
 ·have:=UH hd g
  obtain⟨p,_,_,g⟩:=Sv (K:=fun _=>K v M) hd g
  exact⟨E,M,_,⟨fun _ _ _=>rfl,MLe.refl _⟩,rfl,h,this,g⟩
end
section
variable {P:Program} {E:Env} {ρ:Ren} {G:GS} {F:List aH} {M:T} {nx:Nat} {w:World}
structure RL (E:Env) (w:World) (x:Value) (sz m:Nat) (ps:List PL):Prop where
 form:∃ao c,x= .slice ao m c∧(0<m→∃b o,ao=some ⟨b,o,none⟩∧∀j u,(ps.map bR)[j]?=some u→w.cell? ⟨b,o+j,none⟩=some u)
 len:ps.length=m*sz
 ok:∀p∈ps,OkP E.M p
noncomputable def Ql (sz:Nat) (v:AV) (M:T) (K:(α:Type)→List α→(α→List PL)→Bool):Bool:=oJ v fun s=>SY.casesOn s (fun _ _=>false) (fun _=>false) (fun _=>false)
 (fun _ sz' α l enc=>ac (Nat.beq sz sz') (K α l enc)) (fun _ _ _=>false)
 (fun i n=>nJ M i fun _ sz' α l enc=>ac (Nat.beq sz sz') (ac (au (n=l.length)) (K α l enc)))
 (fun i sz0 a n=>nJ M i fun _ sz' α l enc=>ac (Nat.beq sz sz') (ac (Nat.beq sz sz0) (ac (au (a+n≤l.length)) (K α ((l.drop a).take n) enc))))
 (fun _ _ _ _=>false)
 (fun i n _=>nJ M i fun _ sz' α l enc=>ac (Nat.beq sz sz') (ac (au (n=l.length)) (K α l enc))) (fun _=>false)
theorem RowAt.cells {e:eH} {Ty sz n c:Nat} {ps:List PL} {arr:Array Value} (r:RowAt E w e Ty sz ps n c arr) (a:Nat):∀j v,((ps.drop a).map bR)[j]?=some v→w.cell? ⟨e.b,a+j,none⟩=some v:=fun j v hv=>by
 rw[List.map_drop,List.getElem?_drop]at hv
 exact r.cell hv
theorem BV {α:Type} {enc:α→List PL} {sz:Nat}:∀{l:List α} (a:Nat),(∀x∈l,(enc x).length=sz)→(l.drop a).flatMap enc=(l.flatMap enc).drop (a*sz)
 |l,0,_=>by simp
 |[],a+1,_=>by simp
 |x::l,a+1,h=>by
  rw[List.drop_succ_cons,BV a fun y hy=>h y (by simp[hy]),List.flatMap_cons,List.drop_append,List.drop_eq_nil_of_le (as:=enc x) (by rw[h x (by simp),Nat.add_mul];omega),h x (by simp)]
  rw[show(a+1)*sz - sz=a*sz by rw[Nat.add_mul];omega]
  simp
theorem BS {α:Type} {enc:α→List PL} {sz:Nat}:∀{l:List α} (a:Nat),(∀x∈l,(enc x).length=sz)→(l.take a).flatMap enc=(l.flatMap enc).take (a*sz)
 |l,0,_=>by simp
 |[],a+1,_=>by simp
 |x::l,a+1,h=>by
  rw[List.take_succ_cons,List.flatMap_cons,BS a fun y hy=>h y (by simp[hy]),List.flatMap_cons,List.take_append,List.take_of_length_le (l:=enc x) (by rw[h x (by simp),Nat.add_mul];omega),h x (by simp)]
  rw[show(a+1)*sz - sz=a*sz by rw[Nat.add_mul];omega]
theorem CP (h:Sim E ρ G F M nx w) {sz:Nat} {v:AV} {K:(α:Type)→List α→(α→List PL)→Bool} {x:Value} (hv:den E ρ v=some x) (hk:Ql sz v M K=true):
  ∃α l enc,K α l enc=true∧(∀x∈l,(enc x).length=sz)∧0<sz∧RL E w x sz l.length (l.flatMap enc):=by
 replace hk:=gN hk
 obtain⟨s,rfl,g⟩:=hk
 cases s<;>first|(cases g;done)|skip
 case imm hh sz' α l enc=>
  obtain⟨g1,g2⟩:=aw g
  have g1:=acG g1
  subst g1
  obtain⟨h1,rfl⟩:=iu (show iR E (.imm hh sz α l enc)=some x from hv)
  obtain⟨ao,cap,rfl,c1,c2,c3,ha,hl,ho,hr⟩:=zr h1
  refine⟨α,l,enc,g2,hl,c3,⟨ao,cap,rfl,fun q=>⟨_,_,ha q,fun j u hu=> ?_⟩⟩,lw hl,fun p hp=> ?_⟩
  ·rw[acY]at hu
   rcases hp:(l.flatMap enc)[j]? with _|p
   ·rw[hp]at hu;cases hu
   rw[hp]at hu
   have hj:=(List.getElem?_eq_some_iff.1 hp).1
   rw[lw hl]at hj
   have hq:j / sz<l.length:=Nat.div_lt_of_lt_mul (by rw[Nat.mul_comm];exact hj)
   have hx:l[j / sz]?=some l[j / sz]:=List.getElem?_eq_getElem hq
   have hm:=Nat.mod_lt j c3
   have hp2:(enc l[j / sz])[j % sz]?=some ((enc l[j / sz])[j % sz]'(by rw[hl _ (List.getElem_mem hq)];exact hm)):=List.getElem?_eq_getElem _
   have h3:=zY hl hx hp2
   have e0:j / sz*sz+j % sz=j:=by rw[Nat.mul_comm];exact Nat.div_add_mod j sz
   rw[e0,hp]at h3
   have h4:=hr (j / sz) _ hx (j % sz) u (by rw[acY,hp2,←ac1 h3];exact hu)
   rw[Nat.add_assoc,e0]at h4
   exact h.cellM h4
  ·obtain⟨y,hy,hp⟩:=List.mem_flatMap.1 hp
   exact ho y hy p hp
 case prow i n=>
  obtain⟨Ty,sz',α,l,enc,hi',g1⟩:=jh g
  obtain⟨g2,g3⟩:=aw g1
  have g2:=acG g2
  subst g2
  obtain⟨rfl,g4⟩:=aa g3
  obtain⟨f,q1,hsz,hrow⟩:=h.prow hi'
  simp only[den,bz,q1]at hv
  rcases hrow with⟨q2,rfl⟩|⟨c,arr,q2,q3,r⟩
  ·rcases fd hv with⟨_,_,rfl⟩|⟨c,q4,_⟩
   ·exact⟨α,[],enc,g4,by simp,hsz,⟨none,0,rfl,fun q=>by simp at q⟩,by simp,by simp⟩
   ·omega
  ·rcases fd hv with⟨q4,_⟩|⟨c',q4,rfl⟩
   ·omega
   ·exact⟨α,l,enc,g4,q3,hsz,⟨_,c',rfl,fun _=>⟨f.b,0,rfl,fun j u hu=>by rw[Nat.zero_add];exact r.cell hu⟩⟩,r.len,r.ok⟩
 case pfix i n cc=>
  obtain⟨Ty,sz',α,l,enc,hi',g1⟩:=jh g
  obtain⟨g2,g3⟩:=aw g1
  have g2:=acG g2
  subst g2
  obtain⟨rfl,g4⟩:=aa g3
  obtain⟨f,q1,hsz,hrow⟩:=h.prow hi'
  simp only[den,bz,q1]at hv
  rcases hrow with⟨q2,rfl⟩|⟨c,arr,q2,q3,r⟩
  ·rcases sC hv with⟨_,_,_,rfl⟩|⟨c,q4,_⟩
   ·exact⟨α,[],enc,g4,by simp,hsz,⟨none,0,rfl,fun q=>by simp at q⟩,by simp,by simp⟩
   ·omega
  ·rcases sC hv with⟨q4,_⟩|⟨c',q4,rfl⟩
   ·omega
   ·exact⟨α,l,enc,g4,q3,hsz,⟨_,cc,rfl,fun _=>⟨f.b,0,rfl,fun j u hu=>by rw[Nat.zero_add];exact r.cell hu⟩⟩,r.len,r.ok⟩
 case psub i sz0 a n=>
  obtain⟨Ty,sz',α,l,enc,hi',g1⟩:=jh g
  obtain⟨g2,g3⟩:=aw g1
  have g2:=acG g2
  subst g2
  obtain⟨g5,g6⟩:=aw g3
  have g5:=acG g5
  subst g5
  obtain⟨hle,g4⟩:=aa g6
  obtain⟨f,q1,hsz,hrow⟩:=h.prow hi'
  simp only[den,bz,q1]at hv
  have hlen:((l.drop a).take n).length=n:=by rw[acT,List.length_drop];omega
  have hsub:∀x∈(l.drop a).take n,x∈l:=fun x hx=>List.mem_of_mem_drop (List.mem_of_mem_take hx)
  rcases hrow with⟨q2,rfl⟩|⟨c,arr,q2,q3,r⟩
  ·simp at hle
   obtain⟨rfl,rfl⟩:a=0∧n=0:=by omega
   rcases wo hv with⟨_,_,_,rfl⟩|⟨c,q4,_⟩
   ·exact⟨α,_,enc,g4,by simp,hsz,⟨none,0,rfl,fun q=>by simp at q⟩,by simp,by simp⟩
   ·omega
  ·rcases wo hv with⟨q4,_⟩|⟨c',q4,rfl,_⟩
   ·omega
   ·have:=r.le
    have e1:((l.drop a).take n).flatMap enc=((l.flatMap enc).drop (a*sz)).take (n*sz):=by
     rw[BS (sz:=sz) n fun x hx=>q3 x (List.mem_of_mem_drop hx),BV a q3]
    refine⟨α,_,enc,g4,fun x hx=>q3 x (hsub x hx),hsz,⟨_,c' - a,by rw[hlen],fun hn=>⟨f.b,a*sz,?_,fun j u hu=> ?_⟩⟩,lw fun x hx=>q3 x (hsub x hx),fun p hp=> ?_⟩
    ·rw[hlen]at hn
     rw[if_neg (by omega)]
    ·refine r.cells (a*sz) j u ?_
     rw[e1,List.map_take]at hu
     have hj:=(List.getElem?_eq_some_iff.1 hu).1
     rw[acT]at hj
     rw[acV (by omega)]at hu
     exact hu
    ·obtain⟨y,hy,hp⟩:=List.mem_flatMap.1 hp
     exact r.ok p (List.mem_flatMap.2 ⟨y,hsub y hy,hp⟩)
noncomputable def KK (els:List (List AV)):(List (List PL)→Bool)→Bool:=List.rec (fun K=>K []) (fun v _ ih K=>Qe v fun p=>ih fun ps=>K (p::ps)) els
theorem EB {sz:Nat}:∀{els:List (List AV)} {xs:List Value} {K:List (List PL)→Bool},aR E ρ els.flatten=some xs→(∀l∈els,l.length=sz)→KK els K=true→∃pss,K pss=true∧xs=pss.flatten.map bR∧(∀p∈pss.flatten,OkP E.M p)∧(∀l∈pss,l.length=sz)∧pss.length=els.length
 |[],xs,K,hd,_,h=>by
  simp[aR]at hd
  subst hd
  exact⟨[],h,rfl,by simp,by simp,rfl⟩
 |v::els,xs,K,hd,hl,h=>by
  obtain⟨xs1,xs2,h1,h2,rfl⟩:=eJ (l:=v) (m:=els.flatten) (by simpa using hd)
  obtain⟨ps,p1,rfl,g,p3⟩:=HV (K:=fun p=>KK els fun ps=>K (p::ps)) h1 h
  obtain⟨pss,g1,rfl,q2,q3,q4⟩:=EB h2 (fun l hl'=>hl l (by simp[hl'])) g
  refine⟨ps::pss,g1,by simp,fun p hp=> ?_,fun l hl'=> ?_,by simp[q4]⟩
  ·simp only[acI,acS]at hp
   exact hp.elim (p1 p) (q2 p)
  ·rcases List.mem_cons.1 hl' with rfl|hl'
   ·rw[p3];exact hl v (by simp)
   ·exact q3 l hl'
noncomputable def aax (sz:Nat) (v:AV) (M:T) (K:List (List PL)→(Bool→Bool→Bool)→Bool):Bool:=bn (fp v) (Ql sz v M fun _ l enc=>K (l.map enc) fun x y=>bn (au (l=[])) x y) (Rw sz v M fun els=>KK els fun pss=>K pss fun x y=>List.casesOn pss x fun _ _=>y)
theorem Xt (h:Sim E ρ G F M nx w) {sz:Nat} (hsz:0<sz) {v:AV} {K:List (List PL)→(Bool→Bool→Bool)→Bool} {x:Value} (hv:den E ρ v=some x) (hk:aax sz v M K=true):
  ∃R empt,K R empt=true∧RL E w x sz R.length R.flatten∧(∀l∈R,l.length=sz)∧∀a b,empt a b=true→(R=[]∧a=true)∨(R≠[]∧b=true):=by
 rcases bh hk with⟨-,g⟩|⟨-,g⟩
 ·obtain⟨α,l,enc,g1,g2,g3,g4⟩:=CP h hv g
  refine⟨_,_,g1,?_,fun e he=> ?_,fun a b q=> ?_⟩
  ·rw[acE,←List.flatMap_def];exact g4
  ·obtain⟨y,hy,rfl⟩:=List.mem_map.1 he
   exact g2 y hy
  ·rcases lj q with⟨q1,q2⟩|⟨q1,q2⟩
   ·exact .inl ⟨by rw[q1];rfl,q2⟩
   ·exact .inr ⟨fun q3=>q1 (List.map_eq_nil_iff.1 q3),q2⟩
 ·obtain⟨els,xs,ao,n,c,g1,g2,rfl,g4,g5,g6,g7⟩:=IN h hv g
  obtain⟨pss,p1,rfl,p3,p4,p5⟩:=EB g2 g5 g1
  refine⟨_,_,p1,⟨⟨ao,c,by rw[p5,g4],fun q=>g7 (by omega)⟩,fq p4,p3⟩,p4,fun a b q=> ?_⟩
  cases pss with
  |nil=>exact .inl ⟨rfl,q⟩
  |cons p ps=>exact .inr ⟨by simp,q⟩
def PLr (p q:PL):Prop:=p=q∨(∃k z,p= .sint k z∧q= .int k z)∨(∃(sz:Nat) (α:Type) (enc:α→List PL),0<sz∧p= .imm (.slice none 0 0) sz α [] enc∧q= .nilS)
def UU:List PL→List PL→Prop
 |[],[]=>True
 |p::a,q::b=>PLr p q∧UU a b
 |_,_=>False
def dx:List (List PL)→List (List PL)→Prop
 |[],[]=>True
 |p::a,q::b=>UU p q∧dx a b
 |_,_=>False
theorem YN {p q:PL} (h:PLr p q):bR p=bR q∧∀M,OkP M q→OkP M p:=by
 rcases h with rfl|⟨k,z,rfl,rfl⟩|⟨sz,α,enc,h1,rfl,rfl⟩
 ·exact⟨rfl,fun _ h=>h⟩
 ·exact⟨rfl,fun _ _=>.sint k z⟩
 ·exact⟨rfl,fun _ _=>.imm none 0 rfl (by simp) (by decide) h1 (fun q=>by simp at q) (fun x hx=>by simp at hx) (fun x hx=>by simp at hx) (fun i x hx=>by simp at hx)⟩
theorem Lm:∀{a b:List PL},UU a b→a.map bR=b.map bR∧a.length=b.length∧∀M,(∀q∈b,OkP M q)→∀p∈a,OkP M p
 |[],[],_=>⟨rfl,rfl,fun M _ p hp=>by simp at hp⟩
 |p::a,q::b,h=>by
  obtain⟨h1,h2⟩:=h
  obtain⟨g1,g2⟩:=YN h1
  obtain⟨g3,g4,g5⟩:=Lm h2
  refine⟨by simp[g1,g3],by simp[g4],fun M hb x hx=> ?_⟩
  rcases List.mem_cons.1 hx with rfl|hx
  ·exact g2 M (hb q (by simp))
  ·exact g5 M (fun y hy=>hb y (by simp[hy])) x hx
 |[],_::_,h=>h.elim
 |_::_,[],h=>h.elim
theorem Jn:∀{a b:List (List PL)},dx a b→a.flatten.map bR=b.flatten.map bR∧a.length=b.length∧(∀sz,(∀x∈b,x.length=sz)→∀x∈a,x.length=sz)∧∀M,(∀q∈b.flatten,OkP M q)→∀p∈a.flatten,OkP M p
 |[],[],_=>⟨rfl,rfl,fun _ _ x hx=>by simp at hx,fun M _ p hp=>by simp at hp⟩
 |p::a,q::b,h=>by
  obtain⟨h1,h2⟩:=h
  obtain⟨g1,g2,g3⟩:=Lm h1
  obtain⟨g4,g5,g6,g7⟩:=Jn h2
  refine⟨by simp only[acI,acR,g1,g4],by simp[g5],fun sz hb x hx=> ?_,fun M hb x hx=> ?_⟩
  ·rcases List.mem_cons.1 hx with rfl|hx
   ·rw[g2];exact hb q (by simp)
   ·exact g6 sz (fun y hy=>hb y (by simp[hy])) x hx
  ·rw[acI]at hx hb
   rcases acS.1 hx with hx|hx
   ·exact g3 M (fun y hy=>hb y (acS.2 (.inl hy))) x hx
   ·exact g7 M (fun y hy=>hb y (acS.2 (.inr hy))) x hx
 |[],_::_,h=>h.elim
 |_::_,[],h=>h.elim
noncomputable def dh (bytes a:Nat):Prop:=a≤9223372036854775807∧a*bytes≤140737488355328
noncomputable def LF (Ty sz:Nat) (α:Type) (l:List α) (enc:α→List PL) (M:T) (nx:Nat) (K:AV→T→Nat→Bool):Bool:=T.set cb M nx (some (.prow Ty sz α l enc)) fun M'=>fN (Nat.succ nx) fun q=>K (.sy (.prow nx l.length)) M' q
noncomputable def acu (Ty sz bytes:Nat) (v1:AV) (R:List (List PL)) (empt:Bool→Bool→Bool) (M:T) (nx:Nat) (K:AV→T→Nat→Bool):Bool:=oJ v1 fun s=>SY.casesOn s (fun _ _=>false) (fun _=>false) (fun _=>false)
 (fun h sz' α l enc=>ac (Nat.beq sz sz') (ac (au (∃ao,h= .slice ao l.length l.length)) (empt (K v1 M nx) (aI fun m:List α=>ac (au (dx (m.map enc) R)) (ac (au (dh bytes (l.length+m.length))) (LF Ty sz α (l++m) enc M nx K))))))
 (fun _ _ _=>false)
 (fun i n=>nJ M i fun Ty' sz' α l enc=>ac (Nat.beq Ty Ty') (ac (Nat.beq sz sz') (ac (au (n=l.length)) (empt (K v1 M nx) (aI fun m:List α=>ac (au (dx (m.map enc) R)) (ac (au (dh bytes (l.length+m.length))) (T.set cb M i none fun M1=>LF Ty sz α (l++m) enc M1 nx K)))))))
 (fun _ _ _ _=>false) (fun _ _ _ _=>false)
 (fun _ _ _=>false) (fun _=>false)
noncomputable def acw (Ty sz bytes:Nat) (v1 v2:AV) (M:T) (nx:Nat) (K:AV→T→Nat→Bool):Bool:=
 bn (fp v1) (aax sz v2 M fun R empt=>acu Ty sz bytes v1 R empt M nx K)
  (xw v1 (Ql sz v2 M fun α l enc=>bn (au (l=[])) (K .nilS M nx) (ac (au (dh bytes l.length)) (LF Ty sz α l enc M nx K))) (fun _ _ n c=>ac (Nat.beq n 0) (ACap.casesOn c (fun k=>ac (Nat.beq k 0) (Ql sz v2 M fun α l enc=>bn (au (l=[])) (K v1 M nx) (ac (au (dh bytes l.length)) (LF Ty sz α l enc M nx K)))) (fun _=>false))))
noncomputable def abX (Ty sz bytes:Nat) (v1 v2:AV) (M:T) (nx:Nat) (K:AV→T→Nat→Bool):Bool:=bn (FS v1 v2) (acw Ty sz bytes v1 v2 M nx K) (abY Ty sz bytes v1 v2 M nx K)
theorem YK (hE:fM E) (h:Sim E ρ G F M nx w) {t ty Ty sz bytes:Nat} (ht:P.underlying t=some (.slice Ty)) (he:ll P Ty sz bytes=true) {v1 v2:AV} {K:AV→T→Nat→Bool} {x1 x2:Value} (h1:den E ρ v1=some x1) (h2:den E ρ v2=some x2)
  (hk:abX Ty sz bytes v1 v2 M nx K=true):∃v M' nx' ρ' w' x,ρ.Le ρ'∧Sim E ρ' G F M' nx' w'∧K v M' nx'=true∧den E ρ' v=some x∧(Builtin.append_ #[t,t] ty #[x1,x2]).run P w= .ok x w':=by
 rcases bh hk with⟨-,g⟩|⟨-,g⟩
 case inr=>exact YL hE h ht he h1 h2 g
 obtain⟨inf,z,i1,i2,i3,i4,i5,i6⟩:=nv he
 have hs:cj P Ty=some sz:=by simp[cj,i1,i3]
 have hm63:maxLen=9223372036854775807:=rfl
 have h0:=h.fresh nx (acU _)
 clear hk
 -- a new row of terms
 have fin:∀{i:Nat} {old:Option Nat} {M0:T} {v':Value} {w':World} {base:Nat} {α:Type} {l:List α} {enc:α→List PL},(∀b,old=some b→∃e o,M.get i=some o∧ρ i=some e∧e.b=b∧cG e o=true)→w.grownBy w' old→w'.ownsRow base Ty sz v' l.length ((l.flatMap enc).map bR)→0<l.length→
   (v'.ownBlock=old∨v'.ownBlock=some w.heap.size∨w.heap.size≤base)→(∀p∈l.flatMap enc,OkP E.M p)→(∀x∈l,(enc x).length=sz)→(∀m,m≠nx→m≠i→M0.get m=M.get m)→(i≠nx→M0.get i=none)→LF Ty sz α l enc M0 nx K=true→
   (Builtin.append_ #[t,t] ty #[x1,x2]).run P w= .ok v' w'→∃v M' nx' ρ' w' x,ρ.Le ρ'∧Sim E ρ' G F M' nx' w'∧K v M' nx'=true∧den E ρ' v=some x∧(Builtin.append_ #[t,t] ty #[x1,x2]).run P w= .ok x w':=by
  intro i old M0 v' w' base α l enc g1 g2 g3 g4 g5 g6 g7 g10 g11 g12 g13
  obtain⟨M',k1,s1,s2⟩:=T.set_ok _ _ _ _ _ g12
  rw[ck]at k1
  obtain⟨b,cap,cur,rfl,r1,r2,r3,r4,r5,r6,r7⟩:=OV g3 g4
  have hb':old=some b∨w.heap.size≤b:=by
   rcases g5 with e|e|e
   ·exact .inl (by rw[←e];rfl)
   ·simp[Value.ownBlock]at e;exact .inr (by omega)
   ·exact .inr (by omega)
  refine⟨.sy (.prow nx l.length),M',nx+1,ρ.set nx ⟨b,cap+1⟩,w',_,Ren.le_set _ h0,h.regrow (i:=i) (o':=.prow Ty sz α l enc) (ob':=.cells cur Ty (0,0)) h0 (Nat.le_succ _) (Nat.lt_succ_self _) g1 g2 r2 hb' ⟨cur,_,rfl,i6,g7,uY g6,by simpa using r5,r6,by simpa using r3,by simpa using r4⟩ s1 (fun m q1 q2=>by rw[s2 m q1,g10 m q1 q2]) (fun q=>by rw[s2 i q,g11 q]) (kp rfl),k1,?_,g13⟩
  simp only[den,bz,Ren.set_self,oI]
 have news_ok:∀{R:List (List PL)} {m:Nat},RL E w x2 sz R.length R.flatten→R≠[]→∃b o c,x2= .slice (some ⟨b,o,none⟩) R.length c∧(∀j u,(R.flatten.map bR)[j]?=some u→w.cell? (Addr.add ⟨b,o,none⟩ j)=some u)∧(∀u∈R.flatten.map bR,Value.oneCell' u=true)∧(R.flatten.map bR).length=R.length*sz:=by
  intro R m hS hne
  obtain⟨ao,c,hx,hc⟩:=hS.form
  obtain⟨b,o,rfl,hcc⟩:=hc (List.length_pos_iff.2 hne)
  refine⟨b,o,c,hx,fun j u hu=>by rw[cZ];exact hcc j u hu,fun u hu=> ?_,by rw[acE];exact hS.len⟩
  obtain⟨p,hp,rfl⟩:=List.mem_map.1 hu
  exact Ez (hS.ok p hp)
 replace g:=bh g
 rcases g with⟨-,g⟩|⟨-,g⟩
 ·obtain⟨R,empt,g1,hS,hR,hE'⟩:=Xt h i6 h2 g
  replace g1:=gN g1
  clear g
  obtain⟨s,rfl,g⟩:=g1
  have flatR:∀{α:Type} {m:List α} {enc:α→List PL},dx (m.map enc) R→R.flatten.map bR=(m.flatMap enc).map bR∧R.length=m.length∧(∀x∈m,(enc x).length=sz)∧∀p∈m.flatMap enc,OkP E.M p:=by
   intro α m enc q
   obtain⟨q1,q2,q3,q4⟩:=Jn q
   rw[←List.flatMap_def]at q1 q4
   exact⟨q1.symm,by rw[←q2,acE],fun x hx=>q3 sz hR _ (List.mem_map.2 ⟨x,hx,rfl⟩),q4 E.M hS.ok⟩
  have none_ok:R=[]→∀{ao n c},x1= .slice ao n c→n≤c→(Builtin.append_ #[t,t] ty #[x1,x2]).run P w= .ok x1 w:=by
   intro q ao n c hx hle
   obtain⟨ao2,c2,hx2,_⟩:=hS.form
   subst q
   rw[hx,hx2]
   exact gJ t ty Ty ht hs ao n c hle ao2 c2
  cases s<;>first|(cases g;done)|skip
  case imm hh sz' α l enc=>
   obtain⟨g1,g2⟩:=aw g
   have g1:=acG g1
   subst g1
   obtain⟨⟨ao,rfl⟩,g3⟩:=aa g2
   obtain⟨hok,rfl⟩:=iu (show iR E (.imm (.slice ao l.length l.length) sz α l enc)=some x1 from h1)
   rcases hE' _ _ g3 with⟨q,g4⟩|⟨q,g4⟩
   ·exact⟨_,M,nx,ρ,w,_,Ren.Le.refl _,h,g4,h1,none_ok q rfl (acU _)⟩
   ·obtain⟨m,g5⟩:=bL g4
    obtain⟨hm,g6⟩:=aa g5
    obtain⟨⟨l1,l2⟩,g7⟩:=aa g6
    obtain⟨f1,f2,f3,f4⟩:=flatR hm
    obtain⟨b,o,c,rfl,n1,n2,n3⟩:=news_ok (m:=0) hS q
    have hpos:=List.length_pos_iff.2 q
    obtain⟨ao',cap',hh,_,_,_,ha,hl,ho,hr⟩:=zr hok
    injection hh with e1 e2 e3
    subst e1
    have hSl:=CP h (v:=.sy (.imm (.slice ao l.length l.length) sz α l enc)) (sz:=sz) (K:=fun α' l' enc'=>au ((⟨α',(l',enc')⟩:(β:Type)×(List β×(β→List PL)))=⟨α,(l,enc)⟩)) h1 (by
     show ac (Nat.beq sz sz) _=true
     exact aM (Nat.beq_refl sz) (prB_true.2 rfl))
    obtain⟨α',l',enc',e,hl',_,hS1⟩:=hSl
    have e:=prB_true.1 e
    cases e
    obtain⟨v',w',r1,r2,r3⟩:∃v' w',(Builtin.append_ #[t,t] ty #[.slice ao l.length l.length,.slice (some ⟨b,o,none⟩) R.length c]).run P w= .ok v' w'∧w'.ownsRow w.heap.size Ty sz v' (l.length+R.length) (((l.flatMap enc).map bR)++R.flatten.map bR)∧w.grownBy w' none:=by
     rcases Nat.eq_zero_or_pos l.length with q0|q0
     ·have hl0:l=[]:=acZ q0
      subst hl0
      cases ao with
      |none=>
       obtain⟨v',w',r1,r2,r3,_,r5⟩:=run_append_own_at (P:=P) w w.heap.size t ty Ty inf z sz bytes ht i1 i2 i3 i5 i4 i6 (.slice none 0 0) 0 [] (World.ownsRow_nil w _ Ty sz) ⟨b,o,none⟩ R.length c _ n3 n1 n2 (by omega) (by rw[f2,Nat.zero_add];simpa using l2) (acU _)
       exact⟨v',w',r1,by simpa using r2,r3⟩
      |some a=>
       obtain⟨v',w',r1,r2,r3⟩:=run_append_arg_grows (P:=P) w t ty Ty inf z sz bytes ht i1 i2 i3 i5 i4 i6 a 0 0 [] (by simp) (fun j u hu=>by simp at hu) ⟨b,o,none⟩ R.length c _ n3 n1 (by omega) (by rw[f2,hm63];simpa using l1) (by rw[f2];simpa using l2)
       exact⟨v',w',r1,by simpa using r2,r3⟩
     ·have hao:=ha q0
      rw[hao]
      obtain⟨ao2,c2,hx2,hc2⟩:=hS1.form
      injection hx2 with e1 e2 e3
      obtain⟨b1,o1,e4,hc3⟩:=hc2 q0
      rw[←e1,hao]at e4
      injection e4 with e4
      obtain⟨v',w',r1,r2,r3⟩:=run_append_arg_grows (P:=P) w t ty Ty inf z sz bytes ht i1 i2 i3 i5 i4 i6 ⟨blk ao,lI ao,none⟩ l.length l.length ((l.flatMap enc).map bR) (by rw[acE,lw hl]) (fun j u hu=>by rw[e4,cZ];exact hc3 j u hu) ⟨b,o,none⟩ R.length c _ n3 n1 (by omega) (by omega) (by rw[f2];exact l2)
      exact⟨v',w',r1,r2,r3⟩
    refine fin (i:=nx) (old:=none) (M0:=M) (base:=w.heap.size) (l:=l++m) (enc:=enc) (fun b q=>by cases q) r3 ?_ (by rw[acC];omega) (.inr (.inr (acU _))) ?_ (fun x hx=> ?_) (fun _ _ _=>rfl) (fun q=>absurd rfl q) g7 r1
    ·rw[acC,List.flatMap_append,acR,←f1,←f2];exact r2
    ·intro p hp
     rw[List.flatMap_append]at hp
     rcases acS.1 hp with hp|hp
     ·exact hS1.ok p hp
     ·exact f4 p hp
    ·rcases acS.1 hx with hx|hx
     ·exact hl x hx
     ·exact f3 x hx
  case prow i n=>
   obtain⟨Ty',sz',α,l,enc,hi',g1⟩:=jh g
   obtain⟨g2,g3⟩:=aw g1
   have g2:=acG g2
   subst g2
   obtain⟨g4,g5⟩:=aw g3
   have g4:=acG g4
   subst g4
   obtain⟨rfl,g6⟩:=aa g5
   obtain⟨f,q1,hsz,hrow⟩:=h.prow hi'
   have h1':=h1
   simp only[den,bz,q1]at h1
   rcases hE' _ _ g6 with⟨q,g4⟩|⟨q,g4⟩
   ·rcases fd h1 with⟨_,e0,hx⟩|⟨c,qc,hx⟩
    ·exact⟨_,M,nx,ρ,w,_,Ren.Le.refl _,h,g4,h1',none_ok q hx (acU _)⟩
    ·rcases hrow with⟨q2,_⟩|⟨c',arr,q2,q3,r⟩
     ·omega
     ·have:=r.le
      exact⟨_,M,nx,ρ,w,_,Ren.Le.refl _,h,g4,h1',none_ok q hx (by omega)⟩
   ·obtain⟨m,g5⟩:=bL g4
    obtain⟨hm,g6⟩:=aa g5
    obtain⟨⟨l1,l2⟩,g7⟩:=aa g6
    obtain⟨f1,f2,f3,f4⟩:=flatR hm
    obtain⟨b,o,c,hx2,n1,n2,n3⟩:=news_ok (m:=0) hS q
    have hpos:=List.length_pos_iff.2 q
    obtain⟨M1,k1,s1,s2⟩:=T.set_ok _ _ _ _ _ g7
    have hinx:i≠nx:=fun q=>by rw[q,h0]at q1;cases q1
    rcases hrow with⟨q2,q3⟩|⟨c',arr,q2,q3,r⟩
    ·rcases fd h1 with⟨_,e0,hx⟩|⟨c,qc,_⟩
     case inr=>omega
     subst q3
     obtain⟨v',w',r1,r2,r3,_,r5⟩:=run_append_own_at (P:=P) w w.heap.size t ty Ty inf z sz bytes ht i1 i2 i3 i5 i4 i6 (.slice none 0 0) 0 [] (World.ownsRow_nil w _ Ty sz) ⟨b,o,none⟩ R.length c _ n3 n1 n2 (by omega) (by rw[f2,Nat.zero_add];simpa using l2) (acU _)
     refine fin (i:=i) (old:=none) (M0:=M1) (base:=w.heap.size) (l:=[]++m) (enc:=enc) (fun b q=>by cases q) r3 ?_ (by simp;omega) (.inr (.inr (acU _))) (fun p hp=>f4 p (by simpa using hp)) (fun x hx=>f3 x (by simpa using hx)) (fun m' _ q=>s2 m' q) (fun _=>s1) k1 (by rw[hx,hx2];exact r1)
     rw[acM,←f1,←f2]
     simpa using r2
    ·rcases fd h1 with⟨qc,_⟩|⟨cc,qc,hx⟩
     ·omega
     obtain rfl:cc=c':=by omega
     have hB:cG f (.prow Ty sz α l enc)=true:=kp q2
     obtain⟨v',w',r1,r2,r3,_,r5⟩:=run_append_own_at (P:=P) w 0 t ty Ty inf z sz bytes ht i1 i2 i3 i5 i4 i6 (.slice (some ⟨f.b,0,none⟩) l.length cc) l.length ((l.flatMap enc).map bR)
      ⟨by rw[acE];exact r.len,.inr ⟨f.b,cc,arr,rfl,Nat.zero_le _,r.heap,r.le,r.max,r.size,r.take⟩⟩ ⟨b,o,none⟩ R.length c _ n3 n1 n2 (by omega) (by rw[f2];exact l2) (Nat.zero_le _)
     refine fin (i:=i) (old:=some f.b) (M0:=M1) (base:=0) (l:=l++m) (enc:=enc) (fun b q=>⟨f,_,hi',q1,ac1 q,hB⟩) r3 ?_ (by rw[acC];omega) (r5.imp id .inl) ?_ (fun x hx=> ?_) (fun m' _ q=>s2 m' q) (fun _=>s1) k1 (by rw[hx,hx2];exact r1)
     ·rw[acC,List.flatMap_append,acR,←f1,←f2];exact r2
     ·intro p hp
      rw[List.flatMap_append]at hp
      rcases acS.1 hp with hp|hp
      ·exact r.ok p hp
      ·exact f4 p hp
     ·rcases acS.1 hx with hx|hx
      ·exact q3 x hx
      ·exact f3 x hx
 ·rcases nz g with⟨rfl,g⟩|⟨i,o,n,c,rfl,g⟩
  case inr=>
   obtain⟨g1,g2⟩:=aw g
   have g1:=acG g1
   subst g1
   cases c
   case rest=>cases g2
   rename_i k
   obtain⟨g3,g4⟩:=aw g2
   have g3:=acG g3
   subst g3
   have h1':=h1
   simp only[den]at h1'
   split at h1'
   case h_2=>cases h1'
   rename_i e he'
   simp only[dF,acX]at h1'
   subst h1'
   obtain⟨α,l,enc,g1,g2,g3,hS⟩:=CP h h2 g4
   obtain⟨ao,c,hx2,hc⟩:=hS.form
   rcases lj g1 with⟨q,g4⟩|⟨q,g4⟩
   ·subst q
    refine⟨_,M,nx,ρ,w,_,Ren.Le.refl _,h,g4,h1,?_⟩
    rw[hx2]
    exact gJ t ty Ty ht hs _ 0 0 (acU _) ao c
   ·obtain⟨⟨l1,l2⟩,g7⟩:=aa g4
    have hpos:=List.length_pos_iff.2 q
    obtain⟨b,o2,rfl,hcc⟩:=hc hpos
    obtain⟨v',w',r1,r2,r3⟩:=run_append_arg_grows (P:=P) w t ty Ty inf z sz bytes ht i1 i2 i3 i5 i4 i6 ⟨e.b,o,none⟩ 0 0 [] (by simp) (fun j u hu=>by simp at hu) ⟨b,o2,none⟩ l.length c ((l.flatMap enc).map bR) (by rw[acE];exact hS.len) (fun j u hu=>by rw[cZ];exact hcc j u hu) (by omega) (by rw[Nat.zero_add,hm63];simpa using l1) (by rw[Nat.zero_add];exact l2)
    refine fin (i:=nx) (old:=none) (M0:=M) (base:=w.heap.size) (l:=l) (enc:=enc) (fun b q=>by cases q) r3 (by simpa using r2) hpos (.inr (.inr (acU _))) hS.ok g2 (fun _ _ _=>rfl) (fun q=>absurd rfl q) g7 (by rw[hx2];exact r1)
  cases h1
  obtain⟨α,l,enc,g1,g2,g3,hS⟩:=CP h h2 g
  obtain⟨ao,c,hx2,hc⟩:=hS.form
  rcases lj g1 with⟨q,g4⟩|⟨q,g4⟩
  ·subst q
   refine⟨.nilS,M,nx,ρ,w,.slice none 0 0,Ren.Le.refl _,h,g4,rfl,?_⟩
   rw[hx2]
   exact gJ t ty Ty ht hs none 0 0 (acU _) ao c
  ·obtain⟨⟨l1,l2⟩,g7⟩:=aa g4
   have hpos:=List.length_pos_iff.2 q
   obtain⟨b,o,rfl,hcc⟩:=hc hpos
   obtain⟨v',w',r1,r2,r3,_,r5⟩:=run_append_own_at (P:=P) w w.heap.size t ty Ty inf z sz bytes ht i1 i2 i3 i5 i4 i6 (.slice none 0 0) 0 [] (World.ownsRow_nil w _ Ty sz) ⟨b,o,none⟩ l.length c ((l.flatMap enc).map bR) (by rw[acE];exact hS.len) (fun j u hu=>by rw[cZ];exact hcc j u hu)
    (fun u hu=>by
     obtain⟨p,hp,rfl⟩:=List.mem_map.1 hu
     exact Ez (hS.ok p hp)) (by omega) (by rw[Nat.zero_add];exact l2) (acU _)
   refine fin (i:=nx) (old:=none) (M0:=M) (base:=w.heap.size) (l:=l) (enc:=enc) (fun b q=>by cases q) r3 (by simpa using r2) hpos (.inr (.inr (acU _))) hS.ok g2 (fun _ _ _=>rfl) (fun q=>absurd rfl q) g7 (by rw[hx2];exact r1)
noncomputable def aa9 (Ty sz bytes:Nat) (z:List AV) (vl vc:AV) (M:T) (nx:Nat) (K:AV→T→Nat→Bool):Bool:=bn (fp vc) (ks vl fun _ l=>oJ vc fun s=>SY.casesOn s (fun _ c=>ac (au (l=0∧0≤c∧c≤9223372036854775807∧(bytes:Int)*c≤140737488355328)) (ac (Nat.blt 0 sz) (T.set cb M nx (some (.prow Ty sz Unit [] (fun _=>[]))) fun M'=>fN (Nat.succ nx) fun q=>K (.sy (.prow nx 0)) M' q))) (fun _=>false) (fun _=>false) (fun _ _ _ _ _=>false) (fun _ _ _=>false) (fun _ _=>false) (fun _ _ _ _=>false) (fun _ _ _ _=>false) (fun _ _ _=>false) (fun _=>false)) (aba Ty sz bytes z vl vc M nx K)
theorem XX (h:Sim E ρ G F M nx w) {t Ty sz bytes:Nat} (ht:P.underlying t=some (.slice Ty)) (he:ll P Ty sz bytes=true) {z:List AV} {zs:Array Value} (hz:mY P Ty=some zs) (hzd:aR E ρ z=some zs.toList) {vl vc:AV} {xl xc:Value} (hl:den E ρ vl=some xl) (hc:den E ρ vc=some xc)
  {K:AV→T→Nat→Bool} (hk:aa9 Ty sz bytes z vl vc M nx K=true):∃v M' nx' ρ' w' x,ρ.Le ρ'∧Sim E ρ' G F M' nx' w'∧K v M' nx'=true∧den E ρ' v=some x∧(Instr.makeSlice t xl xc).run P w= .ok x w':=by
 rcases bh hk with⟨-,g⟩|⟨-,g⟩
 case inr=>exact XY h ht he hz hzd hl hc g
 obtain⟨k1,l,rfl,g1⟩:=jW g
 replace g1:=gN g1
 clear g hk
 obtain⟨s,rfl,g⟩:=g1
 cases s<;>first|(cases g;done)|skip
 case int k2 c=>
  obtain⟨⟨rfl,c0,c1,c2⟩,g2⟩:=aa g
  obtain⟨g3,g4⟩:=aw g2
  rw[ac2]at g3
  obtain⟨M',g5,s1,s2⟩:=T.set_ok _ _ _ _ _ g4
  rw[ck]at g5
  cases hl;cases hc
  obtain⟨inf,z0,i1,i2,i3,i4,i5,i6⟩:=nv he
  have h0:=h.fresh nx (acU _)
  have hr:=Go.run_make (P:=P) w t Ty inf z0 ht i1 i2 (dc k1) (dc k2) 0 c (Int.le_refl 0) c0 (by rw[i5];omega) c1
  refine⟨_,M',nx+1,_,_,_,Ren.le_set (ρ:=ρ) ⟨w.heap.size,c.toNat+1⟩ h0,h.alloc (cap:=c.toNat+1) (o:=.prow Ty sz Unit [] (fun _=>[])) (ob:=.cells (madeCells z0.cells (c.toNat*inf.size)) Ty (0,0)) h0 (Nat.le_succ _) (Nat.lt_succ_self _) ⟨_,[],rfl,g3,fun x hx=>(by simp at hx),by simp[tF],?_,by simp,by simp,?_⟩ s1 s2 (kp rfl),g5,?_,hr⟩
  ·rw[Go.size_madeCells,i3];simp
  ·simp only[Nat.add_sub_cancel,maxLen];omega
  ·simp[den,bz,Ren.set_self,oI]
end
def sx:AV→Value→Bool
 |.int k z,.int k' z'=>decide (dc k=k')&&decide (z=z')
 |.bool a,.bool b=>decide (a=b)
 |.str l,.string s=>decide (s=⟨(l.map ac0).toArray⟩)
 |.nilP,.pointer none=>true
 |.nilS,.slice none 0 0=>true
 |.nilM,.map none=>true
 |.nilF,.nilFunc=>true
 |.nilI,.nilIface=>true
 |_,_=>false
def Iy:List AV→List Value→Bool
 |[],[]=>true
 |v::l,x::m=>sx v x&&Iy l m
 |_,_=>false
def isV:AV→Value→Bool
 |.agg l,.agg a=>Iy l a.toList
 |v,x=>sx v x
theorem yc {E:Env} {ρ:Ren} {v:AV} {x:Value} (h:sx v x=true):den E ρ v=some x:=by
 unfold sx at h
 split at h<;>first|(cases h;done)|rfl|skip
 ·simp only[acW,decide_eq_true_eq]at h
  rw[←h.1,←h.2];rfl
 ·rw[decide_eq_true_eq]at h
  rw[h];rfl
 ·rw[decide_eq_true_eq]at h
  rw[h];rfl
theorem Dk {E:Env} {ρ:Ren}:∀{l:List AV} {m:List Value},Iy l m=true→aR E ρ l=some m
 |[],[],_=>rfl
 |[],_::_,h=>by cases h
 |_::_,[],h=>by cases h
 |v::l,x::m,h=>by
  simp only[Iy,acW]at h
  exact ly (yc h.1) (Dk h.2)
theorem abq {E:Env} {ρ:Ren} {v:AV} {x:Value} (h:isV v x=true):den E ρ v=some x:=by
 unfold isV at h
 split at h
 ·simp only[den,Dk h]
 ·exact yc h
inductive XP|t (n:Nat)|c (v:AV)|f (n:Nat)
noncomputable def nb (v:AV) (K:AV→Bool):Bool:=AV.casesOn v false (fun k z=>K (.int k z)) (fun b=>K (.bool b)) (fun l=>K (.str l)) (fun i o=>K (.ptr i o)) (fun i o n c=>K (.sl i o n c)) (fun i=>K (.map i)) (K .nilP) (K .nilS) (K .nilM) (K .nilF) (K .nilI) (fun t v=>K (.iface t v)) (fun f c=>K (.fn f c)) (fun i=>K (.yl i)) (fun l=>K (.agg l)) (fun l=>K (.tup l)) (fun i=>K (.any i)) (fun s=>K (.sy s))
theorem WF {v:AV} {K:AV→Bool} (h:nb v K=true):v≠ .bad∧K v=true:=by
 cases v<;>first|exact⟨by simp,h⟩|cases h
noncomputable def ev (S:SL) (p:XP) (K:AV→Bool):Bool:=XP.casesOn p (fun n=>nb (cu n S) K) (fun v=>K v) (fun f=>K (.fn f []))
noncomputable def Hg (S:SL) (ps:List XP):(List AV→Bool)→Bool:=List.rec (fun K=>K []) (fun p _ ih K=>ev S p fun v=>ih fun r=>K (v::r)) ps
noncomputable def WO (S:SL) (p:Option XP) (K:Option AV→Bool):Bool:=Option.casesOn p (K none) fun p=>ev S p fun v=>K (some v)
def cE:XP→Operand→Bool
 |.t n,.tmp m=>Nat.beq n m
 |.c v,.const x=>sx v x
 |.f n,.func m=>Nat.beq n m
 |_,_=>false
def rI:List XP→List Operand→Bool
 |[],[]=>true
 |p::ps,o::os=>cE p o&&rI ps os
 |_,_=>false
def CU:Option XP→Option Operand→Bool
 |none,none=>true
 |some p,some o=>cE p o
 |_,_=>false
structure SR (E:Env) (ρ:Ren) (N:Nat) (S:SL) (a:Act):Prop where
 size:a.tmps.size=N
 defs:a.defers=[]
 at_:∀t,cu t S= .bad∨∃x,den E ρ (cu t S)=some x∧a.tmps.getD t undef=x
section
variable {P:Program} {E:Env} {ρ ρ':Ren} {N:Nat} {S:SL} {a:Act}
theorem SR.mono (s:SR E ρ N S a) (hl:ρ.Le ρ'):SR E ρ' N S a:=⟨s.size,s.defs,fun t=>(s.at_ t).imp id fun⟨x,h1,h2⟩=>⟨x,iL hl _ _ h1,h2⟩⟩
theorem cn (s:SR E ρ N S a) {p:XP} {o:Operand} {K:AV→Bool} (ho:cE p o=true) (h:ev S p K=true):∃v x,den E ρ v=some x∧a.eval o=x∧K v=true:=by
 cases p with
 |t n=>
  cases o<;>simp only[cE]at ho<;>first|(cases ho;done)|skip
  have:=acG ho
  subst this
  obtain⟨h1,h2⟩:=WF h
  obtain⟨x,h3,h4⟩:=(s.at_ n).resolve_left h1
  exact⟨_,x,h3,h4,h2⟩
 |c v=>
  cases o<;>simp only[cE]at ho<;>first|(cases ho;done)|skip
  exact⟨v,_,yc ho,rfl,h⟩
 |f n=>
  cases o<;>simp only[cE]at ho<;>first|(cases ho;done)|skip
  have:=acG ho
  subst this
  exact⟨.fn n [],.func (.func n) #[] #[],by simp[den,aR],rfl,h⟩
theorem ye (s:SR E ρ N S a):∀{ps:List XP} {os:List Operand} {K:List AV→Bool},rI ps os=true→Hg S ps K=true→∃vs,aR E ρ vs=some (os.map a.eval)∧K vs=true∧vs.length=os.length
 |[],[],K,_,h=>⟨[],rfl,h,rfl⟩
 |[],_::_,K,ho,_=>by cases ho
 |_::_,[],K,ho,_=>by cases ho
 |p::ps,o::os,K,ho,h=>by
  simp only[rI,acW]at ho
  have h':ev S p (fun v=>Hg S ps fun r=>K (v::r))=true:=h
  obtain⟨v,x,h1,h2,h3⟩:=cn s ho.1 h'
  obtain⟨vs,h4,h5,h6⟩:=ye s ho.2 h3
  exact⟨v::vs,ly (by rw[h1,h2]) h4,h5,by simp[h6]⟩
theorem MR (s:SR E ρ N S a) {p:Option XP} {o:Option Operand} {K:Option AV→Bool} (ho:CU p o=true) (h:WO S p K=true):∃v,Ag E ρ v (o.map a.eval)∧K v=true:=by
 cases p with
 |none=>
  cases o<;>simp only[CU]at ho<;>first|(cases ho;done)|skip
  exact⟨none,.inl ⟨rfl,rfl⟩,h⟩
 |some p=>
  cases o<;>simp only[CU]at ho<;>first|(cases ho;done)|skip
  rename_i o
  obtain⟨v,x,h1,h2,h3⟩:=cn (p:=p) s ho h
  exact⟨some v,.inr ⟨v,x,rfl,by simp[h2],h1⟩,h3⟩
noncomputable def aaH (d:Option Nat) (v:AV) (S:SL):SL:=Option.casesOn d S fun d=>.cons d v S
theorem SR.put (s:SR E ρ N S a) {d:Option Nat} {v:AV} {z:Value} (hd:∀t,d=some t→t<N) (hv:v= .bad∨den E ρ v=some z):SR E ρ N (aaH d v S) (a.put d z):=by
 cases d with
 |none=>exact s
 |some d=>
  have hlt:=hd d rfl
  refine⟨by simpa[Act.put] using s.size,s.defs,fun t=> ?_⟩
  show cu t (.cons d v S)= .bad∨∃x,den E ρ (cu t (.cons d v S))=some x∧_
  by_cases e:d=t
  ·subst e
   rw[jp]
   refine hv.imp id fun h=>⟨z,h,?_⟩
   simp[Act.put,Array.getD,s.size,hlt]
  ·rw[nq _ _ e]
   refine(s.at_ t).imp id fun⟨x,h1,h2⟩=>⟨x,h1,?_⟩
   rw[←h2]
   exact Go.Eng.getD_put (fun q=>e q.symm)
end
def wm (P:Program) (t e:Nat):Bool:=match P.underlying t with|some (.slice e')=>Nat.beq e' e|_=>false
def QQ (P:Program) (t n e:Nat):Bool:=match P.underlying t with|some (.array n' e')=>Nat.beq n' n&&Nat.beq e' e|_=>false
def wn (P:Program) (t k e:Nat):Bool:=match P.underlying t with|some (.map k' e')=>Nat.beq k' k&&Nat.beq e' e|_=>false
def KP (P:Program) (t:Nat):Bool:=match P.underlying t with|some .string=>true|_=>false
def QO (P:Program) (t k:Nat):Bool:=match P.underlying t with|some (.int k')=>decide (k'=dc k)|_=>false
def wt (P:Program) (t:Nat):Nat:=match P.underlying t with|some (.slice e)=>e|some (.array _ e)=>e|some (.map _ e)=>e|_=>0
def GV (P:Program) (t:Nat):Nat:=match P.underlying t with|some (.map k _)=>k|_=>0
theorem qU {P:Program} {t e:Nat} (h:wm P t e=true):P.underlying t=some (.slice e):=by
 unfold wm at h
 split at h
 ·rename_i h1;rw[h1,acG h]
 ·cases h
theorem VF {P:Program} {t n e:Nat} (h:QQ P t n e=true):P.underlying t=some (.array n e):=by
 unfold QQ at h
 split at h
 ·rename_i h1
  simp only[acW]at h
  rw[h1,acG h.1,acG h.2]
 ·cases h
theorem qV {P:Program} {t k e:Nat} (h:wn P t k e=true):P.underlying t=some (.map k e):=by
 unfold wn at h
 split at h
 ·rename_i h1
  simp only[acW]at h
  rw[h1,acG h.1,acG h.2]
 ·cases h
theorem LV {P:Program} {t:Nat} (h:KP P t=true):P.underlying t=some .string:=by
 unfold KP at h
 split at h
 ·assumption
 ·cases h
theorem VD {P:Program} {t k:Nat} (h:QO P t k=true):P.underlying t=some (.int (dc k)):=by
 unfold QO at h
 split at h
 ·rename_i h1
  rw[decide_eq_true_eq]at h
  rw[h1,h]
 ·cases h
def AX (P:Program) (T:Nat) (z:List AV):Bool:=match mY P T with|some zs=>Iy z zs.toList|none=>false
theorem AW {P:Program} {T:Nat} {z:List AV} {E:Env} {ρ:Ren} (h:AX P T z=true):∃zs,mY P T=some zs∧aR E ρ z=some zs.toList:=by
 unfold AX at h
 split at h
 ·rename_i zs h1
  exact⟨zs,h1,Dk h⟩
 ·cases h
def HO (P:Program) (Ty sz len:Nat) (z:List AV):Bool:=match CN P Ty sz len with|some zs=>Iy z zs|none=>false
theorem PP {P:Program} {Ty sz len:Nat} {z:List AV} {E:Env} {ρ:Ren} (h:HO P Ty sz len z=true):∃zs,CN P Ty sz len=some zs∧aR E ρ z=some zs:=by
 unfold HO at h
 split at h
 ·rename_i zs h1
  exact⟨zs,h1,Dk h⟩
 ·cases h
def Uh (P:Program) (e:Nat) (v:AV):Bool:=match (P.info? e).bind (·.zero) with|some z=>isV v z|none=>false
theorem WY {P:Program} {e:Nat} {v:AV} {E:Env} {ρ:Ren} (h:Uh P e v=true):∃z,(∀w,(zeroValue e:Sem Value).run P w= .ok z w)∧den E ρ v=some z:=by
 unfold Uh at h
 split at h
 ·rename_i z h1
  refine⟨z,fun w=> ?_,abq h⟩
  rcases hi:P.info? e with _|i
  ·simp[hi]at h1
  ·simp only[hi,Option.bind_some]at h1
   simp[zeroValue,typeInfo,hi,h1]
 ·cases h
inductive XO
 |bad|mv (x:XP)|pick (c x y:XP)|bin (f o:Nat) (x y:XP)|eqs (ne:Bool) (d:Nat) (et:ET) (x y:XP)|isn (ne:Bool) (kd:Nat) (x:XP)|un (f:Nat) (x:XP)|cnv (k:Nat) (x:XP)
 |fa (off:Nat) (x:XP)|nck (x:XP)|ixa (n sz:Nat) (x i:XP)|ixs (sz:Nat) (x i:XP)|fld (agg:Bool) (off n:Nat) (x:XP)|len (f:Nat) (x:XP)|mx (b:Bool) (x y:XP)|ext (i:Nat) (x:XP)|six (x i:XP)
 |bld (z:List AV) (ps:List (Nat×Nat)) (xs:List XP)
 |ld (agg:Bool) (n:Nat) (x:XP)|mlen (x:XP)|sls (sz:Nat) (x:XP) (lo hi mx:Option XP)|lk (d:Nat) (et:ET) (zv:AV) (comma:Bool) (m k:XP)|ent (it:XP)
 |st (n:Nat) (x y:XP)|al (T:Nat) (z:List AV)|box (T:Nat) (x:XP)|bsl (Ty sz len:Nat) (z:List AV) (ps:List (Nat×Nat)) (xs:List XP)|mks (Ty sz bytes:Nat) (z:List AV) (l c:XP)|mkm
 |mu (d:Nat) (et:ET) (m k v:XP)|rng (m:XP)|nxt (it:XP)|app (Ty sz bytes:Nat) (x y:XP)|del (d:Nat) (et:ET) (m k:XP)|mkf (f:Nat) (xs:List XP)
noncomputable def Qj (ps:List (Nat×Nat)):List AV→Bool:=List.rec (fun vs=>List.casesOn vs true fun _ _=>false) (fun p _ ih vs=>List.casesOn vs false fun v r=>Bool.and (Nat.beq (eG (cB v)) p.2) (ih r)) ps
theorem HX {E:Env} {ρ:Ren} (hE:fM E):∀{ps:List (Nat×Nat)} {vs:List AV} {ys:List Value},Qj ps vs=true→aR E ρ vs=some ys→∀(k:Nat) (p:Nat×Nat) (y:Value),ps[k]?=some p→ys[k]?=some y→y.cells.size=p.2
 |[],vs,ys,h,hd=>by intro k p y hp;simp at hp
 |q::ps,[],ys,h,hd=>by cases h
 |q::ps,v::vs,ys,h,hd=>by
  obtain⟨x,xs,h1,h2,rfl⟩:=bu hd
  obtain⟨h3,h4⟩:=vb (a:=Nat.beq (eG (cB v)) q.2) (b:=Qj ps vs) h
  intro k p y hp hy
  cases k with
  |zero=>
   simp at hp hy
   subst hp;subst hy
   have:=cV (qg hE h1)
   have h3:=acG h3
   rw[cT]at h3
   rw[←h3,←this]
   simp
  |succ k=>exact HX hE h4 h2 k p y (by simpa using hp) (by simpa using hy)
noncomputable def WA (x:XO) (S:SL) (K:AV→Bool):Bool:=match x with
 |.mv x=>ev S x K
 |.pick c x y=>ev S c fun c=>RJ c fun b=>bn b (ev S x K) (ev S y K)
 |.bin f o x y=>ev S x fun u=>ev S y fun v=>Nat.rec (arY o u v K) (fun f _=>Nat.rec (Wj o u v K) (fun f _=>Nat.rec (shX (Nat.beq o 1) u v K) (fun f _=>Nat.rec (VX o u v K) (fun f _=>Nat.rec (Qp u v K) (fun _ _=>UP (Nat.beq o 1) u v K) f) f) f) f) f
 |.eqs ne d et x y=>ev S x fun u=>ev S y fun v=>sE d et u v fun b=>fB (Bool.rec b (Bool.not b) ne) fun r=>K (.bool r)
 |.isn ne kd x=>ev S x fun u=>abo ne kd u K
 |.un f x=>ev S x fun u=>Nat.rec (aaY u K) (fun f _=>Nat.rec (aa0 u K) (fun _ _=>abI u K) f) f
 |.cnv k x=>ev S x fun u=>abJ k u K
 |.fa off x=>ev S x fun u=>faY off u K
 |.nck x=>ev S x fun u=>aa2 u K
 |.ixa n sz x i=>ev S x fun u=>ev S i fun v=>abm n sz u v K
 |.ixs sz x i=>ev S x fun u=>ev S i fun v=>abk sz u v K
 |.fld agg off n x=>ev S x fun u=>abt agg off n u K
 |.len f x=>ev S x fun u=>Nat.rec (Wx u K) (fun _ _=>abf u K) f
 |.mx b x y=>ev S x fun u=>ev S y fun v=>mxY b u v K
 |.ext i x=>ev S x fun u=>abw i u K
 |.six x i=>ev S x fun u=>ev S i fun v=>aaA u v K
 |.bld z ps xs=>Hg S xs fun vs=>ac (Qj ps vs) (abR z ((ps.map (·.1)).zip vs) K)
 |.mkf f xs=>Hg S xs fun vs=>K (.fn f vs)
 |_=>false
noncomputable def Pa (x:XO) (S:SL) (M:T) (K:AV→Bool):Bool:=match x with
 |.ld agg n x=>ev S x fun u=>Pf agg n u M K
 |.mlen x=>ev S x fun u=>WG u M K
 |.sls sz x lo hi mx=>ev S x fun u=>WO S lo fun l=>WO S hi fun h=>WO S mx fun m=>aay sz u l h m M K
 |.lk d et zv comma m k=>ev S m fun u=>ev S k fun v=>lkX d et zv comma u v M K
 |.ent it=>ev S it fun u=>abF u M K
 |_=>false
noncomputable def WB (x:XO) (S:SL) (M:T) (nx:Nat) (K:AV→T→Nat→Bool):Bool:=match x with
 |.st n x y=>ev S x fun u=>ev S y fun v=>stY n u v M fun M'=>K .bad M' nx
 |.al T z=>ac (Nat.blt 0 (eG z)) (QE T z M nx K)
 |.box T x=>ev S x fun u=>abP T u M nx K
 |.bsl Ty sz len z ps xs=>Hg S xs fun vs=>ac (Qj ps vs) (abO Ty sz len z ((ps.map (·.1)).zip vs) M nx K)
 |.mks Ty sz bytes z l c=>ev S l fun u=>ev S c fun v=>aa9 Ty sz bytes z u v M nx K
 |.mkm=>abb M nx K
 |.mu d et m k v=>ev S m fun m=>ev S k fun k=>ev S v fun v=>muX d et m k v M fun M'=>K .bad M' nx
 |.rng m=>ev S m fun u=>aaF u M nx K
 |.nxt it=>ev S it fun u=>aaX u M fun v M'=>K v M' nx
 |.app Ty sz bytes x y=>ev S x fun u=>ev S y fun v=>abX Ty sz bytes u v M nx K
 |.del d et m k=>ev S m fun u=>ev S k fun v=>abG d et u v M fun M'=>K (.tup []) M' nx
 |_=>false
def Wk:Nat→Nat→BinOp
 |0,o=>mE o
 |1,o=>FJ o
 |2,o=>bif Nat.beq o 1 then .shr else .shl
 |3,o=>mC o
 |4,_=>.add
 |_,o=>bif Nat.beq o 1 then .neq else .eql
def ab6:List (Nat×Nat)→List (Nat×Operand)→List XP→Bool
 |[],[],[]=>true
 |_::ps,q::qs,x::xs=>cE x q.2&&ab6 ps qs xs
 |_,_,_=>false
def Cg (P:Program) (x:XO) (o:Op):Bool:=match x with
 |.bad=>true
 |.mv x=>match o with|.move y|.assign y=>cE x y|_=>false
 |.pick c x y=>match o with|.pick c' x' y'=>cE c c'&&cE x x'&&cE y y'|_=>false
 |.bin f k x y=>match o with|.binOp b _ x' y' _=>decide (b=Wk f k)&&cE x x'&&cE y y'|_=>false
 |.eqs ne d et x y=>match o with|.binOp b t x' y' _=>decide (b=bif ne then .neq else .eql)&&Nat.ble d 10000&&dz P d et t&& !P.eqGuardType P.depth t&&cE x x'&&cE y y'|_=>false
 |.isn ne kd x=>match o with|.binOp b t x' (.const c) _=>decide (b=bif ne then .neq else .eql)&&(match LE P t kd with|some z=>(sx .nilP c&&sx .nilP z)||(sx .nilS c&&sx .nilS z)||(sx .nilM c&&sx .nilM z)||(sx .nilF c&&sx .nilF z)||(sx .nilI c&&sx .nilI z)|none=>false)&&cE x x'|_=>false
 |.un f x=>match o with|.unOp u _ x'=>cE x x'&&decide (u=match f with|0=>.not|1=>.neg|_=>.xor)|_=>false
 |.cnv k x=>match o with|.convert s t x'=>cE x x'&&(P.underlying s).isSome&&QO P t k|_=>false
 |.fa off x=>match o with|.fieldAddr s x' f=>cE x x'&&decide (jU P s f=some off)|_=>false
 |.nck x=>match o with|.nilCheck x'=>cE x x'|_=>false
 |.ixa n sz x i=>match o with|.indexAddr t x' i'=>cE x x'&&cE i i'&&QQ P t n (wt P t)&&decide (cj P (wt P t)=some sz)|_=>false
 |.ixs sz x i=>match o with|.indexAddr t x' i'=>cE x x'&&cE i i'&&wm P t (wt P t)&&decide (cj P (wt P t)=some sz)|_=>false
 |.fld agg off n x=>match o with|.field t x' f=>cE x x'&&(match P.underlying t with|some (.struct fs)=>(match fs[f]? with|some g=>Nat.beq g.offset off&&decide (ia P g.type=some agg)&&decide (cj P g.type=some n)|none=>false)|_=>false)|_=>false
 |.len f x=>match o with|.call c=>(match c.callee,c.args.toList,c.argTypes.toList with|.builtin .len,[x'],[t]=>cE x x'&&(match f with|0=>KP P t|_=>wm P t (wt P t))|_,_,_=>false)|_=>false
 |.mlen x=>match o with|.call c=>(match c.callee,c.args.toList,c.argTypes.toList with|.builtin .len,[x'],[t]=>cE x x'&&wn P t (GV P t) (wt P t)|_,_,_=>false)|_=>false
 |.mx b x y=>match o with|.call c=>(match c.callee,c.args.toList with|.builtin f,[x',y']=>cE x x'&&cE y y'&&decide (f=bif b then .max else .min)|_,_=>false)|_=>false
 |.app Ty sz bytes x y=>match o with|.call c=>(match c.callee,c.args.toList,c.argTypes.toList with|.builtin .append,[x',y'],[t,u]=>cE x x'&&cE y y'&&Nat.beq t u&&wm P t Ty&&ll P Ty sz bytes|_,_,_=>false)|_=>false
 |.del d et m k=>match o with|.call c=>(match c.callee,c.args.toList,c.argTypes.toList with|.builtin .delete,[x',y'],[t,_]=>cE m x'&&cE k y'&&Nat.ble d 10000&&wn P t (GV P t) (wt P t)&&dz P d et (GV P t)|_,_,_=>false)|_=>false
 |.ext i x=>match o with|.extract x' j=>cE x x'&&Nat.beq i j|_=>false
 |.six x i=>match o with|.index t x' i'=>cE x x'&&cE i i'&&KP P t|_=>false
 |.bld z ps xs=>match o with|.build t qs=>Hc P t&&AX P t z&&CT P t (qs.toList.map (·.1)) ps&&rI xs (qs.toList.map (·.2))|_=>false
 |.mkf f xs=>match o with|.makeFunc (.func f') first caps=>Nat.beq f' f&&first.isEmpty&&rI xs caps.toList|_=>false
 |.ld agg n x=>match o with|.load t x'=>cE x x'&&decide (ia P t=some agg)&&decide (cj P t=some n)|_=>false
 |.sls sz x lo hi mx=>match o with|.slice t x' lo' hi' mx'=>cE x x'&&CU lo lo'&&CU hi hi'&&CU mx mx'&&wm P t (wt P t)&&decide (cj P (wt P t)=some sz)|_=>false
 |.lk d et zv comma m k=>match o with|.lookup t m' k' c=>cE m m'&&cE k k'&&decide (c=comma)&&Nat.ble d 10000&&wn P t (GV P t) (wt P t)&&dz P d et (GV P t)&&Uh P (wt P t) zv|_=>false
 |.ent it=>match o with|.entry x'=>cE it x'|_=>false
 |.st n x y=>match o with|.store t x' y'=>cE x x'&&cE y y'&&decide (cj P t=some n)|_=>false
 |.al T z=>match o with|.alloc t=>Nat.beq t T&&AX P t z|_=>false
 |.box T x=>match o with|.box t x'=>cE x x'&&Nat.beq t T|_=>false
 |.bsl Ty sz len z ps xs=>match o with|.buildSlice t n qs=>Nat.beq n len&&wm P t Ty&&HO P Ty sz len z&&CT P t (qs.toList.map (·.1)) ps&&rI xs (qs.toList.map (·.2))|_=>false
 |.mks Ty sz bytes z l c=>match o with|.makeSlice t l' c'=>cE l l'&&cE c c'&&wm P t Ty&&ll P Ty sz bytes&&AX P Ty z|_=>false
 |.mkm=>match o with|.makeMap t none=>wn P t (GV P t) (wt P t)|_=>false
 |.mu d et m k v=>match o with|.mapUpdate t m' k' v'|.insert t m' k' v'=>cE m m'&&cE k k'&&cE v v'&&Nat.ble d 10000&&wn P t (GV P t) (wt P t)&&dz P d et (GV P t)|_=>false
 |.rng m=>match o with|.range t m'=>cE m m'&&wn P t (GV P t) (wt P t)|_=>false
 |.nxt it=>match o with|.next x' s=>cE it x'&& !s|_=>false
section
variable {P:Program} {E:Env} {ρ:Ren} {G:GS} {F:List aH} {M:T} {nx:Nat} {w:World} {N:Nat} {S:SL} {a:Act}
theorem cS {m:Sem Value} {z:Value} {w w':World} (h:m.run P w= .ok z w'):((do pure (Next.value (←m))):Sem Next).run P w= .ok (.value z) w':=by
 simp[acQ,h]
theorem Li {m:Sem Unit} {w w':World} (h:m.run P w= .ok () w'):((do m;pure Next.skip):Sem Next).run P w= .ok .skip w':=by
 simp[acQ,h]
theorem Lw (qs:Array (Nat×Operand)) (f:Operand→Value):(qs.map fun(i,x)=>(i,f x))=(((qs.toList.map (·.1)).zip ((qs.toList.map (·.2)).map f))).toArray:=by
 apply Array.ext'
 simp only[Array.toList_map,List.map_map]
 generalize qs.toList=l
 induction l with
 |nil=>rfl
 |cons p l ih=>simp[ih]
theorem vC {α:Type _} {x:Array α} {l:List α} (h:x.toList=l):x=l.toArray:=by
 subst h;simp
theorem bc {a b:Bool} (h:(a&&b)=true):a=true∧b=true:=by simpa using h
theorem abS {f k:Nat} {u v:AV} {K:AV→Bool} {x y:Value} (h1:den E ρ u=some x) (h2:den E ρ v=some y)
  (hk:(Nat.rec (arY k u v K) (fun f _=>Nat.rec (Wj k u v K) (fun f _=>Nat.rec (shX (Nat.beq k 1) u v K) (fun f _=>Nat.rec (VX k u v K) (fun f _=>Nat.rec (Qp u v K) (fun _ _=>UP (Nat.beq k 1) u v K) f) f) f) f) f:Bool)=true) (t:TypeId) (p q:Operand):
  ∃v z,den E ρ v=some z∧K v=true∧∀w,((do eqGuard (Wk f k) t p q x y;binOp (Wk f k) t x y):Sem Value).run P w= .ok z w:=by
 match f with
 |0=>exact abU h1 h2 hk t p q
 |1=>exact YJ h1 h2 hk t p q
 |2=>exact aaC h1 h2 hk t p q
 |3=>exact YB h1 h2 hk t p q
 |4=>exact US h1 h2 hk t p q
 |n+5=>exact Xz h1 h2 hk t p q
set_option maxHeartbeats 1000000 in
theorem aaN (hE:fM E) (s:SR E ρ N S a) {o:Oper} {x:XO} {K:AV→Bool} (hc:Cg P x o.op=true) (hk:WA x S K=true):∃v z,den E ρ v=some z∧K v=true∧∀w,(execOp a.eval o).run P w= .ok (.value z) w:=by
 obtain⟨dst,op,ty,pos,af,g⟩:=o
 cases x<;>simp only[Cg]at hc<;>simp only[WA]at hk<;>first|(cases hk;done)|skip
 case mv x=>
  split at hc<;>first|(cases hc;done)|skip
  all_goals
   obtain⟨v,z,h1,h2,h3⟩:=cn s hc hk
   exact⟨v,z,h1,h3,fun w=>by simp only[execOp,h2];rfl⟩
 case pick c x y=>
  split at hc<;>first|(cases hc;done)|skip
  obtain⟨hc,c3⟩:=bc hc
  obtain⟨c1,c2⟩:=bc hc
  obtain⟨v,z,h1,h2,h3⟩:=cn s c1 hk
  obtain⟨b,rfl,h4⟩:=IS h1 h3
  rcases bh h4 with⟨rfl,h5⟩|⟨rfl,h5⟩
  ·obtain⟨u,z,g1,g2,g3⟩:=cn s c2 h5
   exact⟨u,z,g1,g3,fun w=>by simp[execOp,h2,g2,asBool]⟩
  ·obtain⟨u,z,g1,g2,g3⟩:=cn s c3 h5
   exact⟨u,z,g1,g3,fun w=>by simp[execOp,h2,g2,asBool]⟩
 case bin f k x y=>
  split at hc<;>first|(cases hc;done)|skip
  rename_i b t x' y' t2
  obtain⟨hc,c3⟩:=bc hc
  obtain⟨c1,c2⟩:=bc hc
  rw[decide_eq_true_eq]at c1
  subst c1
  obtain⟨u,zu,h1,h2,h3⟩:=cn s c2 hk
  obtain⟨v,zv,h4,h5,h6⟩:=cn s c3 h3
  obtain⟨r,z,g1,g2,g3⟩:=abS (P:=P) h1 h4 h6 t x' y'
  exact⟨r,z,g1,g2,fun w=>by simp only[execOp,h2,h5];exact cS (g3 w)⟩
 case eqs ne d et x y=>
  split at hc<;>first|(cases hc;done)|skip
  rename_i b t x' y' t2
  obtain⟨hc,c6⟩:=bc hc
  obtain⟨hc,c5⟩:=bc hc
  obtain⟨hc,c4⟩:=bc hc
  obtain⟨hc,c3⟩:=bc hc
  obtain⟨c1,c2⟩:=bc hc
  rw[decide_eq_true_eq]at c1
  subst c1
  obtain⟨u,zu,h1,h2,h3⟩:=cn s c5 hk
  obtain⟨v,zv,h4,h5,h6⟩:=cn s c6 h3
  obtain⟨r,z,g1,g2,g3⟩:=abx (P:=P) (Nat.le_of_ble_eq_true c2) c3 (by simpa using c4) h1 h4 h6 x' y'
  exact⟨r,z,g1,g2,fun w=>by simp only[execOp,h2,h5];exact cS (g3 w)⟩
 case isn ne kd x=>
  split at hc<;>first|(cases hc;done)|skip
  rename_i b t x' c t2
  obtain⟨hc,c3⟩:=bc hc
  obtain⟨c1,c2⟩:=bc hc
  rw[decide_eq_true_eq]at c1
  subst c1
  split at c2
  case h_2=>cases c2
  rename_i z hz
  obtain⟨u,zu,h1,h2,h3⟩:=cn s c3 hk
  have hcz:c=z:=by
   have key:∀v:AV,(sx v c&&sx v z)=true→c=z:=fun v h=>by
    obtain⟨p,q⟩:=bc h
    have p':=yc (E:=⟨fun _=>undef,fun _=>none⟩) (ρ:=fun _=>none) p
    have q':=yc (E:=⟨fun _=>undef,fun _=>none⟩) (ρ:=fun _=>none) q
    rw[p']at q'
    exact ac1 q'
   simp only[Bool.or_eq_true]at c2
   rcases c2 with(((h|h)|h)|h)|h<;>exact key _ h
  subst hcz
  obtain⟨r,y,g1,g2,g3⟩:=Yo (P:=P) hz h1 h3 x' c
  exact⟨r,y,g1,g2,fun w=>by simp only[execOp,h2];exact cS (g3 w)⟩
 case un f x=>
  split at hc<;>first|(cases hc;done)|skip
  rename_i u t x'
  obtain⟨c1,c2⟩:=bc hc
  rw[decide_eq_true_eq]at c2
  obtain⟨v,zv,h1,h2,h3⟩:=cn s c1 hk
  match f,c2,h3 with
  |0,c2,h3=>
   obtain⟨r,z,g1,g2,g3⟩:=XM (P:=P) h1 h3
   exact⟨r,z,g1,g2,fun w=>by simp only[execOp,h2,c2];exact cS (g3 w)⟩
  |1,c2,h3=>
   obtain⟨r,z,g1,g2,g3⟩:=XQ (P:=P) h1 h3
   exact⟨r,z,g1,g2,fun w=>by simp only[execOp,h2,c2];exact cS (g3 w)⟩
  |n+2,c2,h3=>
   obtain⟨r,z,g1,g2,g3⟩:=Yy (P:=P) h1 h3
   exact⟨r,z,g1,g2,fun w=>by simp only[execOp,h2,c2];exact cS (g3 w)⟩
 case cnv k x=>
  split at hc<;>first|(cases hc;done)|skip
  obtain⟨hc,c3⟩:=bc hc
  obtain⟨c1,c2⟩:=bc hc
  obtain⟨v,zv,h1,h2,h3⟩:=cn s c1 hk
  obtain⟨r,z,g1,g2,g3⟩:=Yz (P:=P) h1 h3 c2 (VD c3)
  exact⟨r,z,g1,g2,fun w=>by simp only[execOp,h2];exact cS (g3 w)⟩
 case fa off x=>
  split at hc<;>first|(cases hc;done)|skip
  obtain⟨c1,c2⟩:=bc hc
  rw[decide_eq_true_eq]at c2
  obtain⟨v,zv,h1,h2,h3⟩:=cn s c1 hk
  obtain⟨r,z,g1,g2,g3⟩:=abu (P:=P) c2 h1 h3
  exact⟨r,z,g1,g2,fun w=>by simp only[execOp,h2];exact cS (g3 w)⟩
 case nck x=>
  split at hc<;>first|(cases hc;done)|skip
  obtain⟨v,zv,h1,h2,h3⟩:=cn s hc hk
  obtain⟨g1,g2⟩:=XS (P:=P) h1 h3 (a:=a) h2 (dst:=dst) (ty:=ty) (pos:=pos) (af:=af) (g:=g)
  exact⟨v,zv,h1,g1,g2⟩
 case ixa n sz x i=>
  split at hc<;>first|(cases hc;done)|skip
  obtain⟨hc,c4⟩:=bc hc
  obtain⟨hc,c3⟩:=bc hc
  obtain⟨c1,c2⟩:=bc hc
  rw[decide_eq_true_eq]at c4
  obtain⟨v,zv,h1,h2,h3⟩:=cn s c1 hk
  obtain⟨u,zu,h4,h5,h6⟩:=cn s c2 h3
  obtain⟨r,z,g1,g2,g3⟩:=Ym (P:=P) (VF c3) c4 h1 h4 h6
  exact⟨r,z,g1,g2,fun w=>by simp only[execOp,h2,h5];exact cS (g3 w)⟩
 case ixs sz x i=>
  split at hc<;>first|(cases hc;done)|skip
  obtain⟨hc,c4⟩:=bc hc
  obtain⟨hc,c3⟩:=bc hc
  obtain⟨c1,c2⟩:=bc hc
  rw[decide_eq_true_eq]at c4
  obtain⟨v,zv,h1,h2,h3⟩:=cn s c1 hk
  obtain⟨u,zu,h4,h5,h6⟩:=cn s c2 h3
  obtain⟨r,z,g1,g2,g3⟩:=Yk (P:=P) (qU c3) c4 h1 h4 h6
  exact⟨r,z,g1,g2,fun w=>by simp only[execOp,h2,h5];exact cS (g3 w)⟩
 case fld agg off n x=>
  split at hc<;>first|(cases hc;done)|skip
  obtain⟨c1,c2⟩:=bc hc
  split at c2
  case h_2=>cases c2
  rename_i fs hfs
  split at c2
  case h_2=>cases c2
  rename_i f hf
  obtain⟨c2,c4⟩:=bc c2
  obtain⟨c2,c3⟩:=bc c2
  rw[decide_eq_true_eq]at c3 c4
  obtain⟨v,zv,h1,h2,h3⟩:=cn s c1 hk
  obtain⟨r,z,g1,g2,g3⟩:=Yr (P:=P) hfs hf (acG c2) c3 c4 h1 h3
  exact⟨r,z,g1,g2,fun w=>by simp only[execOp,h2];exact cS (g3 w)⟩
 case len f x=>
  split at hc<;>first|(cases hc;done)|skip
  rename_i c
  obtain⟨callee,args,tas⟩:=c
  split at hc<;>first|(cases hc;done)|skip
  rename_i x' t e1 e2 e3
  simp only at e1 e2 e3
  obtain rfl:=vC e2
  obtain rfl:=vC e3
  subst e1
  obtain⟨c1,c2⟩:=bc hc
  obtain⟨v,zv,h1,h2,h3⟩:=cn s c1 hk
  cases f with
  |zero=>
   obtain⟨r,z,g1,g2,g3⟩:=UN (P:=P) (ty:=ty) (LV c2) h1 h3
   refine⟨r,z,g1,g2,fun w=> ?_⟩
   rw[dl,show[x'].toArray.map a.eval= #[zv] by simp[h2]]
   exact g3 _ w
  |succ f=>
   obtain⟨r,z,g1,g2,g3⟩:=Yd (P:=P) (ty:=ty) (qU c2) h1 h3
   refine⟨r,z,g1,g2,fun w=> ?_⟩
   rw[dl,show[x'].toArray.map a.eval= #[zv] by simp[h2]]
   exact g3 _ w
 case mx b x y=>
  split at hc<;>first|(cases hc;done)|skip
  rename_i c
  obtain⟨callee,args,tas⟩:=c
  split at hc<;>first|(cases hc;done)|skip
  rename_i f x' y' e1 e2
  simp only at e1 e2
  obtain rfl:=vC e2
  subst e1
  obtain⟨hc,c3⟩:=bc hc
  obtain⟨c1,c2⟩:=bc hc
  rw[decide_eq_true_eq]at c3
  subst c3
  obtain⟨v,zv,h1,h2,h3⟩:=cn s c1 hk
  obtain⟨u,zu,h4,h5,h6⟩:=cn s c2 h3
  obtain⟨r,z,g1,g2,g3⟩:=aa6 (P:=P) (ta:=tas) (ty:=ty) h1 h4 h6
  refine⟨r,z,g1,g2,fun w=> ?_⟩
  rw[dl,show[x',y'].toArray.map a.eval= #[zv,zu] by simp[h2,h5]]
  exact g3 _ w
 case ext i x=>
  split at hc<;>first|(cases hc;done)|skip
  obtain⟨c1,c2⟩:=bc hc
  have c2:=acG c2
  subst c2
  obtain⟨v,zv,h1,h2,h3⟩:=cn s c1 hk
  obtain⟨r,z,g1,g2,g3⟩:=Yu (P:=P) h1 h3
  exact⟨r,z,g1,g2,fun w=>by simp only[execOp,h2];exact cS (g3 w)⟩
 case six x i=>
  split at hc<;>first|(cases hc;done)|skip
  obtain⟨hc,c3⟩:=bc hc
  obtain⟨c1,c2⟩:=bc hc
  obtain⟨v,zv,h1,h2,h3⟩:=cn s c1 hk
  obtain⟨u,zu,h4,h5,h6⟩:=cn s c2 h3
  obtain⟨r,z,g1,g2,g3⟩:=Xx (P:=P) (LV c3) h1 h4 h6
  exact⟨r,z,g1,g2,fun w=>by simp only[execOp,h2,h5];exact cS (g3 w)⟩
 case bld z ps xs=>
  split at hc<;>first|(cases hc;done)|skip
  rename_i t qs
  obtain⟨hc,c4⟩:=bc hc
  obtain⟨hc,c3⟩:=bc hc
  obtain⟨c1,c2⟩:=bc hc
  obtain⟨vs,h1,h2,h3⟩:=ye s c4 hk
  obtain⟨h4,h5⟩:=aw h2
  obtain⟨zs,z1,z2⟩:=AW (E:=E) (ρ:=ρ) c2
  obtain⟨u,x,g1,g2,g3⟩:=YH hE z1 z2 c1 c3 h1 (by simpa using h3) (HX hE h4 h1) h5
  exact⟨u,x,g1,g2,fun w=>by simp only[execOp,Lw];exact cS (g3 w)⟩
 case mkf f xs=>
  split at hc<;>first|(cases hc;done)|skip
  rename_i f' fs caps
  obtain⟨hc,c3⟩:=bc hc
  obtain⟨c1,c2⟩:=bc hc
  have c1:=acG c1
  subst c1
  have c2:fs= #[]:=by simpa using c2
  subst c2
  obtain⟨vs,h1,h2,h3⟩:=ye s c3 hk
  refine⟨_,_,?_,h2,fun w=>by simp only[execOp];exact cS rfl⟩
  have e:(List.map a.eval caps.toList).toArray=Array.map a.eval caps:=Array.ext' (by rw[Array.toList_map])
  simp only[den,h1,e,Array.map_empty]
end
section
variable {P:Program} {E:Env} {ρ:Ren} {G:GS} {F:List aH} {M:T} {nx:Nat} {w:World} {N:Nat} {S:SL} {a:Act}
theorem SN (h:Sim E ρ G F M nx w) (s:SR E ρ N S a) {o:Oper} {x:XO} {K:AV→Bool} (hc:Cg P x o.op=true) (hk:Pa x S M K=true):∃v z,den E ρ v=some z∧K v=true∧(execOp a.eval o).run P w= .ok (.value z) w:=by
 obtain⟨dst,op,ty,pos,af,g⟩:=o
 cases x<;>simp only[Cg]at hc<;>simp only[Pa]at hk<;>first|(cases hk;done)|skip
 case ld agg n x=>
  split at hc<;>first|(cases hc;done)|skip
  obtain⟨hc,c3⟩:=bc hc
  obtain⟨c1,c2⟩:=bc hc
  rw[decide_eq_true_eq]at c2 c3
  obtain⟨v,zv,h1,h2,h3⟩:=cn s c1 hk
  obtain⟨u,z,g1,g2,g3⟩:=LP (P:=P) h h1 h3 c2 c3
  exact⟨u,z,g1,g2,by simp only[execOp,h2];exact cS g3⟩
 case mlen x=>
  split at hc<;>first|(cases hc;done)|skip
  rename_i c
  obtain⟨callee,args,tas⟩:=c
  split at hc<;>first|(cases hc;done)|skip
  rename_i x' t e1 e2 e3
  simp only at e1 e2 e3
  obtain rfl:=vC e2
  obtain rfl:=vC e3
  subst e1
  obtain⟨c1,c2⟩:=bc hc
  obtain⟨v,zv,h1,h2,h3⟩:=cn s c1 hk
  obtain⟨r,z,g1,g2,g3⟩:=Vm (P:=P) (ty:=ty) h (qV c2) h1 h3
  refine⟨r,z,g1,g2,?_⟩
  rw[dl,show[x'].toArray.map a.eval= #[zv] by simp[h2]]
  exact g3 _
 case sls sz x lo hi mx=>
  split at hc<;>first|(cases hc;done)|skip
  obtain⟨hc,c6⟩:=bc hc
  obtain⟨hc,c5⟩:=bc hc
  obtain⟨hc,c4⟩:=bc hc
  obtain⟨hc,c3⟩:=bc hc
  obtain⟨c1,c2⟩:=bc hc
  rw[decide_eq_true_eq]at c6
  obtain⟨v,zv,h1,h2,h3⟩:=cn s c1 hk
  obtain⟨l,l1,l2⟩:=MR s c2 h3
  obtain⟨hh,l3,l4⟩:=MR s c3 l2
  obtain⟨m,l5,l6⟩:=MR s c4 l4
  obtain⟨u,z,g1,g2,g3⟩:=Xv (P:=P) h (qU c5) c6 h1 l1 l3 l5 l6
  exact⟨u,z,g1,g2,by simp only[execOp,h2];exact cS g3⟩
 case lk d et zv comma m k=>
  split at hc<;>first|(cases hc;done)|skip
  obtain⟨hc,c7⟩:=bc hc
  obtain⟨hc,c6⟩:=bc hc
  obtain⟨hc,c5⟩:=bc hc
  obtain⟨hc,c4⟩:=bc hc
  obtain⟨hc,c3⟩:=bc hc
  obtain⟨c1,c2⟩:=bc hc
  rw[decide_eq_true_eq]at c3
  subst c3
  obtain⟨v,z1,h1,h2,h3⟩:=cn s c1 hk
  obtain⟨u,z2,h4,h5,h6⟩:=cn s c2 h3
  obtain⟨zz,z3,z4⟩:=WY (E:=E) (ρ:=ρ) c7
  obtain⟨r,z,g1,g2,g3⟩:=abd (P:=P) h (Nat.le_of_ble_eq_true c4) (qV c5) c6 z3 z4 h1 h4 h6
  exact⟨r,z,g1,g2,by simp only[execOp,h2,h5];exact cS g3⟩
 case ent it=>
  split at hc<;>first|(cases hc;done)|skip
  obtain⟨v,zv,h1,h2,h3⟩:=cn s hc hk
  obtain⟨u,z,g1,g2,g3⟩:=Yw (P:=P) h h1 h3
  exact⟨u,z,g1,g2,by simp only[execOp,h2];exact cS g3⟩
def acB (P:Program) (E:Env) (ρ':Ren) (o:Oper) (a:Act) (w w':World) (v:AV):Prop:=
 (∃z,den E ρ' v=some z∧(execOp a.eval o).run P w= .ok (.value z) w')∨(v= .bad∧(execOp a.eval o).run P w= .ok .skip w')
theorem aaO (hE:fM E) (h:Sim E ρ G F M nx w) (s:SR E ρ N S a) {o:Oper} {x:XO} {K:AV→T→Nat→Bool} (hc:Cg P x o.op=true) (hk:WB x S M nx K=true):
  ∃v M' nx' ρ' w',ρ.Le ρ'∧Sim E ρ' G F M' nx' w'∧K v M' nx'=true∧acB P E ρ' o a w w' v:=by
 obtain⟨dst,op,ty,pos,af,g⟩:=o
 cases x<;>simp only[Cg]at hc<;>simp only[WB]at hk<;>first|(cases hk;done)|skip
 case st n x y=>
  split at hc<;>first|(cases hc;done)|skip
  obtain⟨hc,c3⟩:=bc hc
  obtain⟨c1,c2⟩:=bc hc
  rw[decide_eq_true_eq]at c3
  obtain⟨v,z1,h1,h2,h3⟩:=cn s c1 hk
  obtain⟨u,z2,h4,h5,h6⟩:=cn s c2 h3
  obtain⟨M',w',g1,g2,g3⟩:=aav (P:=P) hE h h1 h4 h6 c3
  exact⟨.bad,M',nx,ρ,w',Ren.Le.refl _,g1,g2,.inr ⟨rfl,by simp only[execOp,h2,h5];exact Li g3⟩⟩
 case al T z=>
  split at hc<;>first|(cases hc;done)|skip
  obtain⟨c1,c2⟩:=bc hc
  have c1:=acG c1
  subst c1
  obtain⟨zs,z1,z2⟩:=AW (E:=E) (ρ:=ρ) c2
  obtain⟨h1,h2⟩:=aw hk
  rw[ac2,cT]at h1
  obtain⟨v,M',nx',ρ',w',z,g1,g2,g3,g4,g5⟩:=Wp (P:=P) h z1 z2 (fun e=>by rw[e]at h1;simp at h1) h2
  exact⟨v,M',nx',ρ',w',g1,g2,g3,.inl ⟨z,g4,by simp only[execOp];exact cS g5⟩⟩
 case box T x=>
  split at hc<;>first|(cases hc;done)|skip
  obtain⟨c1,c2⟩:=bc hc
  have c2:=acG c2
  subst c2
  obtain⟨u,zu,h1,h2,h3⟩:=cn s c1 hk
  obtain⟨v,M',nx',ρ',w',z,g1,g2,g3,g4,g5⟩:=YG (P:=P) hE h h1 h3
  exact⟨v,M',nx',ρ',w',g1,g2,g3,.inl ⟨z,g4,by simp only[execOp,h2];exact cS g5⟩⟩
 case bsl Ty sz len z ps xs=>
  split at hc<;>first|(cases hc;done)|skip
  rename_i t n qs
  obtain⟨hc,c5⟩:=bc hc
  obtain⟨hc,c4⟩:=bc hc
  obtain⟨hc,c3⟩:=bc hc
  obtain⟨c1,c2⟩:=bc hc
  have c1:=acG c1
  subst c1
  obtain⟨vs,h1,h2,h3⟩:=ye s c5 hk
  obtain⟨h4,h5⟩:=aw h2
  obtain⟨zs,z1,z2⟩:=PP (E:=E) (ρ:=ρ) c3
  obtain⟨v,M',nx',ρ',w',x,g1,g2,g3,g4,g5⟩:=YF (P:=P) hE h (qU c2) z1 z2 c4 h1 (by simpa using h3) (HX hE h4 h1) h5
  exact⟨v,M',nx',ρ',w',g1,g2,g3,.inl ⟨x,g4,by simp only[execOp,Lw];exact cS g5⟩⟩
 case mks Ty sz bytes z l c=>
  split at hc<;>first|(cases hc;done)|skip
  obtain⟨hc,c5⟩:=bc hc
  obtain⟨hc,c4⟩:=bc hc
  obtain⟨hc,c3⟩:=bc hc
  obtain⟨c1,c2⟩:=bc hc
  obtain⟨u,z1,h1,h2,h3⟩:=cn s c1 hk
  obtain⟨v,z2,h4,h5,h6⟩:=cn s c2 h3
  obtain⟨zs,y1,y2⟩:=AW (E:=E) (ρ:=ρ) c5
  obtain⟨v,M',nx',ρ',w',x,g1,g2,g3,g4,g5⟩:=XX (P:=P) h (qU c3) c4 y1 y2 h1 h4 h6
  exact⟨v,M',nx',ρ',w',g1,g2,g3,.inl ⟨x,g4,by simp only[execOp,h2,h5];exact cS g5⟩⟩
 case mkm=>
  split at hc<;>first|(cases hc;done)|skip
  obtain⟨v,M',nx',ρ',w',x,g1,g2,g3,g4,g5⟩:=XZ (P:=P) h hk (qV hc) (hint:=none) (fun v hv=>by cases hv)
  exact⟨v,M',nx',ρ',w',g1,g2,g3,.inl ⟨x,g4,by simp only[execOp,Option.map_none];exact cS g5⟩⟩
 case mu d et m k v=>
  split at hc<;>first|(cases hc;done)|skip
  all_goals
   obtain⟨hc,c6⟩:=bc hc
   obtain⟨hc,c5⟩:=bc hc
   obtain⟨hc,c4⟩:=bc hc
   obtain⟨hc,c3⟩:=bc hc
   obtain⟨c1,c2⟩:=bc hc
   obtain⟨u,z1,h1,h2,h3⟩:=cn s c1 hk
   obtain⟨v,z2,h4,h5,h6⟩:=cn s c2 h3
   obtain⟨q,z3,h7,h8,h9⟩:=cn s c3 h6
   obtain⟨M',w',g1,g2,g3⟩:=aa8 (P:=P) h (Nat.le_of_ble_eq_true c4) (qV c5) c6 h1 h4 h7 h9
   exact⟨.bad,M',nx,ρ,w',Ren.Le.refl _,g1,g2,.inr ⟨rfl,by simp only[execOp,h2,h5,h8];exact Li g3⟩⟩
 case rng m=>
  split at hc<;>first|(cases hc;done)|skip
  obtain⟨c1,c2⟩:=bc hc
  obtain⟨u,z1,h1,h2,h3⟩:=cn s c1 hk
  obtain⟨v,M',nx',ρ',w',x,g1,g2,g3,g4,g5⟩:=XB (P:=P) h (qV c2) h1 h3
  exact⟨v,M',nx',ρ',w',g1,g2,g3,.inl ⟨x,g4,by simp only[execOp,h2];exact cS g5⟩⟩
 case nxt it=>
  split at hc<;>first|(cases hc;done)|skip
  rename_i x' b
  obtain⟨c1,c2⟩:=bc hc
  have c2:b=false:=by simpa using c2
  subst c2
  obtain⟨u,z1,h1,h2,h3⟩:=cn s c1 hk
  obtain⟨v,M',w',z,g1,g2,g3,g4⟩:=XL (P:=P) (ty:=ty) h h1 h3
  exact⟨v,M',nx,ρ,w',Ren.Le.refl _,g1,g2,.inl ⟨z,g3,by simp only[execOp,h2];exact cS g4⟩⟩
 case app Ty sz bytes x y=>
  split at hc<;>first|(cases hc;done)|skip
  rename_i c
  obtain⟨callee,args,tas⟩:=c
  split at hc<;>first|(cases hc;done)|skip
  rename_i x' y' t u e1 e2 e3
  simp only at e1 e2 e3
  obtain rfl:=vC e2
  obtain rfl:=vC e3
  subst e1
  obtain⟨hc,c5⟩:=bc hc
  obtain⟨hc,c4⟩:=bc hc
  obtain⟨hc,c3⟩:=bc hc
  obtain⟨c1,c2⟩:=bc hc
  have c3:=acG c3
  subst c3
  obtain⟨u,z1,h1,h2,h3⟩:=cn s c1 hk
  obtain⟨v,z2,h4,h5,h6⟩:=cn s c2 h3
  obtain⟨r,M',nx',ρ',w',x,g1,g2,g3,g4,g5⟩:=YK (P:=P) (ty:=ty) hE h (qU c4) c5 h1 h4 h6
  refine⟨r,M',nx',ρ',w',g1,g2,g3,.inl ⟨x,g4,?_⟩⟩
  rw[dl,show[x',y'].toArray.map a.eval= #[z1,z2] by simp[h2,h5]]
  simp only[builtin]
  exact cS g5
 case del d et m k=>
  split at hc<;>first|(cases hc;done)|skip
  rename_i c
  obtain⟨callee,args,tas⟩:=c
  split at hc<;>first|(cases hc;done)|skip
  rename_i x' y' t t2 e1 e2 e3
  simp only at e1 e2 e3
  obtain rfl:=vC e2
  obtain rfl:=vC e3
  subst e1
  obtain⟨hc,c5⟩:=bc hc
  obtain⟨hc,c4⟩:=bc hc
  obtain⟨hc,c3⟩:=bc hc
  obtain⟨c1,c2⟩:=bc hc
  obtain⟨u,z1,h1,h2,h3⟩:=cn s c1 hk
  obtain⟨v,z2,h4,h5,h6⟩:=cn s c2 h3
  obtain⟨M',w',g1,g2,g3⟩:=Yx (P:=P) (t2:=t2) (ty:=ty) h (Nat.le_of_ble_eq_true c3) (qV c4) c5 h1 h4 h6
  refine⟨.tup [],M',nx,ρ,w',Ren.Le.refl _,g1,g2,.inl ⟨.tuple #[],by simp[den,aR],?_⟩⟩
  rw[dl,show[x',y'].toArray.map a.eval= #[z1,z2] by simp[h2,h5]]
  simp only[builtin]
  exact cS g3
end
end Go.Sy
