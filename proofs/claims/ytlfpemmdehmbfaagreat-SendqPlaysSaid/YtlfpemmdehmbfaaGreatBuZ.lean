/- Some texts as one. From a contract of the logic to a row: a law that answers 'true' and leaves all memory as it was; and the blocks of a world as a frame. No conditions: laws only. From a row's reading of its arguments to what can be read in memory, second part: all arguments at once; slices as lists; bytes. No conditions: laws only. The arguments of laws: plain shapes, and their ranges. No conditions. The arguments of chapter 23's laws: things done, as they lie in memory. No conditions. The law SendqPlays, walked. Conditions: its input lies in memory. From a row's reading of an argument to what can be read in memory, with the reach: each slice that is read has at most so many elements. No conditions: laws only. -/
import Derived.Test.YtlfpemmdehmbfaaGreatBuY
import Derived.ProofKit
import Derived.Below
import Derived.Test.YtlfpemmdehmbfaaGreatBuX
import Derived.Test.YtlfpemmdehmbfaaGreatBuD
import Derived.SizedLaws
namespace Go.Sl
open Go Go.RowKit Go.WideShapes Go.ChangeShapes
def heapF (W:World) (b:Nat):Option Obj:=W.heap[b]?
theorem heapF_in (W:World):In (heapF W) [] W:=⟨by simp,(fun _ h=>by cases h),fun _ _ h=>h,(fun _ h=>by cases h)⟩
theorem below_of {W W':World} (hi:In (heapF W) [] W') (hs:Same W W'):Below W.heap.size W W':=
 ⟨hs.os,hs.tape,hs.output,hs.size,fun k hk=>by
  have h1:heapF W k=some W.heap[k]:=by simp [heapF,hk]
  rw [hi.fr k _ h1]
  simp [hk]⟩
section
variable {H:Type} {enc:TypeId × Value→H} {P:Program}
theorem all_stay (hl:laidOutB P=true) {W W':World} {sp:Nat→Bool}:∀ (ts:List TypeId) (vs:List Value) (ds:List (DataW H)) (ps:List MemPlace),(∀ t ∈ ts,P.readableRec t=true∧t < P.types.size)→
 DataW.TrodAll enc P W 0 (fun _=>true) true ts vs ds ps→(∀ p ∈ ps,W.sameAt W' p)→(∀ p ∈ ps,sp p.block=true)→DataW.TrodAll enc P W' 0 sp true ts vs ds ps
 | [],[],[],ps,_,h,_,_=>h
 | t::ts,v::vs,d::ds,ps,ht,h,hs,hp=>by
   obtain ⟨p,q,h1,h2,rfl⟩:=h
   exact ⟨p,q,WideElems.Trod_stays hl (ht t (by simp)).1 (ht t (by simp)).2 h1 (fun x hx=>hs x (by simp [hx])) (fun x hx=>hp x (by simp [hx])),
    all_stay hl ts vs ds q (fun u hu=>ht u (by simp [hu])) h2 (fun x hx=>hs x (by simp [hx])) (fun x hx=>hp x (by simp [hx])),rfl⟩
 | [],[],_::_,_,_,h,_,_=>by cases h
 | [],_::_,_,_,_,h,_,_=>by cases h
 | _::_,[],_,_,_,h,_,_=>by cases h
 | _::_,_::_,[],_,_,h,_,_=>by cases h
theorem post_true {f:Func} {s:ChangeSpec} {apart fresh handsOn again:Bool} {W W':World} {args:Array Value} {ds gs:List (DataW H)} {before:List MemPlace} {tb:TypeId} (hl:laidOutB P=true)
 (hts:∀ t ∈ f.params.toList,P.readableRec t=true∧t < P.types.size) (hrt:f.resultTypes = #[tb]) (htb:P.underlying tb=some .bool) (hv:s.vars=[])
 (hW:DataW.Whole enc P f.params.toList s.vars apart W args.toList ds gs before) (hres:(s.fn H (ds++gs)).results=[.lit (.bool true)]) (harg:(s.fn H (ds++gs)).args=ds) (hvar:(s.fn H (ds++gs)).vars=[])
 (hb:Below W.heap.size W W'):s.post enc P f apart fresh handsOn again W args (.bool true) W':=by
 have hlt:=hW.lt
 have hW0:=hW
 obtain ⟨p,q,hA,hV,rfl,hz,hn⟩:=hW
 have hq:q=[]∧gs=[]:=by
  rw [hv] at hV
  cases gs with
  | nil=>exact ⟨hV,rfl⟩
  | cons _ _=>cases hV
 obtain ⟨rfl,rfl⟩:=hq
 simp only [List.append_nil] at *
 have hr:∀ (b:Nat) (sp:Nat→Bool) (hd:Bool),DataW.TrodAll enc P W' b sp hd f.resultTypes.toList ((Value.bool true).resultList f.resultTypes.size) [.lit (.bool true)] []:=fun b sp hd=>by
  rw [hrt]
  exact trodAll_mk1 (shut_bool htb true)
 have ha:∀ sp:Nat→Bool,(∀ x ∈ p,sp x.block=true)→DataW.TrodAll enc P W' 0 sp true f.params.toList args.toList ds p:=fun sp hsp=>
  all_stay hl _ _ _ _ hts hA (fun x hx=>hb.same (hlt x hx)) hsp
 have hvv:∀ sp:Nat→Bool,DataW.TrodVars enc P W' sp s.vars [] []:=fun sp=>by rw [hv]; rfl
 refine ⟨ds,[],p,[],p,[],hW0,?_,?_,?_,World.keptBut_mono (fun x hx=>⟨hx,.inr (.inl hx)⟩) (hb.frame (· ∈ p)),fun _=>⟨?_,[.lit (.bool true)]++ds,[],p,⟨[]++p,[],?_,hvv _,by simp,?_,?_⟩,fun x hx _=>hx⟩⟩
 · rw [List.append_nil,hres]; exact hr _ _ _
 · rw [List.append_nil,harg]; exact ha _ (fun x hx=>by simpa using hlt x hx)
 · rw [List.append_nil,hvar]; exact hvv _
 · exact ok_one hrt rfl (okWide_bool_mk htb true)
 · exact trodAll_append (ha _ (fun _ _=>rfl)) (hr _ _ _)
 · intro b off hx
   rw [hb.frozen (hlt _ hx)]
   exact hz b off hx
 · exact hn
end
end Go.Sl
namespace Go.Sl
open Go Go.RowKit Go.WideShapes Go.ChangeShapes
def Sh.val:Sh→Value→List Value→Prop
 | .struct _,v,cs=>v=.agg cs.toArray
 | .arr2 _,v,cs=>v=.agg cs.toArray
 | _,v,cs=>cs=[v]
section
variable {H:Type} {enc:TypeId × Value→H} {P:Program} {w:World}
theorem cell_noagg {r:Reach} {base:Nat} {t:TypeId} {v:Value} (h:Cell.okWide P w r base t v):v.cells.toList=[v]:=by
 cases v with
 | agg c=>
   exfalso
   unfold Cell.okWide at h
   split at h
   any_goals (rename_i he; cases he)
   unfold Cell.ok at h
   split at h
   any_goals (rename_i he; cases he)
   exact h
 | _=>rfl
theorem Sh.val_of {r:Reach} {base:Nat} (s:Sh) {t:TypeId} {v:Value} (hf:s.fits P t=true) (h:Value.okWide P w r base t v):s.val v v.cells.toList:=by
 unfold Value.okWide at h
 cases s with
 | arr2 k=>
   unfold Sh.fits at hf
   split at hf
   · rename_i n e hu
     rw [hu] at h
     obtain ⟨cs,rfl,_⟩:=h
     simp [Sh.val,Value.cells]
   · cases hf
 | struct fs=>
   unfold Sh.fits at hf
   split at hf
   · rename_i a hu
     rw [hu] at h
     obtain ⟨cs,rfl,_⟩:=h
     simp [Sh.val,Value.cells]
   · cases hf
 | int k=>
   unfold Sh.fits at hf
   split at hf
   · rename_i k' hu
     rw [hu] at h
     exact cell_noagg h
   · cases hf
 | bool=>
   unfold Sh.fits at hf
   split at hf
   · rename_i hu
     rw [hu] at h
     exact cell_noagg h
   · cases hf
 | str=>
   unfold Sh.fits at hf
   split at hf
   · rename_i hu
     rw [hu] at h
     exact cell_noagg h
   · cases hf
 | slice e=>
   unfold Sh.fits at hf
   split at hf
   · rename_i u hu
     rw [hu] at h
     exact cell_noagg h
   · cases hf
def Reps (w:World):List Sh→List Value→Prop
 | [],vs=>vs=[]
 | s::r,vs=>∃ v vr cs,vs=v::vr∧s.val v cs∧s.rep w cs∧cs.length=s.size∧Reps w r vr
def fitsL (P:Program):List Sh→List TypeId→Bool
 | [],[]=>true
 | s::r,t::ts=>s.fits P t && fitsL P r ts
 | _,_=>false
theorem Reps.of {rc:Reach} {base:Nat}:∀ (shs:List Sh) (ts:List TypeId) (vs:List Value) (ds:List (DataW H)) (ps:List MemPlace),fitsL P shs ts=true→(∀ (j:Nat) t v,ts[j]? = some t→vs[j]? = some v→Value.okWide P w rc base t v)→
 DataW.TrodAll enc P w 0 (fun _=>true) true ts vs ds ps→Reps w shs vs
 | [],[],vs,ds,ps,_,_,h=>by
   match vs,ds,h with
   | [],[],_=>rfl
   | [],_::_,h=>cases h
   | _::_,_,h=>cases h
 | [],_::_,_,_,_,hf,_,_=>by cases hf
 | _::_,[],_,_,_,hf,_,_=>by cases hf
 | s::r,t::ts,vs,ds,ps,hf,hv,h=>by
   unfold fitsL at hf
   rw [Bool.and_eq_true] at hf
   match vs,ds,h with
   | v::vs,d::ds,⟨p,q,h1,h2,h3⟩=>
     obtain ⟨fuel,hfuel⟩:=h1
     obtain ⟨hrep,hlen⟩:=Sh.rep_of s hf.1 hfuel
     exact ⟨v,vs,_,rfl,s.val_of hf.1 (hv 0 t v rfl rfl),hrep,hlen,Reps.of r ts vs ds q hf.2 (fun j t v h1 h2=>hv (j+1) t v (by simpa using h1) (by simpa using h2)) h2⟩
   | [],_,h=>cases h
   | _::_,[],h=>cases h
end
theorem lst_dec {α:Type} {w:World} {e:Sh} (cells:α→List Value) (Q:α→Prop) (dec:∀ x,x.length=e.size→e.rep w x→∃ a,x=cells a∧Q a):∀ (xs:List (List Value)),(∀ x ∈ xs,x.length=e.size∧e.rep w x)→∃ l:List α,xs=l.map cells∧∀ a ∈ l,Q a
 | [],_=>⟨[],rfl,fun _ h=>by cases h⟩
 | x::xs,h=>by
   obtain ⟨l,rfl,hl⟩:=lst_dec cells Q dec xs (fun y hy=>h y (by simp [hy]))
   obtain ⟨a,rfl,ha⟩:=dec x (h x (by simp)).1 (h x (by simp)).2
   exact ⟨a::l,rfl,fun b hb=>by
    rcases List.mem_cons.1 hb with rfl | hb
    · exact ha
    · exact hl b hb⟩
theorem Sh.lst {α:Type} {w:World} {e:Sh} (cells:α→List Value) (Q:α→Prop) (dec:∀ x,x.length=e.size→e.rep w x→∃ a,x=cells a∧Q a) {sa:Option Addr} {n c:Nat} (h:(Sh.slice e).rep w [.slice sa n c]) :
 ∃ l:List α,l.length=n∧Lst (heapF w) [] e.size (l.flatMap cells) sa n c∧(∀ a ∈ l,Q a)∧n≤c∧c≤maxLen:=by
 simp only [Sh.rep] at h
 obtain ⟨sa',n',c',he,hnc,hm,hnone,xs,hlen,hx,hcan⟩:=h
 cases he
 obtain ⟨l,rfl,hl⟩:=lst_dec cells Q dec xs hx
 have hsz:∀ a ∈ l,(cells a).length=e.size:=fun a ha=>(hx (cells a) (List.mem_map.2 ⟨a,ha,rfl⟩)).1
 have hfl:∀ (l:List α),(∀ a ∈ l,(cells a).length=e.size)→(l.flatMap cells).length=l.length * e.size:=fun l=>by
  induction l with
  | nil=>simp
  | cons a l ih=>intro h; rw [List.flatMap_cons,List.length_append,ih (fun b hb=>h b (by simp [hb])),h a (by simp),List.length_cons,Nat.succ_mul]; omega
 rw [List.length_map] at hlen
 refine ⟨l,hlen,⟨by rw [hfl l hsz,hlen],hnc,fun h0=>?_,hnone⟩,hl,hnc,hm⟩
 obtain ⟨b,off,cs,T,fr,rfl,hb,hj⟩:=hcan h0
 refine ⟨b,off,rfl,Can.fr (F:=heapF w) hb ?_⟩
 rw [List.flatten_eq_flatMap,List.flatMap_map] at hj
 exact hj
theorem byte_dec {w:World} (x:List Value) (_:x.length=(Sh.int .u8).size) (h:(Sh.int .u8).rep w x):∃ b:UInt8,x=[B b]∧True:=by
 simp only [Sh.rep] at h
 obtain ⟨n,rfl,h1,h2⟩:=h
 simp [IntKind.min,IntKind.max,IntKind.bits,IntKind.signed] at h1 h2
 refine ⟨UInt8.ofNat n.toNat,?_,trivial⟩
 unfold B
 congr 2
 rw [UInt8.toNat_ofNat']
 omega
theorem Sh.bytes {w:World} {sa:Option Addr} {n c:Nat} (h:(Sh.slice (.int .u8)).rep w [.slice sa n c]):∃ bs:List UInt8,bs.length=n∧Lst (heapF w) [] 1 (bs.map B) sa n c∧n≤c∧c≤maxLen:=by
 obtain ⟨l,h1,h2,_,h3⟩:=Sh.lst (fun b=>[B b]) (fun _=>True) byte_dec h
 have:l.flatMap (fun b=>[B b])=l.map B:=by
  clear h1 h2 h3
  induction l with
  | nil=>rfl
  | cons b l ih=>simp [ih]
 rw [this] at h2
 exact ⟨l,h1,h2,h3⟩
theorem TrodAll_len {H:Type} {enc:TypeId × Value→H} {P:Program} {w:World}:∀ {ts:List TypeId} {vs:List Value} {ds:List (DataW H)} {ps:List MemPlace},DataW.TrodAll enc P w 0 (fun _=>true) true ts vs ds ps→ts.length=ds.length
 | [],[],[],_,_=>rfl
 | _::_,_::_,_::_,_,⟨_,_,_,h,_⟩=>by simp [TrodAll_len h]
 | [],[],_::_,_,h=>by cases h
 | [],_::_,_,_,h=>by cases h
 | _::_,[],_,_,h=>by cases h
 | _::_,_::_,[],_,h=>by cases h
theorem len5 {α:Type _}:∀ {l:List α},5=l.length→∃ a0 a1 a2 a3 a4,l=[a0,a1,a2,a3,a4]
 | [a0,a1,a2,a3,a4],_=>⟨a0,a1,a2,a3,a4,rfl⟩
end Go.Sl
namespace Go.Sl
open Go
theorem rgU16 {n:Int} (h1:IntKind.u16.min≤n) (h2:n≤IntKind.u16.max):0≤n∧n < 65536:=by simp [IntKind.min,IntKind.max,IntKind.bits,IntKind.signed] at h1 h2; omega
theorem rgU32 {n:Int} (h1:IntKind.u32.min≤n) (h2:n≤IntKind.u32.max):0≤n∧n < 4294967296:=by simp [IntKind.min,IntKind.max,IntKind.bits,IntKind.signed] at h1 h2; omega
theorem shI {w:World} {k:IntKind} {v:Value} {x:List Value} (hv:(Sh.int k).val v x) (h:(Sh.int k).rep w x):∃ n,v=.int k n∧k.min≤n∧n≤k.max:=by
 simp only [Sh.rep] at h
 obtain ⟨n,rfl,h1,h2⟩:=h
 exact ⟨n,by simpa [Sh.val] using hv.symm,h1,h2⟩
theorem shL {w:World} {e:Sh} {α:Type} (cells:α→List Value) (Q:α→Prop) (hdec:∀ x,x.length=e.size→e.rep w x→∃ a,x=cells a∧Q a) {v:Value} {cs:List Value} (hv:(Sh.slice e).val v cs) (h:(Sh.slice e).rep w cs) :
 ∃ sa n c,∃ l:List α,v=.slice sa n c∧Lst (heapF w) [] e.size (l.flatMap cells) sa n c∧∀ a ∈ l,Q a:=by
 have h':=h
 simp only [Sh.rep] at h'
 obtain ⟨sa,n,c,rfl,_⟩:=h'
 obtain ⟨l,_,hl,hq,_⟩:=Sh.lst cells Q hdec h
 exact ⟨sa,n,c,l,by simpa [Sh.val] using hv.symm,hl,hq⟩
end Go.Sl
namespace Go.Proofs.YtlfpemmdehmbfaaGreat
open Go Go.Sl
structure Opx where
 o:Ov
 bs:List UInt8
 gs:List (Nat × Nat)
def Opx.cells (p:Opx):List Value:=p.o.cells
def Opx.Is (F:Nat→Option Obj) (p:Opx):Prop:=p.o.Is F p.bs p.gs
def opSh:Sh:=.struct [.int .i64,.int .u16,.struct [.int .u16,.bool,.slice (.int .u8)],.int .i64,.int .u32,.slice (.struct [.int .u16,.int .u16]),.int .u32,.int .i64]
theorem gap_dec {w:World} (x:List Value) (_:x.length=(Sh.struct [.int .u16,.int .u16]).size) (h:(Sh.struct [.int .u16,.int .u16]).rep w x):∃ g:Nat × Nat,x=gC g∧(g.1 < 65536∧g.2 < 65536):=by
 simp only [Sh.rep,Sh.repAll] at h
 obtain ⟨_,_,rfl,_,⟨a,rfl,ha1,ha2⟩,_,_,rfl,_,⟨b,rfl,hb1,hb2⟩,rfl⟩:=h
 have ha:=rgU16 ha1 ha2
 have hb:=rgU16 hb1 hb2
 refine ⟨(a.toNat,b.toNat),?_,by dsimp only; omega,by dsimp only; omega⟩
 unfold gC
 dsimp only
 rw [show ((a.toNat:Nat):Int)=a by omega,show ((b.toNat:Nat):Int)=b by omega]
 rfl
theorem op_dec {w:World} (x:List Value) (h:opSh.rep w x):∃ p:Opx,x=p.cells∧p.Is (heapF w):=by
 simp only [opSh,Sh.rep,Sh.repAll] at h
 obtain ⟨_,_,rfl,_,⟨kind,rfl,_⟩,_,_,rfl,_,⟨wait,rfl,hw1,hw2⟩,_,_,rfl,_,⟨_,_,rfl,_,⟨stream,rfl,hs1,hs2⟩,_,_,rfl,_,⟨ord,rfl⟩,_,_,rfl,_,⟨ba,bn,bc,rfl,hba⟩,rfl⟩,
  _,_,rfl,_,⟨life,rfl,_⟩,_,_,rfl,_,⟨by_,rfl,hb1,hb2⟩,_,_,rfl,_,⟨ga,gn,gc,rfl,hga⟩,_,_,rfl,_,⟨rwnd,rfl,hr1,hr2⟩,_,_,rfl,_,⟨path,rfl,_⟩,rfl⟩:=h
 obtain ⟨bs,hbl,hbs,_⟩:=Sh.bytes (w:=w) (sa:=ba) (n:=bn) (c:=bc) (by simp only [Sh.rep]; exact ⟨_,_,_,rfl,hba⟩)
 obtain ⟨gs,hgl,hgs,hgq,_⟩:=Sh.lst (w:=w) (sa:=ga) (n:=gn) (c:=gc) gC _ gap_dec (by simp only [Sh.rep,Sh.repAll]; exact ⟨_,_,_,rfl,hga⟩)
 exact ⟨⟨⟨kind,wait,stream,ord,ba,bn,bc,life,by_,ga,gn,gc,rwnd,path⟩,bs,gs⟩,rfl,hbs,hgs,rgU16 hw1 hw2,rgU16 hs1 hs2,rgU32 hb1 hb2,rgU32 hr1 hr2,hgq⟩
theorem ops_of {w:World} {v:Value} {cs:List Value} (hv:(Sh.slice opSh).val v cs) (h:(Sh.slice opSh).rep w cs):∃ ka kn kc,∃ l:List Opx,v=.slice ka kn kc∧Lst (heapF w) [] 10 (l.flatMap Opx.cells) ka kn kc∧∀ p ∈ l,p.Is (heapF w):=
 shL Opx.cells (fun p=>p.Is (heapF w)) (fun x _ h=>op_dec x h) hv h
end Go.Proofs.YtlfpemmdehmbfaaGreat
namespace Go.Proofs.YtlfpemmdehmbfaaGreat
open Go Go.Sl Go.Pth
theorem pv_small:∀ {l:List Ov} {n:Int},0≤n→vastG l n=false→∀ o ∈ l,o.bn≤32768∧o.kn≤50
 | [],_,_,_,o,ho=>by cases ho
 | q::r,n,hn,h,o,ho=>by
   rw [vastG] at h
   split at h
   · cases h
   · rename_i hc
     rcases List.mem_cons.1 ho with rfl | ho
     · omega
     · exact pv_small (by omega) h o ho
theorem pv_ops {F:Nat→Option Obj} {l:List Opx} (hop:∀ q ∈ l,q.Is F) (h:vast (l.map (·.o))=false):l.length≤120∧∀ q ∈ l,q.bs.length≤1000000000∧q.gs.length≤1000:=by
 unfold vast at h
 rw [Bool.or_eq_false_iff] at h
 obtain ⟨h1,h2⟩:=h
 have h1:=of_decide_eq_false h1
 rw [List.length_map] at h1
 refine ⟨by omega,fun q hq=>?_⟩
 have h3:=pv_small (Int.le_refl 0) h2 q.o (List.mem_map.2 ⟨q,hq,rfl⟩)
 have h4:=(hop q hq).bn
 have h5:=(hop q hq).kn
 omega
structure GPl where
 i:Nat
 now:Int
 s:SdM
 x:DsM
structure GPj where
 j:Nat
set_option maxHeartbeats 16000000 in
theorem plays_tr (F:Nat→Option Obj) (c:Cfg) (first rwnd now0:Int) (hr:0≤rwnd∧rwnd < 4294967296) (l:List Opx) (ka:Option Addr) (kn kc:Nat) (hl:Lst F [] 10 (l.flatMap Opx.cells) ka kn kc) (hop:∀ q ∈ l,q.Is F) :
 Tr Tryz.prog 3 [.agg c.cells.toArray,.int .u32 first,.int .u32 rwnd,.int .i64 now0,.slice ka kn kc].toArray F [] (fun v H=>v=.bool true∧H=[]):=by
 refine Tr.enter Tryz.func3 rfl Tryz.ntmps3 rfl (fun w0=>?_)
 have hkn:kn=l.length:=by have:=hl.len; rw [flat_len' Opx.cells 10 (fun _=>rfl)] at this; omega
 have hl':Lst F [] 10 ((l.map (·.o)).flatMap Ov.cells) ka kn kc:=by rw [List.flatMap_map]; exact hl
 unfold Cfg.cells
 refine SPY ?_; repeat' (first|refine ⟨fun hc=>?_,fun hc=>?_⟩|intro)
 rename_i b5
 refine WL.e rfl (Ef.callFR (by exact rfl) (.nil _) (fun hd=>vast_tr _ _ (l.map (·.o)) ka kn kc (hl'.mono (fun _ h=>addF_in hd h)))) ?_
 rintro _ _ ⟨rfl,rfl⟩
 cases hv:vast (l.map (·.o)) with
 | true=>
   refine SPY ?_; repeat' (first|refine ⟨fun hc=>?_,fun hc=>?_⟩|intro)
   refine WL.e rfl (Ef.callR (by exact rfl) (.nil _) (works_tr _)) ?_
   rintro _ _ ⟨rfl,rfl⟩
   refine SPY ?_; repeat' (first|refine ⟨fun hc=>?_,fun hc=>?_⟩|intro)
   exact Fin.retW (by exact rfl) resA (H':=[]) (fun _ h=>h.sublist (List.nil_sublist _)) ⟨rfl,rfl⟩
 | false=>
 have hsm:=pv_ops hop hv
 refine SPY ?_; repeat' (first|refine ⟨fun hc=>?_,fun hc=>?_⟩|intro)
 refine WL.e rfl (Ef.call (by exact rfl) (.nil _) (snew_tr _ c first rwnd now0 hr.1)) ?_
 rintro _ _ ⟨_,hqs,rfl⟩
 obtain ⟨hno,rfl,rfl⟩ | ⟨hmay,s0,hs0,rfl,rfl,hS0⟩:=hqs
 · dsimp only [tup]
   refine SPY ?_; repeat' (first|refine ⟨fun hc=>?_,fun hc=>?_⟩|intro)
   refine WL.e rfl (Ef.call (by exact rfl) (.nil _) (dsnew_tr _ c first rwnd now0 hr.1)) ?_
   rintro _ _ ⟨_,hqx,rfl⟩
   obtain ⟨_,rfl,rfl⟩ | ⟨hmay,_⟩:=hqx
   · dsimp only [tup]
     refine SPY ?_; repeat' (first|refine ⟨fun hc=>?_,fun hc=>?_⟩|intro)
     all_goals try (exfalso; simp at hc; done)
     refine WL.e rfl (Ef.callR (by exact rfl) (.nil _) (works_tr _)) ?_
     rintro _ _ ⟨rfl,rfl⟩
     refine SPY ?_; repeat' (first|refine ⟨fun hc=>?_,fun hc=>?_⟩|intro)
     exact Fin.retW (by exact rfl) resA (H':=[]) (fun _ h=>h.sublist (List.nil_sublist _)) ⟨rfl,rfl⟩
   · rw [hno] at hmay; cases hmay
 dsimp only [tup]
 refine SPY ?_; repeat' (first|refine ⟨fun hc=>?_,fun hc=>?_⟩|intro)
 refine WL.e rfl (Ef.call (by exact rfl) (.nil _) (dsnew_tr _ c first rwnd now0 hr.1)) ?_
 rintro _ _ ⟨_,hqx,rfl⟩
 obtain ⟨hno,_⟩ | ⟨_,x0,hx0,rfl,rfl,hX0⟩:=hqx
 · rw [hno] at hmay; cases hmay
 have hm0:Snd.MarkOk s0.S:=by rw [hS0]; exact Snd.newS_mark _ _ _ _ _ _ _
 have hX0:x0.S=s0.S:=hX0.trans hS0.symm
 obtain ⟨R,hR⟩:∃ R,s0.R=R:=⟨_,rfl⟩
 obtain ⟨Rx,hRx⟩:∃ R,x0.R=R:=⟨_,rfl⟩
 rw [hR,hRx]
 dsimp only [tup]
 refine SPY ?_; repeat' (first|refine ⟨fun hc=>?_,fun hc=>?_⟩|intro)
 all_goals try (exfalso; simp at hc; done)
 have e0:0≤kn:=Nat.zero_le _
 refine W.loop (G:=GPl) (fun g=>[(4,.slice ka kn kc),(5,ptr b5),(11,ptr R),(13,ptr Rx),(15,.int .i64 g.now),(16,.int .i64 g.i)])
  (fun g=>(b5,.cells c.cells.toArray 23 (0,0))::(g.s.H++g.x.H))
  (fun g=>g.i≤kn∧g.s.ok g.i∧g.x.ok g.i∧g.s.R=R∧g.x.R=Rx∧g.x.S=g.s.S∧Snd.MarkOk g.s.S) (fun g=>kn - g.i) ⟨0,now0,s0,x0⟩ ⟨e0,hs0,hx0,hR,hRx,hX0,hm0⟩ envA (fun _ h=>?_) ?_
 · unfold Cfg.cells
   exact In.of_sub (.pick (.right (.right .here)) (.pickL (L:=s0.H) (.right .here) (.last (L:=x0.H) .here))) h
 clear hs0 hx0 hR hRx hX0 hm0 hS0
 rintro ⟨i,now,s,x⟩ ⟨hi,hs,hx,hsR,hxR,hxS,hmk⟩
 dsimp only at hi hs hx hsR hxR hxS hmk ⊢
 subst hsR hxR
 unfold Cfg.cells
 refine SPQ ?_; repeat' (first|refine ⟨fun hc=>?_,fun hc=>?_⟩|intro)
 cases hc:decide ((i:Int) < kn) with
 | false=>
   refine SPY ?_; repeat' (first|refine ⟨fun hc=>?_,fun hc=>?_⟩|intro)
   refine WL.e rfl (Ef.callR (by exact rfl) (.nil _) (works_tr _)) ?_
   rintro _ _ ⟨rfl,rfl⟩
   refine SPY ?_; repeat' (first|refine ⟨fun hc=>?_,fun hc=>?_⟩|intro)
   exact Fin.retW (by exact rfl) resA (H':=[]) (fun _ h=>h.sublist (List.nil_sublist _)) ⟨rfl,rfl⟩
 | true=>
 have hi':i < kn:=by have:=of_decide_eq_true hc; omega
 obtain ⟨q,hq⟩:∃ q,l[i]? = some q:=⟨l[i]'(by omega),List.getElem?_eq_getElem _⟩
 obtain ⟨ho1,ho2⟩:=hsm.2 q (List.mem_of_getElem? hq)
 have ho:=hop q (List.mem_of_getElem? hq)
 obtain ⟨sb,so,hka,hcan⟩:=hl.el (cells:=Opx.cells) (fun _=>rfl) hq (by omega)
 have hia:0≤(i:Int)∧(i:Int) < kn:=by omega
 have hnil:∀ {H:HL} (w:World),In F H w→In F [] w:=fun w h=>h.sublist (List.nil_sublist _)
 rw [hka]
 unfold Opx.cells at hcan
 have hcw:=hcan.sub 1 1
 have cx1:Sl.Can F x.H x.R (0+1) [ptr x.f.R]:=(x.cans (F:=F)).2.1
 refine SPY ?_; repeat' (first|refine ⟨fun hc=>?_,fun hc=>?_⟩|intro)
 obtain ⟨now',hnow'⟩:∃ z,IntKind.i64.wrap (now+IntKind.i64.wrap q.o.wait)=z:=⟨_,rfl⟩
 have hnr:now'≤9223372036854775807:=by rw [←hnow']; exact Snd.i64_most _
 rw [hnow']
 clear hcw
 refine WL.e rfl (Ef.callR (c:=x.f.H) (by exact rfl) (.skip _ (.skipL s.H x.flP.sub)) (rcum_tr _ x.f)) ?_
 rintro _ _ ⟨rfl,rfl⟩
 clear cx1
 obtain ⟨cum,hcum⟩:∃ cum,x.f.c=cum:=⟨_,rfl⟩
 rw [hcum]
 refine SPZ ?_; repeat' (first|refine ⟨fun hc=>?_,fun hc=>?_⟩|intro)
 refine W.draw [] (by kernel_rfl) (by kernel_rfl) (fun _ h=>hnil _ h) ?_
 refine SPZ ?_; repeat' (first|refine ⟨fun hc=>?_,fun hc=>?_⟩|intro)
 refine WD.e rfl (Ef.callW (c:=s.H) (by exact rfl) (.last (.there .here)) (fun F' hF=>does_tr F' s hs (by omega) q.o q.bs q.gs (ho.mono (fun w h=>hnil _ (hF w h))) cum now' hnr ho1 ho2)) ?_
 rintro _ _ ⟨_,⟨t,s',ht,hs',hR',hS',rfl,rfl⟩,rfl⟩
 refine ⟨.inr (fun _ h=>hnil _ h),?_⟩
 refine WD.weak (H':=(b5,.cells c.cells.toArray 23 (0,0))::(t.H++(s'.H++x.H))) (fun _ h=>by
  rw [List.append_assoc] at h
  exact In.of_sub (.pick (.right (.right .here)) (.last .all)) h) ?_
 obtain ⟨d,hd⟩:∃ d,Snd.did s.S (q.o.dg q.bs q.gs) cum now'=d:=⟨_,rfl⟩
 have hmk':=Snd.did_mark hs.pl hmk (q.o.dg q.bs q.gs) cum now'
 have hsh:=Snd.did_short hs.pl (q.o.dg q.bs q.gs) cum now'
 rw [hd] at ht hS' hmk' hsh ⊢
 unfold Cfg.cells
 refine SPZ ?_; repeat' (first|refine ⟨fun hc=>?_,fun hc=>?_⟩|intro)
 refine WD.e rfl (Ef.callW (c:=x.H) (by exact rfl) (.last (.there (.right (.right .all)))) (fun F' hF=>meant_tr F' x hx (by omega) (by rw [hxS]; exact hmk) q.o q.bs q.gs (ho.mono (fun w h=>hnil _ (hF w h))) cum now' hnr ho1 ho2)) ?_
 rintro _ _ ⟨_,⟨u,x',hu,hx',hRx',hSx',rfl,rfl⟩,rfl⟩
 refine ⟨.inr (fun _ h=>hnil _ h),?_⟩
 rw [hxS,hd] at hu hSx' ⊢
 refine WD.weak (H':=(b5,.cells c.cells.toArray 23 (0,0))::(t.H++(u.H++(s'.H++x'.H)))) (fun _ h=>by
  rw [List.append_assoc] at h
  exact In.of_sub (.pick (.right (.right .here)) (.pickL (L:=t.H) (.right (.right .here)) (.pickL (L:=u.H) .here (.pickL (L:=s'.H) (.right .here) (.last (L:=x'.H) .here))))) h) ?_
 unfold Cfg.cells
 rw [←hR',←hRx']
 refine SPZ ?_; repeat' (first|refine ⟨fun hc=>?_,fun hc=>?_⟩|intro)
 refine WD.e rfl (Ef.callR (by exact rfl) (.all _) (sameT_tr _ _ t u d (ToldIs.of ht (fun _ h=>h.sublist (.cons _ (List.sublist_append_left _ _)))) (ToldIs.of hu (fun _ h=>h.sublist (.cons _ ((List.sublist_append_left _ _).trans (List.sublist_append_right _ _))))) hsh.1 hsh.2.1 hsh.2.2)) ?_
 rintro _ _ ⟨rfl,rfl⟩
 refine ⟨.inr (fun _ h=>hnil _ h),?_⟩
 refine SPZ ?_; repeat' (first|refine ⟨fun hc=>?_,fun hc=>?_⟩|intro)
 refine WD.e rfl (Ef.callR (c:=s'.H) (by exact rfl) (.last (.there (.right (.right .here)))) (sempty_tr _ s' hs')) ?_
 rintro _ _ ⟨rfl,rfl⟩
 refine ⟨.inr (fun _ h=>hnil _ h),?_⟩
 refine SPZ ?_; repeat' (first|refine ⟨fun hc=>?_,fun hc=>?_⟩|intro)
 refine WD.e rfl (Ef.callR (c:=x'.H) (by exact rfl) (.last (.there (.right (.right (.right .all))))) (dempty_tr _ x' hx')) ?_
 rintro _ _ ⟨rfl,rfl⟩
 refine ⟨.inr (fun _ h=>hnil _ h),?_⟩
 rw [hS',hSx']
 refine SPY ?_; repeat' (first|refine ⟨fun hc=>?_,fun hc=>?_⟩|intro)
 · exfalso; simp at hc
 refine WD.e rfl (Ef.callR (c:=s'.H) (by exact rfl) (.last (.there (.right (.right .here)))) (sroom_tr _ s')) ?_
 rintro _ _ ⟨rfl,rfl⟩
 refine ⟨.inr (fun _ h=>hnil _ h),?_⟩
 refine SPZ ?_; repeat' (first|refine ⟨fun hc=>?_,fun hc=>?_⟩|intro)
 refine WD.e rfl (Ef.callR (c:=x'.H) (by exact rfl) (.last (.there (.right (.right (.right .all))))) (droom_tr _ x')) ?_
 rintro _ _ ⟨rfl,rfl⟩
 refine ⟨.inr (fun _ h=>hnil _ h),?_⟩
 rw [hS',hSx']
 refine SPY ?_; repeat' (first|refine ⟨fun hc=>?_,fun hc=>?_⟩|intro)
 · exfalso; simp at hc
 refine WL.e rfl (Ef.callR (c:=s'.H) (by exact rfl) (.last (.there (.right (.right .here)))) (when_tr _ s' hs' (by omega))) ?_
 rintro _ _ ⟨rfl,rfl⟩
 rw [hS']
 dsimp only [tup]
 refine SPY ?_; repeat' (first|refine ⟨fun hc=>?_,fun hc=>?_⟩|intro)
 refine WL.e rfl (Ef.callR (c:=x'.H) (by exact rfl) (.last (.there (.right (.right (.right .all))))) (dswhen_tr _ x' hx' (by omega))) ?_
 rintro _ _ ⟨rfl,rfl⟩
 rw [hSx']
 dsimp only [tup]
 refine SPY ?_; repeat' (first|refine ⟨fun hc=>?_,fun hc=>?_⟩|intro)
 all_goals try (exfalso; simp at hc; done)
 rw [←hka]
 refine W.loop (G:=GPj) (fun g=>[(4,.slice ka kn kc),(5,ptr b5),(11,ptr s'.R),(13,ptr x'.R),(15,.int .i64 now'),(16,.int .i64 i),(22,.int .i64 g.j)])
  (fun _=>(b5,.cells c.cells.toArray 23 (0,0))::(s'.H++x'.H)) (fun g=>g.j≤4) (fun g=>4 - g.j) ⟨0⟩ (Nat.zero_le _) envA (fun _ h=>?_) ?_
 · exact In.of_sub (.pick .here (.last (.right (.right .all)))) h
 rintro ⟨j⟩ hj
 dsimp only at hj ⊢
 unfold Cfg.cells
 refine SPQ ?_; repeat' (first|refine ⟨fun hc=>?_,fun hc=>?_⟩|intro)
 cases hc4:decide ((j:Int) < 4) with
 | false=>
   refine SPY ?_; repeat' (first|refine ⟨fun hc=>?_,fun hc=>?_⟩|intro)
   rw [i64_succ (by omega)]
   exact Fin.round ⟨i+1,now',s',x'⟩ ⟨hi',hs',hx',rfl,rfl,hSx'.trans hS'.symm,by dsimp only; rw [hS']; exact hmk'⟩ envA (fun _ h=>h) (by dsimp only; omega)
 | true=>
 have hj4:j < 4:=by have:=of_decide_eq_true hc4; omega
 refine SPY ?_; repeat' (first|refine ⟨fun hc=>?_,fun hc=>?_⟩|intro)
 refine WL.e rfl (Ef.callR (c:=s'.H) (by exact rfl) (.last (.there .here)) (spath_tr _ s' hs' j)) ?_
 rintro _ _ ⟨rfl,rfl⟩
 rw [hS']
 unfold pathV
 dsimp only [tup]
 refine SPY ?_; repeat' (first|refine ⟨fun hc=>?_,fun hc=>?_⟩|intro)
 refine WL.e rfl (Ef.callR (c:=x'.H) (by exact rfl) (.last (.there (.right .all))) (dpath_tr _ x' hx' j)) ?_
 rintro _ _ ⟨rfl,rfl⟩
 rw [hSx']
 unfold pathV
 dsimp only [tup]
 refine SPY ?_; repeat' (first|refine ⟨fun hc=>?_,fun hc=>?_⟩|intro)
 all_goals try (exfalso; simp at hc; done)
 rw [i64_succ (by omega)]
 exact Fin.round ⟨j+1⟩ hj4 envA (fun _ h=>h) (by dsimp only; omega)
end Go.Proofs.YtlfpemmdehmbfaaGreat
namespace Go.Sl
open Go
mutual
def Sh.repS (w:World):Sh→List Value→Prop
 | .int k,cs=>(Sh.int k).rep w cs
 | .bool,cs=>Sh.bool.rep w cs
 | .str,cs=>Sh.str.rep w cs
 | .slice e,cs=>∃ sa n c,cs=[.slice sa n c]∧n≤c∧c≤maxLen∧n≤reachBytes∧(sa=none→n=0)∧∃ xs:List (List Value),xs.length=n∧(∀ x ∈ xs,x.length=e.size∧e.repS w x)∧
    (0 < n→∃ b off cells T fr,sa=some ⟨b,off,none⟩∧w.heap[b]? = some (.cells cells T fr)∧∀ j u,xs.flatten[j]? = some u→cells[off+j]? = some u)
 | .struct fs,cs=>Sh.repSAll w fs cs
 | .arr2 k,cs=>(Sh.arr2 k).rep w cs
def Sh.repSAll (w:World):List Sh→List Value→Prop
 | [],cs=>cs=[]
 | s::r,cs=>∃ c1 c2,cs=c1++c2∧c1.length=s.size∧s.repS w c1∧Sh.repSAll w r c2
end
mutual
def Sh.byB (P:Program):Sh→TypeId→Bool
 | .slice e,t=>match P.underlying t with | some (.slice u)=>e.byB P u && Nat.blt 0 (P.bytesOf u) | _=>false
 | .struct fs,t=>match P.underlying t with | some (.struct a)=>Sh.byBAll P fs a.toList | _=>false
 | _,_=>true
def Sh.byBAll (P:Program):List Sh→List Field→Bool
 | s::r,f::fs=>s.byB P f.type && Sh.byBAll P r fs
 | _,_=>true
end
section
variable {H:Type} {enc:TypeId × Value→H} {P:Program} {w:World} {base:Nat} {spare:Nat→Bool} {held:Bool}
theorem weights_all {e:TypeId}:∀ {ds:List (DataW H)} {d:DataW H},d ∈ ds→∀ n ∈ d.weights P e,n ∈ DataW.weightsAll P e ds
 | x::ds,d,hd,n,hn=>by
   simp only [DataW.weightsAll,List.mem_append]
   rcases List.mem_cons.1 hd with rfl | hd
   · exact .inl hn
   · exact .inr (weights_all hd n hn)
mutual
theorem Sh.repS_of:∀ (s:Sh) {t:TypeId} {cs:List Value} {x:DataW H × List MemPlace} {fuel:Nat},s.fits P t=true→s.byB P t=true→(∀ n ∈ x.1.weights P t,n≤reachBytes)→DataW.trod enc P w base spare held fuel t cs=some x→s.repS w cs∧cs.length=s.size
 | .int k,t,cs,x,fuel,hf,_,_,h=>by
   obtain ⟨h1,h2⟩:=Sh.rep_of _ hf h
   exact ⟨by unfold Sh.repS; exact h1,h2⟩
 | .bool,t,cs,x,fuel,hf,_,_,h=>by
   obtain ⟨h1,h2⟩:=Sh.rep_of _ hf h
   exact ⟨by unfold Sh.repS; exact h1,h2⟩
 | .str,t,cs,x,fuel,hf,_,_,h=>by
   obtain ⟨h1,h2⟩:=Sh.rep_of _ hf h
   exact ⟨by unfold Sh.repS; exact h1,h2⟩
 | .slice e,t,cs,x,fuel,hf,hby,hw,h=>by
   unfold Sh.fits at hf
   unfold Sh.byB at hby
   split at hf
   · rename_i u hu
     rw [hu] at hby
     simp only [Bool.and_eq_true] at hf hby
     have hc:=Nat.eq_of_beq_eq_true hf.1.2
     have hpos:0 < e.size:=Nat.le_of_ble_eq_true hf.2
     have hbp:0 < P.bytesOf u:=Nat.le_of_ble_eq_true hby.2
     refine ⟨?_,?_⟩
     · unfold Sh.repS
       rcases Go.Deep.open_slice hu h with ⟨rfl,_⟩ | ⟨a,len,cap,m,n,D,Pl,rfl,hb,hl,hm,hmm,hxx,hx⟩
       · exact ⟨none,0,0,rfl,Nat.le_refl _,by simp [maxLen],Nat.zero_le _,fun _=>rfl,[],rfl,by simp,fun h=>by omega⟩
       · have hlm:len≤m:=by rw [hmm]; split <;> omega
         subst hxx
         have hreach:len≤reachBytes:=by
          have h1:=hw ((((List.range len).map D).length+((List.range (m - len)).map fun j=>D (len+j)).length) * P.bytesOf u) (by simp only [DataW.weights,hu]; exact List.mem_cons_self ..)
          simp only [List.length_map,List.length_range] at h1
          have h2:len≤(len+(m - len)) * P.bytesOf u:=Nat.le_trans (Nat.le_add_right _ _) (Nat.le_mul_of_pos_right _ hbp)
          exact Nat.le_trans h2 h1
         have hel:∀ i,i < len→∃ y:List Value,w.cells? base (a.add (i * e.size)) e.size=some y∧e.repS w y∧y.length=e.size:=fun i hi=>by
          obtain ⟨y,h1,h2⟩:=hx i (by omega)
          rw [hc] at h1
          refine ⟨y,h1,Sh.repS_of e hf.1.1 hby.1 (fun n hn=>?_) h2⟩
          refine hw n ?_
          simp only [DataW.weights,hu]
          refine List.mem_cons_of_mem _ (List.mem_append_left _ (weights_all (List.mem_map.2 ⟨i,List.mem_range.2 hi,rfl⟩) n hn))
         have hxs:∃ xs:List (List Value),xs.length=len∧∀ i y,xs[i]? = some y→w.cells? base (a.add (i * e.size)) e.size=some y∧e.repS w y∧y.length=e.size:=by
          clear hx hl hm hmm hlm h hreach hw
          induction len with
          | zero=>exact ⟨[],rfl,by simp⟩
          | succ k ih=>
            obtain ⟨xs,h1,h2⟩:=ih (fun i hi=>hel i (by omega))
            obtain ⟨y,hy⟩:=hel k (by omega)
            refine ⟨xs++[y],by simp [h1],fun i z hz=>?_⟩
            by_cases hi:i < k
            · rw [List.getElem?_append_left (by omega)] at hz
              exact h2 i z hz
            · rw [List.getElem?_append_right (by omega)] at hz
              have hik:i=k:=by
               have:=(List.getElem?_eq_some_iff.1 hz).1
               simp at this
               omega
              subst hik
              rw [h1] at hz
              simp at hz
              subst hz
              exact hy
         obtain ⟨xs,hxl,hxe⟩:=hxs
         refine ⟨some a,len,cap,rfl,hl,hm,hreach,(fun h=>by cases h),xs,hxl,fun y hy=>?_,fun h0=>?_⟩
         · obtain ⟨i,hi⟩:=List.mem_iff_getElem?.1 hy
           have:=hxe i y hi
           exact ⟨this.2.2,this.2.1⟩
         · have hcell:∀ j u,xs.flatten[j]? = some u→w.cell? (a.add j)=some u:=fun j u hu=>by
            obtain ⟨i,k,y,h1,h2,h3,rfl⟩:=flatten_get (n:=0) (sz:=e.size) xs (fun y hy=>by
             obtain ⟨i,hi⟩:=List.mem_iff_getElem?.1 hy
             exact (hxe i y hi).2.2) j u hu
            obtain ⟨_,_,hcs⟩:=World.cells?_some (hxe i y h1).1
            have:=hcs k h3
            rw [h2] at this
            rw [←this]
            congr 1
            unfold Addr.add
            by_cases e1:i * e.size=0 <;> by_cases e2:k=0 <;> simp [e1,e2]
            omega
           obtain ⟨y0,hy0⟩:∃ y,xs[0]? = some y:=⟨xs[0]'(by omega),by simp⟩
           have hy0l:=(hxe 0 y0 hy0).2.2
           obtain ⟨v0,hv0⟩:∃ v,xs.flatten[0]? = some v:=by
            cases xs with
            | nil=>simp at hy0
            | cons z zs=>
              simp at hy0
              subst hy0
              cases z with
              | nil=>simp at hy0l; omega
              | cons v _=>exact ⟨v,by simp⟩
           have h00:=hcell 0 v0 hv0
           have ha0:a.add 0=a:=by simp [Addr.add]
           rw [ha0] at h00
           obtain ⟨cells,T,fr,hae,hh,_⟩:=cell_spot h00
           refine ⟨a.block,a.off,cells,T,fr,by rw [←hae],hh,fun j u hu=>?_⟩
           have:=hcell j u hu
           rw [hae,add_lit,cell_of_row w _ _ _ _ _ hh] at this
           exact this
     · rcases Go.Deep.open_slice hu h with ⟨rfl,_⟩ | ⟨a,len,cap,m,n,D,Pl,rfl,_⟩ <;> simp [Sh.size]
   · cases hf
 | .struct fs,t,cs,x,fuel,hf,hby,hw,h=>by
   unfold Sh.fits at hf
   unfold Sh.byB at hby
   split at hf
   · rename_i a hu
     rw [hu] at hby
     simp only [Bool.and_eq_true] at hf
     obtain ⟨xs,n,_,hx0,hl,hxl,hx⟩:=DataW.trod_struct hu h
     have hc:=Nat.eq_of_beq_eq_true hf.2
     have:=Sh.repSAll_of fs (off:=0) (n:=n) (cs:=cs) hf.1 hby (fun i f hfm=>by
      have h1:=hx i f (by simpa using hfm)
      have hil:i < xs.length:=by rw [hxl]; have:=(List.getElem?_eq_some_iff.1 hfm).1; simpa using this
      rw [List.getElem?_eq_getElem hil] at h1
      refine ⟨_,h1,fun n hn=>hw n ?_⟩
      subst hx0
      simp only [DataW.weights,hu]
      exact DataW.weights_mem_each (j:=i) (t:=f.type) (d:=xs[i].1) (by rw [List.getElem?_map,hfm]; rfl) (by rw [List.getElem?_map,List.getElem?_eq_getElem hil]; rfl) n hn) (by rw [hl,hc]; simp)
     refine ⟨by unfold Sh.repS; simpa using this,by rw [hl,hc]; simp [Sh.size]⟩
   · cases hf
 | .arr2 k,t,cs,x,fuel,hf,_,_,h=>by
   obtain ⟨h1,h2⟩:=Sh.rep_of _ hf h
   exact ⟨by unfold Sh.repS; exact h1,h2⟩
theorem Sh.repSAll_of:∀ (fs:List Sh) {fields:List Field} {off n:Nat} {cs:List Value},Sh.fitsAll P fs fields off=true→Sh.byBAll P fs fields=true→
 (∀ (i:Nat) f,fields[i]? = some f→∃ x,DataW.trod enc P w base spare held n f.type ((cs.drop f.offset).take (P.cellsOf f.type))=some x∧∀ k ∈ x.1.weights P f.type,k≤reachBytes)→
 cs.length=off+Sh.sizes fs→Sh.repSAll w fs (cs.drop off)
 | [],fields,off,n,cs,hf,_,h,hl=>by
   unfold Sh.repSAll
   simp [Sh.sizes] at hl
   exact List.drop_eq_nil_of_le (by omega)
 | s::r,[],off,n,cs,hf,_,h,hl=>by simp [Sh.fitsAll] at hf
 | s::r,f::fs,off,n,cs,hf,hby,h,hl=>by
   unfold Sh.fitsAll at hf
   unfold Sh.byBAll at hby
   simp only [Bool.and_eq_true] at hf hby
   obtain ⟨⟨⟨hfit,hoff⟩,hsz⟩,hrest⟩:=hf
   have hoff:=Nat.eq_of_beq_eq_true hoff
   have hsz:=Nat.eq_of_beq_eq_true hsz
   obtain ⟨x,hx,hxw⟩:=h 0 f rfl
   rw [hoff,hsz] at hx
   obtain ⟨h1,h2⟩:=Sh.repS_of s hfit hby.1 hxw hx
   unfold Sh.repSAll
   refine ⟨(cs.drop off).take s.size,cs.drop (off+s.size),?_,h2,h1,Sh.repSAll_of r hrest hby.2 (fun i g hg=>h (i+1) g (by simpa using hg)) (by simp [Sh.sizes] at hl; omega)⟩
   rw [←List.drop_drop,List.take_append_drop]
end
end
mutual
theorem Sh.rep_S {w:World}:∀ (s:Sh) {cs:List Value},s.repS w cs→s.rep w cs
 | .int k,cs,h=>by unfold Sh.repS at h; exact h
 | .bool,cs,h=>by unfold Sh.repS at h; exact h
 | .str,cs,h=>by unfold Sh.repS at h; exact h
 | .slice e,cs,h=>by
   unfold Sh.repS at h
   obtain ⟨sa,n,c,h1,h2,h3,_,h4,xs,h5,h6,h7⟩:=h
   unfold Sh.rep
   exact ⟨sa,n,c,h1,h2,h3,h4,xs,h5,fun x hx=>⟨(h6 x hx).1,Sh.rep_S e (h6 x hx).2⟩,h7⟩
 | .struct fs,cs,h=>by
   unfold Sh.repS at h
   unfold Sh.rep
   exact Sh.rep_SAll fs h
 | .arr2 k,cs,h=>by unfold Sh.repS at h; exact h
theorem Sh.rep_SAll {w:World}:∀ (fs:List Sh) {cs:List Value},Sh.repSAll w fs cs→Sh.repAll w fs cs
 | [],cs,h=>by unfold Sh.repSAll at h; unfold Sh.repAll; exact h
 | s::r,cs,h=>by
   unfold Sh.repSAll at h
   unfold Sh.repAll
   obtain ⟨c1,c2,h1,h2,h3,h4⟩:=h
   exact ⟨c1,c2,h1,h2,Sh.rep_S s h3,Sh.rep_SAll r h4⟩
end
def RepsS (w:World):List Sh→List Value→Prop
 | [],vs=>vs=[]
 | s::r,vs=>∃ v vr cs,vs=v::vr∧s.val v cs∧s.repS w cs∧cs.length=s.size∧RepsS w r vr
def byL (P:Program):List Sh→List TypeId→Bool
 | s::r,t::ts=>s.byB P t && byL P r ts
 | _,_=>true
section
variable {H:Type} {enc:TypeId × Value→H} {P:Program} {w:World}
theorem RepsS.of {rc:Reach} {base:Nat}:∀ (shs:List Sh) (ts:List TypeId) (vs:List Value) (ds:List (DataW H)) (ps:List MemPlace),fitsL P shs ts=true→byL P shs ts=true→(∀ n ∈ DataW.weightsEach P ts ds,n≤reachBytes)→(∀ (j:Nat) t v,ts[j]? = some t→vs[j]? = some v→Value.okWide P w rc base t v)→
 DataW.TrodAll enc P w 0 (fun _=>true) true ts vs ds ps→RepsS w shs vs
 | [],[],vs,ds,ps,_,_,_,_,h=>by
   match vs,ds,h with
   | [],[],_=>rfl
   | [],_::_,h=>cases h
   | _::_,_,h=>cases h
 | [],_::_,_,_,_,hf,_,_,_,_=>by cases hf
 | _::_,[],_,_,_,hf,_,_,_,_=>by cases hf
 | s::r,t::ts,vs,ds,ps,hf,hby,hw,hv,h=>by
   unfold fitsL at hf
   unfold byL at hby
   rw [Bool.and_eq_true] at hf hby
   match vs,ds,h with
   | v::vs,d::ds,⟨p,q,h1,h2,h3⟩=>
     obtain ⟨fuel,hfuel⟩:=h1
     simp only [DataW.weightsEach,List.mem_append] at hw
     obtain ⟨hrep,hlen⟩:=Sh.repS_of s hf.1 hby.1 (fun n hn=>hw n (.inl hn)) hfuel
     exact ⟨v,vs,_,rfl,s.val_of hf.1 (hv 0 t v rfl rfl),hrep,hlen,RepsS.of r ts vs ds q hf.2 hby.2 (fun n hn=>hw n (.inr hn)) (fun j t v h1 h2=>hv (j+1) t v (by simpa using h1) (by simpa using h2)) h2⟩
   | [],_,h=>cases h
   | _::_,[],h=>cases h
end
theorem lst_decS {α:Type} {w:World} {e:Sh} (cells:α→List Value) (Q:α→Prop) (dec:∀ x,x.length=e.size→e.repS w x→∃ a,x=cells a∧Q a):∀ (xs:List (List Value)),(∀ x ∈ xs,x.length=e.size∧e.repS w x)→∃ l:List α,xs=l.map cells∧∀ a ∈ l,Q a
 | [],_=>⟨[],rfl,fun _ h=>by cases h⟩
 | x::xs,h=>by
   obtain ⟨l,rfl,hl⟩:=lst_decS cells Q dec xs (fun y hy=>h y (by simp [hy]))
   obtain ⟨a,rfl,ha⟩:=dec x (h x (by simp)).1 (h x (by simp)).2
   exact ⟨a::l,rfl,fun b hb=>by
    rcases List.mem_cons.1 hb with rfl | hb
    · exact ha
    · exact hl b hb⟩
theorem Sh.lstS {α:Type} {w:World} {e:Sh} (cells:α→List Value) (Q:α→Prop) (dec:∀ x,x.length=e.size→e.repS w x→∃ a,x=cells a∧Q a) {sa:Option Addr} {n c:Nat} (h:(Sh.slice e).repS w [.slice sa n c]) :
 ∃ l:List α,l.length=n∧Lst (heapF w) [] e.size (l.flatMap cells) sa n c∧(∀ a ∈ l,Q a)∧n≤c∧c≤maxLen∧n≤reachBytes:=by
 simp only [Sh.repS] at h
 obtain ⟨sa',n',c',he,hnc,hm,hr,hnone,xs,hlen,hx,hcan⟩:=h
 cases he
 obtain ⟨l,rfl,hl⟩:=lst_decS cells Q dec xs hx
 have hsz:∀ a ∈ l,(cells a).length=e.size:=fun a ha=>(hx (cells a) (List.mem_map.2 ⟨a,ha,rfl⟩)).1
 have hfl:∀ (l:List α),(∀ a ∈ l,(cells a).length=e.size)→(l.flatMap cells).length=l.length * e.size:=fun l=>by
  induction l with
  | nil=>simp
  | cons a l ih=>intro h; rw [List.flatMap_cons,List.length_append,ih (fun b hb=>h b (by simp [hb])),h a (by simp),List.length_cons,Nat.succ_mul]; omega
 rw [List.length_map] at hlen
 refine ⟨l,hlen,⟨by rw [hfl l hsz,hlen],hnc,fun h0=>?_,hnone⟩,hl,hnc,hm,hr⟩
 obtain ⟨b,off,cs,T,fr,rfl,hb,hj⟩:=hcan h0
 refine ⟨b,off,rfl,Can.fr (F:=heapF w) hb ?_⟩
 rw [List.flatten_eq_flatMap,List.flatMap_map] at hj
 exact hj
theorem shLS {w:World} {e:Sh} {α:Type} (cells:α→List Value) (Q:α→Prop) (hdec:∀ x,x.length=e.size→e.repS w x→∃ a,x=cells a∧Q a) {v:Value} {cs:List Value} (hv:(Sh.slice e).val v cs) (h:(Sh.slice e).repS w cs) :
 ∃ sa n c,∃ l:List α,v=.slice sa n c∧Lst (heapF w) [] e.size (l.flatMap cells) sa n c∧(∀ a ∈ l,Q a)∧n≤reachBytes:=by
 have h':=h
 simp only [Sh.repS] at h'
 obtain ⟨sa,n,c,rfl,_⟩:=h'
 obtain ⟨l,_,h1,h2,_,_,h3⟩:=Sh.lstS cells Q hdec h
 exact ⟨sa,n,c,l,by simpa [Sh.val] using hv.symm,h1,h2,h3⟩
theorem weights_app {H:Type} {P:Program}:∀ {ts us:List TypeId} {ds:List (DataW H)} {n:Nat},n ∈ DataW.weightsEach P ts ds→n ∈ DataW.weightsEach P (ts++us) (ds++[])
 | [],_,_,_,h=>by simp [DataW.weightsEach] at h
 | _::_,_,[],_,h=>by simp [DataW.weightsEach] at h
 | t::ts,us,d::ds,n,h=>by
   simp only [List.cons_append,DataW.weightsEach,List.mem_append] at h ⊢
   exact h.imp id weights_app
theorem Sh.bytesS {w:World} {x:List Value} (h:(Sh.slice (.int .u8)).repS w x):∃ (bs:List UInt8) (sa:Option Addr) (n c:Nat),x=[.slice sa n c]∧bs.length=n∧Lst (heapF w) [] 1 (bs.map B) sa n c∧n≤reachBytes:=by
 have h2:=Sh.rep_S _ h
 simp only [Sh.repS] at h
 obtain ⟨sa,n,c,rfl,_,_,h3,_⟩:=h
 obtain ⟨bs,h4,h5,_⟩:=Sh.bytes h2
 exact ⟨bs,sa,n,c,rfl,h4,h5,h3⟩
end Go.Sl
