/- Some texts as one. The document's queue: Expire, walked. Conditions: it is well formed. A flight of pieces, acknowledged: in plain Lean. No conditions: definitions and laws. The reassembler in plain Lean: pieces in the order in which they came, what is whole, what becomes ready. No conditions: definitions and laws. The reassembler in plain Lean, second part: what each of its methods does to the pieces, the row and the streams' next numbers. No conditions: definitions and laws. A sender, in plain Lean: a queue, a flight, paths with their timers. No conditions: definitions. A flight of pieces: what is done with it, in plain Lean, and what stays true. No conditions: definitions and laws. A flight of pieces: how many bytes are told to be acknowledged, are under way, and are freed, in plain Lean. No conditions: laws. -/
import Derived.Test.YtlfpemmdehmbfaaGreatBuD
import Derived.Test.YtlfpemmdehmbfaaGreatBuI
import GoSem.Core.View
import Derived.Test.YtlfpemmdehmbfaaGreatBuE
namespace Go.Proofs.YtlfpemmdehmbfaaGreat
open Go Go.Sl Go.Oq
def seeA (now:Int) (l:List It):Int × Flt.Dt × Int × Bool:=l.foldl (Oq.seeI now) (0,Oq.noD,0,false)
theorem seeA_snoc {now:Int} {l:List It} {i:Nat} {x:It} (h:l[i]? = some x):seeA now (l.take (i+1))=Oq.seeI now (seeA now (l.take i)) x:=by
 unfold seeA
 rw [List.take_add_one,h,List.foldl_append]
 rfl
theorem goneI_rng {x:It} (h:x.Ok):0≤goneI x∧goneI x≤1048576:=by
 have h1:=h.at_; have h2:=h.size
 unfold goneI left
 split <;> omega
theorem seeI_fst (now:Int) (q:Int × Flt.Dt × Int × Bool) (x:It):(Oq.seeI now q x).1=if Oq.dead now x then q.1+goneI x else q.1:=by
 unfold Oq.seeI
 split
 · split <;> rfl
 · rfl
theorem seeA_rng {now:Int} {l:List It} (h:∀ x ∈ l,x.Ok):∀ i:Nat,i≤l.length→0≤(seeA now (l.take i)).1∧(seeA now (l.take i)).1≤1048576 * i
 | 0,_=>by unfold seeA; simp
 | i+1,hi=>by
   obtain ⟨x,hx⟩:∃ x,l[i]? = some x:=⟨l[i]'(by omega),List.getElem?_eq_getElem _⟩
   have h1:=seeA_rng (now:=now) h i (by omega)
   have h2:=goneI_rng (h x (List.mem_of_getElem? hx))
   rw [seeA_snoc hx,seeI_fst]
   split <;> omega
structure GDe where
 i:Nat
 dm:DM
 ra:Option Addr
 rn:Nat
 rc:Nat
 rb:HL
def aliveD (now:Int) (l:List DiM):List DiM:=l.filter (fun m=>!Oq.dead now m.it)
theorem aliveD_snoc {now:Int} {l:List DiM} {i:Nat} {m:DiM} (h:l[i]? = some m):aliveD now (l.take (i+1))=if Oq.dead now m.it then aliveD now (l.take i) else aliveD now (l.take i)++[m]:=by
 unfold aliveD
 rw [List.take_add_one,h,List.filter_append]
 cases hd:Oq.dead now m.it <;> simp [hd]
theorem flat_filterD {p:DiM→Bool}:∀ (l:List DiM),((l.filter p).flatMap (·.bb)).Sublist (l.flatMap (·.bb))
 | []=>.slnil
 | m::l=>by
   rw [List.filter_cons,List.flatMap_cons]
   split
   · rw [List.flatMap_cons]
     exact (List.Sublist.refl _).append (flat_filterD l)
   · exact (flat_filterD l).trans (List.sublist_append_right _ _)
set_option maxHeartbeats 8000000 in
theorem doexp_tr (F:Nat→Option Obj) (o:DqM) (ho:o.ok) (now:Int):Tr Tryz.prog 103 [ptr o.R,.int .i64 now].toArray F o.H (fun v H=>∃ (dm:DM) (o':DqM),v=tup [.agg dm.cells.toArray,.int .i64 (Oq.seen o.S now).2.2.1,.bool (Oq.seen o.S now).2.2.2]∧dm.ok∧dm.d=(Oq.seen o.S now).2.1∧o'.ok∧o'.R=o.R∧o'.S=Oq.expire o.S now∧H=dm.bb++o'.H):=by
 refine Tr.enter Tryz.func103 rfl Tryz.ntmps103 rfl (fun w0=>?_)
 have hil:=ho.inl
 have hfew:=ho.few
 have hu:=ho.pl.used; have hro:=ho.pl.room
 dsimp only [DqM.S] at hu hro
 have hok:∀ x ∈ o.is.map (·.it),x.Ok:=fun x hx=>(ho.pl.its x hx).1
 have hrng:=fun i hi=>seeA_rng (now:=now) hok i hi
 simp only [List.length_map] at hrng
 unfold DqM.H DqM.hd
 refine SPX ?_; repeat' (first|refine ⟨fun hc=>?_,fun hc=>?_⟩|intro)
 rename_i b4 b7
 refine W.loop (G:=GDe) (fun g=>[(0,ptr o.R),(1,.int .i64 now),(4,ptr b4),(7,ptr b7),(8,.int .i64 (seeA now ((o.is.map (·.it)).take g.i)).2.2.1),(9,.bool (seeA now ((o.is.map (·.it)).take g.i)).2.2.2),(10,.slice g.ra g.rn g.rc),(11,.int .i64 g.i)]) (fun g=>((o.R,.cells [.slice o.ia o.in_ o.ic,.int .i64 o.many,.int .i64 o.room,.int .i64 (o.used - (seeA now ((o.is.map (·.it)).take g.i)).1),.slice o.na o.nn o.nc].toArray 164 (0,0))::((b7,.cells g.dm.cells.toArray 77 (0,0))::((b4,.cells [.int .u32 0,.int .u16 0,.int .u16 0,.bool false,.bool false,.bool false,.slice none 0 0].toArray 77 (0,0))::(o.ib++(o.nb++(o.is.flatMap (·.bb)++(g.rb++g.dm.bb))))))))
  (fun g=>g.i≤o.in_∧g.dm.ok∧g.dm.d=(seeA now ((o.is.map (·.it)).take g.i)).2.1∧OwnS 195 7 ((aliveD now (o.is.take g.i)).flatMap DiM.cells) (.slice g.ra g.rn g.rc) g.rb) (fun g=>o.in_ - g.i) ⟨0,zDM0,none,0,0,[]⟩ ⟨Nat.zero_le _,.inl ⟨rfl,rfl,rfl⟩,rfl,.inl ⟨rfl,rfl,rfl⟩⟩ (by dsimp only [List.take_zero,seeA,List.foldl_nil]; exact envA) (fun _ h=>?_) ?_
 · dsimp only [List.take_zero,seeA,List.foldl_nil]
   rw [Int.sub_zero]
   exact In.of_sub (.pick (.there (.there .here)) (.pick .here (.pick .here (.pickL (L:=o.ib) .here (.pickL (L:=o.nb) .here (.pickL (L:=o.is.flatMap (·.bb)) .all (.nil _))))))) h
 rintro ⟨i,dm,ra,rn,rc,rb⟩ ⟨hi,hdm,hdd,hown⟩
 dsimp only at hi hdm hdd hown ⊢
 have hri:=hrng i (by omega)
 obtain ⟨q,hq⟩:∃ q,seeA now ((o.is.map (·.it)).take i)=q:=⟨_,rfl⟩
 rw [hq] at hri hdd ⊢
 have hrl:rn≤i:=by
  have h1:=OwnS.len hown
  rw [flat_len' DiM.cells 7 (fun _=>rfl)] at h1
  have h2:(aliveD now (o.is.take i)).length≤(o.is.take i).length:=List.length_filter_le _ _
  rw [List.length_take] at h2
  omega
 refine SPQ ?_; repeat' (first|refine ⟨fun hc=>?_,fun hc=>?_⟩|intro)
 cases hc:decide ((i:Int) < o.in_) with
 | false=>
   have hi':i=o.is.length:=by have:=of_decide_eq_false hc; omega
   subst hi'
   refine SPY ?_; repeat' (first|refine ⟨fun hc=>?_,fun hc=>?_⟩|intro)
   rw [List.take_length] at hown
   have hq2:seeA now (o.is.map (·.it))=q:=by rw [←hq]; conv=>rhs; rw [show o.is.length=(o.is.map (·.it)).length by simp,List.take_length]
   have hseen:Oq.seen o.S now=q:=hq2
   rw [Go.Pth.go_mx,show max (o.used - q.1) 0=o.used - Pth.mn (Pth.mx q.1 0) o.used by rw [Pth.mn_eq,Pth.mx_eq]; omega]
   have hS:DqM.S { o with is:=aliveD now o.is,ia:=ra,in_:=rn,ic:=rc,ib:=rb,used:=o.used - Pth.mn (Pth.mx q.1 0) o.used }=Oq.expire o.S now:=by
    unfold Oq.expire
    rw [hseen]
    unfold aliveD DqM.S Oq.free
    dsimp only
    rw [List.filter_map]
    rfl
   rw [hseen]
   refine Fin.retW (by exact rfl) resA (H':=dm.bb++DqM.H { o with is:=aliveD now o.is,ia:=ra,in_:=rn,ic:=rc,ib:=rb,used:=o.used - Pth.mn (Pth.mx q.1 0) o.used }) (fun _ h=>?_) ⟨dm,{ o with is:=aliveD now o.is,ia:=ra,in_:=rn,ic:=rc,ib:=rb,used:=o.used - Pth.mn (Pth.mx q.1 0) o.used },rfl,hdm,hdd,⟨fun x hx=>ho.own x (List.mem_filter.1 hx).1,hown,ho.nums,by rw [hS]; exact expire_ok ho.pl now,Nat.le_trans (List.length_filter_le _ _) hfew⟩,rfl,hS,rfl⟩
   unfold DqM.H DqM.hd
   have h1:=In.of_sub (.pickL (L:=dm.bb) (.there (.there (.there (.right (.right (.right (.right .all))))))) (.pick .here (.pickL (L:=rb) (.there (.there (.right (.right (.right .here))))) (.pickL (L:=o.nb) (.there (.there (.right .here))) (.last (L:=o.is.flatMap (·.bb)) (.there (.there (.right .here)))))))) h
   exact h1.sublist ((List.Sublist.refl _).append (.cons_cons _ ((List.Sublist.refl _).append ((List.Sublist.refl _).append (flat_filterD _)))))
 | true=>
 have hi':i < o.in_:=by have:=of_decide_eq_true hc; omega
 obtain ⟨m,hm⟩:∃ m,o.is[i]? = some m:=⟨o.is[i]'(by omega),List.getElem?_eq_getElem _⟩
 have hmm:=List.mem_of_getElem? hm
 obtain ⟨h1,h2,h3⟩:=DqM.it ho hmm
 have h4:=h1.at_; have h5:=h1.size; have h6:=h1.stream; have h7:=h1.ssn
 obtain ⟨b,off,hia,hcan⟩:=(Lst.own (F:=F) (H:=o.ib) ho.items (fun _ h=>h)).el (cells:=DiM.cells) (fun _=>rfl) hm (by omega)
 have hia0:0≤(i:Int)∧(i:Int) < o.in_:=by omega
 have hmi:(o.is.map (·.it))[i]? = some m.it:=by rw [List.getElem?_map,hm]; rfl
 have hsn:=seeA_snoc (now:=now) hmi
 rw [hq] at hsn
 have hal:=aliveD_snoc (now:=now) hm
 have hgo:=goneI_rng h1
 have hleft:(left m.it:Int)=(m.it.bs.length:Int) - m.it.at_:=by unfold left; omega
 rw [hia]
 refine SPY ?_; repeat' (first|refine ⟨fun hc=>?_,fun hc=>?_⟩|intro)
 unfold DiM.cells at hcan
 refine WL.s rfl (Rd.ldaC rfl rfl (hcan.mono (fun _ h=>h.sublist findA))) ?_
 clear hcan
 refine SPY ?_; repeat' (first|refine ⟨fun hc=>?_,fun hc=>?_⟩|intro)
 · have hd:Oq.dead now m.it=false:=decide_eq_false (by have:=of_decide_eq_true ‹decide (m.it.til < 1)=true›; omega)
   have hsee:Oq.seeI now q m.it=q:=by unfold Oq.seeI; rw [if_neg (by rw [hd]; decide)]
   rw [hd,if_neg (by decide)] at hal
   refine WL.e rfl (Ef.app (m:=1) (news:=m.cells) (hb:=rb) (by exact rfl) (by exact rfl) rfl rfl hown (.last (.there (.there (.there (.there (.there (.right (.right (.right .here))))))))) (Src.own (n:=7) (.here rfl)) rfl (diC_one m) (by rw [flat_len' DiM.cells 7 (fun _=>rfl)]; have:=OwnS.len hown; rw [flat_len' DiM.cells 7 (fun _=>rfl)] at this; simp [DiM.cells]; omega) (by rw [flat_len' DiM.cells 7 (fun _=>rfl)]; have:=OwnS.len hown; rw [flat_len' DiM.cells 7 (fun _=>rfl)] at this; simp [DiM.cells,maxLen]; omega)) ?_
   rintro v' _ ⟨rb',hown',rfl⟩
   obtain ⟨ja,jn,jc,rfl,_,_⟩:=OwnS.shape hown'
   refine SPY ?_; repeat' (first|refine ⟨fun hc=>?_,fun hc=>?_⟩|intro)
   rw [i64_succ (by omega),←hia]
   refine Fin.round ⟨i+1,dm,ja,jn,jc,rb'⟩ ⟨by dsimp only; omega,hdm,by dsimp only; rw [hsn,hsee]; exact hdd,?_⟩ (by dsimp only; rw [hsn,hsee]; exact envA) (fun _ h=>?_) (by dsimp only; omega)
   · dsimp only
     rw [hal,List.flatMap_append]
     simpa using hown'
   · dsimp only
     rw [hsn,hsee]
     exact In.of_sub (.pick (.right (.there (.there .here))) (.pick (.right (.there (.there .here))) (.pick (.right (.there (.there .here))) (.pickL (L:=o.ib) (.right (.there (.there .here))) (.pickL (L:=o.nb) (.right (.there (.there .here))) (.pickL (L:=o.is.flatMap (·.bb)) (.right (.there (.there .here))) (.pickL (L:=rb') .here (.last (.there (.there .all)))))))))) h
 · have hd:Oq.dead now m.it=false:=decide_eq_false (by have:=of_decide_eq_true ‹decide (m.it.til > now)=true›; omega)
   have hsee:Oq.seeI now q m.it=q:=by unfold Oq.seeI; rw [if_neg (by rw [hd]; decide)]
   rw [hd,if_neg (by decide)] at hal
   refine WL.e rfl (Ef.app (m:=1) (news:=m.cells) (hb:=rb) (by exact rfl) (by exact rfl) rfl rfl hown (.last (.there (.there (.there (.there (.there (.right (.right (.right .here))))))))) (Src.own (n:=7) (.here rfl)) rfl (diC_one m) (by rw [flat_len' DiM.cells 7 (fun _=>rfl)]; have:=OwnS.len hown; rw [flat_len' DiM.cells 7 (fun _=>rfl)] at this; simp [DiM.cells]; omega) (by rw [flat_len' DiM.cells 7 (fun _=>rfl)]; have:=OwnS.len hown; rw [flat_len' DiM.cells 7 (fun _=>rfl)] at this; simp [DiM.cells,maxLen]; omega)) ?_
   rintro v' _ ⟨rb',hown',rfl⟩
   obtain ⟨ja,jn,jc,rfl,_,_⟩:=OwnS.shape hown'
   refine SPY ?_; repeat' (first|refine ⟨fun hc=>?_,fun hc=>?_⟩|intro)
   rw [i64_succ (by omega),←hia]
   refine Fin.round ⟨i+1,dm,ja,jn,jc,rb'⟩ ⟨by dsimp only; omega,hdm,by dsimp only; rw [hsn,hsee]; exact hdd,?_⟩ (by dsimp only; rw [hsn,hsee]; exact envA) (fun _ h=>?_) (by dsimp only; omega)
   · dsimp only
     rw [hal,List.flatMap_append]
     simpa using hown'
   · dsimp only
     rw [hsn,hsee]
     exact In.of_sub (.pick (.right (.there (.there .here))) (.pick (.right (.there (.there .here))) (.pick (.right (.there (.there .here))) (.pickL (L:=o.ib) (.right (.there (.there .here))) (.pickL (L:=o.nb) (.right (.there (.there .here))) (.pickL (L:=o.is.flatMap (·.bb)) (.right (.there (.there .here))) (.pickL (L:=rb') .here (.last (.there (.there .all)))))))))) h
 have hd:Oq.dead now m.it=true:=decide_eq_true (by
  have:=of_decide_eq_false ‹decide (m.it.til < 1)=false›
  have:=of_decide_eq_false ‹decide (m.it.til > now)=false›
  omega)
 rw [hd,if_pos rfl] at hal
 refine W.drawA ?_
 refine SPY ?_; repeat' (first|refine ⟨fun hc=>?_,fun hc=>?_⟩|intro)
 · have hbg:Oq.begun m.it=true:=decide_eq_true (by have:=of_decide_eq_true ‹decide ((m.it.at_:Int) > 0)=true›; omega)
   have hg:goneI m.it=(left m.it:Int) - 1:=by unfold goneI; rw [if_pos hbg]
   have hsee:Oq.seeI now q m.it=(q.1+goneI m.it,Oq.rest m.it,m.it.id,true):=by unfold Oq.seeI; rw [if_pos hd,if_pos hbg]
   rename_i bz
   rw [i64_succ (by omega),←hia,h3,i64_id (n:=(m.it.bs.length:Int) - m.it.at_) (by omega) (by omega),i64_id (n:=o.used - q.1 - ((m.it.bs.length:Int) - m.it.at_)) (by omega) (by omega),i64_id (by omega) (by omega)]
   refine Fin.round ⟨i+1,⟨Oq.rest m.it,some ⟨bz,0,none⟩,1,1,[(bz,.cells [.int .u8 0].toArray 5 (0,0))]⟩,ra,rn,rc,rb⟩ ⟨by dsimp only; omega,.inr ⟨bz,1,1,[],[],[],rfl,rfl,rfl,Nat.le_refl _,rfl,by decide⟩,by dsimp only; rw [hsn,hsee],by dsimp only; rw [hal]; exact hown⟩ (by dsimp only; rw [hsn,hsee]; exact envA) (fun _ h=>?_) (by dsimp only; omega)
   dsimp only
   rw [hsn,hsee]
   dsimp only
   rw [show o.used - (q.1+goneI m.it)=o.used - q.1 - ((m.it.bs.length:Int) - m.it.at_)+1 by omega]
   exact In.of_sub (.pick (.there (.there .here)) (.pick (.there (.there .here)) (.pick (.there (.there .here)) (.pickL (L:=o.ib) (.there (.there .here)) (.pickL (L:=o.nb) (.there (.there .here)) (.pickL (L:=o.is.flatMap (·.bb)) (.there (.there .here)) (.pickL (L:=rb) (.there (.there .here)) (.pick .here (.nil _))))))))) h
 · have hbg:Oq.begun m.it=false:=decide_eq_false (by have:=of_decide_eq_false ‹decide ((m.it.at_:Int) > 0)=false›; omega)
   have hg:goneI m.it=(left m.it:Int):=by unfold goneI; rw [if_neg (by rw [hbg]; decide)]; omega
   have hsee:Oq.seeI now q m.it=(q.1+goneI m.it,q.2):=by unfold Oq.seeI; rw [if_pos hd,if_neg (by rw [hbg]; decide)]
   rw [i64_succ (by omega),←hia,h3,i64_id (n:=(m.it.bs.length:Int) - m.it.at_) (by omega) (by omega),i64_id (n:=o.used - q.1 - ((m.it.bs.length:Int) - m.it.at_)) (by omega) (by omega)]
   refine Fin.round ⟨i+1,dm,ra,rn,rc,rb⟩ ⟨by dsimp only; omega,hdm,by dsimp only; rw [hsn,hsee]; exact hdd,by dsimp only; rw [hal]; exact hown⟩ (by dsimp only; rw [hsn,hsee]; exact envA) (fun _ h=>?_) (by dsimp only; omega)
   dsimp only
   rw [hsn,hsee]
   dsimp only
   rw [show o.used - (q.1+goneI m.it)=o.used - q.1 - ((m.it.bs.length:Int) - m.it.at_) by omega]
   exact h.sublist (.cons _ (.refl _))
end Go.Proofs.YtlfpemmdehmbfaaGreat
namespace Go.Flt
open Go
abbrev i64 (n:Int):Int:=IntKind.i64.wrap n
structure PT where
 acked:Int
 pseudo:Bool
 fast:Bool
 at_:Int
 some_:Bool
structure Tld where
 freed:Int
 whole:Bool
 p0:PT
 p1:PT
 p2:PT
 p3:PT
def PT.zero:PT:=⟨0,false,false,0,false⟩
def Tld.zero:Tld:=⟨0,false,PT.zero,PT.zero,PT.zero,PT.zero⟩
def Tld.upd (t:Tld) (p:Int) (f:PT→PT):Tld:=if p=0 then { t with p0:=f t.p0 } else if p=1 then { t with p1:=f t.p1 } else if p=2 then { t with p2:=f t.p2 } else { t with p3:=f t.p3 }
structure Q4 (α:Type) where
 q0:α
 q1:α
 q2:α
 q3:α
def Q4.get {α:Type} (q:Q4 α) (p:Int):α:=if p=0 then q.q0 else if p=1 then q.q1 else if p=2 then q.q2 else q.q3
def Q4.set {α:Type} (q:Q4 α) (p:Int) (v:α):Q4 α:=if p=0 then { q with q0:=v } else if p=1 then { q with q1:=v } else if p=2 then { q with q2:=v } else { q with q3:=v }
def takeP (r:Rc) (low:Bool) (q:PT):PT:=⟨if r.gone then q.acked else i64 (q.acked+r.bs.length),q.pseudo || low,q.fast,if r.again then q.at_ else r.at_,if r.again then q.some_ else true⟩
def setAck (r:Rc):Rc:={ r with acked:=true }
structure AK where
 L:List Rc
 t:Tld
 high:Q4 Int
def ack1 (low:Q4 (Option Nat)) (k:AK) (i:Nat):AK:=match k.L[i]? with
 | none=>k
 | some r=>if r.acked then k else ⟨k.L.set i (setAck r),k.t.upd r.path (takeP r (decide (low.get r.path=some i))),k.high.set r.path i⟩
def ackR (low:Q4 (Option Nat)) (k:AK) (a n:Nat):AK:=(List.range' a n).foldl (ack1 low) k
def ackAll (low:Q4 (Option Nat)) (k:AK) (sp:List (Nat × Nat)):AK:=sp.foldl (fun k g=>ackR low k g.1 (g.2 - g.1)) k
def missR (r:Rc):Rc:=if 3≤i64 (r.miss+1) then { r with miss:=i64 (r.miss+1),lost:=true } else { r with miss:=i64 (r.miss+1) }
def missB (high:Q4 Int) (i:Nat) (r:Rc):Bool:=away r && !r.again && decide ((i:Int) < high.get r.path)
def fastP (q:PT):PT:={ q with fast:=true }
def miss1 (high:Q4 Int) (x:List Rc × Tld) (i:Nat):List Rc × Tld:=match x.1[i]? with
 | none=>x
 | some r=>if missB high i r then (x.1.set i (missR r),if 3≤i64 (r.miss+1) then x.2.upd r.path fastP else x.2) else x
def missAll (high:Q4 Int) (x:List Rc × Tld):List Rc × Tld:=(List.range x.1.length).foldl (miss1 high) x
def lowP (L:List Rc) (p:Int):Option Nat:=L.findIdx? (fun r=>low1 r && decide (r.path=p))
def lowQ (L:List Rc):Q4 (Option Nat):=⟨lowP L 0,lowP L 1,lowP L 2,lowP L 3⟩
def okG (n base:Nat):Nat→List (Nat × Nat)→Bool
 | _,[]=>true
 | last,g::gs=>!decide (g.1 < last+2) && !decide (g.2 < g.1) && !decide (n < base+g.2) && okG n base g.2 gs
def spL (base:Nat) (gs:List (Nat × Nat)):List (Nat × Nat):=(0,base)::gs.map (fun g=>(base+g.1 - 1,base+g.2))
def span (s:S) (y:Int) (gs:List (Nat × Nat)):Option (List (Nat × Nat)):=
 if y≠s.c∧atI s.c s.L.length y=none then none else if okG s.L.length (Spn.far s.c y) 0 gs then some (spL (Spn.far s.c y) gs) else none
def toldN (sp:List (Nat × Nat)):Nat:=(sp.map (fun g=>g.2 - g.1)).sum
def sack (s:S) (y:Int) (gs:List (Nat × Nat)):Option (S × Tld):=match span s y gs with
 | none=>none
 | some sp=>
   let k:=ackAll (lowQ s.L) ⟨s.L,Tld.zero,⟨-1,-1,-1,-1⟩⟩ sp
   let x:=missAll k.high (k.L,k.t)
   some (⟨x.1.drop (Spn.far s.c y),y,s.paths⟩,{ x.2 with freed:=sumB (fun _=>true) (x.1.take (Spn.far s.c y)),whole:=decide (y≠s.c) || decide (toldN sp=cntB isAck x.1) })
theorem ackR_succ (low:Q4 (Option Nat)) (k:AK) (a i:Nat):ackR low k a (i+1)=ack1 low (ackR low k a i) (a+i):=by
 unfold ackR
 rw [List.range'_1_concat,List.foldl_append]
 rfl
theorem ackAll_snoc (low:Q4 (Option Nat)) (k:AK) {sp:List (Nat × Nat)} {j:Nat} {g:Nat × Nat} (h:sp[j]? = some g):ackAll low k (sp.take (j+1))=ackR low (ackAll low k (sp.take j)) g.1 (g.2 - g.1):=by
 unfold ackAll
 rw [List.take_add_one,h,List.foldl_append]
 rfl
theorem miss_snoc (high:Q4 Int) (x:List Rc × Tld) (i:Nat):(List.range (i+1)).foldl (miss1 high) x=miss1 high ((List.range i).foldl (miss1 high) x) i:=by
 rw [List.range_succ,List.foldl_append]
 rfl
theorem toldN_snoc {sp:List (Nat × Nat)} {j:Nat} {g:Nat × Nat} (h:sp[j]? = some g):toldN (sp.take (j+1))=toldN (sp.take j)+(g.2 - g.1):=by
 unfold toldN
 rw [List.take_add_one,h,List.map_append,List.sum_append]
 simp
theorem okG_le:∀ {n base last:Nat} {gs:List (Nat × Nat)},okG n base last gs=true→∀ g ∈ gs,2≤g.1∧g.1≤g.2∧base+g.2≤n
 | _,_,_,[],_,_,h=>by cases h
 | n,base,last,a::gs,h,g,hg=>by
   rw [okG] at h
   simp only [Bool.and_eq_true,Bool.not_eq_true',decide_eq_false_iff_not] at h
   rcases List.mem_cons.1 hg with rfl | hg
   · omega
   · exact okG_le h.2 g hg
theorem span_ok {s:S} {y:Int} {gs sp:List (Nat × Nat)} (h:span s y gs=some sp):sp=spL (Spn.far s.c y) gs∧Spn.far s.c y≤s.L.length∧∀ g ∈ sp,g.1≤g.2∧g.2≤s.L.length:=by
 unfold span at h
 split at h
 · cases h
 · rename_i h1
   split at h
   · rename_i h2
     have hb:Spn.far s.c y≤s.L.length:=by
      by_cases hy:y=s.c
      · subst hy
        have:=Spn.far_int s.c s.c
        rw [Spn.u32_eq] at this
        simp at this
        omega
      · cases ha:atI s.c s.L.length y with
        | none=>exact absurd ⟨hy,ha⟩ h1
        | some i=>
          unfold atI at ha
          split at ha
          · omega
          · cases ha
     cases h
     refine ⟨rfl,hb,fun g hg=>?_⟩
     unfold spL at hg
     rcases List.mem_cons.1 hg with rfl | hg
     · exact ⟨Nat.zero_le _,hb⟩
     · obtain ⟨q,hq,rfl⟩:=List.mem_map.1 hg
       have:=okG_le h2 q hq
       dsimp only
       omega
   · cases h
theorem lowP_snoc {L:List Rc} {i:Nat} {r:Rc} (h:L[i]? = some r) (p:Int):lowP (L.take (i+1)) p=(lowP (L.take i) p).or (if low1 r && decide (r.path=p) then some i else none):=by
 have hi:=(List.getElem?_eq_some_iff.1 h).1
 unfold lowP
 rw [List.take_add_one,h,List.findIdx?_append]
 have:(L.take i).length=i:=by simp; omega
 rw [this]
 cases hq:(low1 r && decide (r.path=p)) <;> simp [hq,List.findIdx?_cons]
theorem lowP_lt {L:List Rc} {p:Int} {j:Nat} (h:lowP L p=some j):j < L.length:=by
 unfold lowP at h
 exact (List.findIdx?_eq_some_iff_getElem.1 h).1
theorem set_bs {L:List Rc} {i:Nat} {r r':Rc} (h:L[i]? = some r) (hb:r'.bs=r.bs):(L.set i r').map (·.bs)=L.map (·.bs):=by
 rw [List.map_set]
 refine List.ext_getElem? (fun j=>?_)
 by_cases hj:i=j
 · subst hj
   have hi:=(List.getElem?_eq_some_iff.1 h).1
   rw [List.getElem?_set_self (by simpa using hi),List.getElem?_map,h,hb]
   rfl
 · rw [List.getElem?_set_ne hj]
theorem ack1_bs (low:Q4 (Option Nat)) (k:AK) (i:Nat):(ack1 low k i).L.map (·.bs)=k.L.map (·.bs):=by
 unfold ack1
 split
 · rfl
 · rename_i r h
   split
   · rfl
   · exact set_bs h rfl
theorem ackR_bs (low:Q4 (Option Nat)) (a:Nat):∀ (n:Nat) (k:AK),(ackR low k a n).L.map (·.bs)=k.L.map (·.bs)
 | 0,_=>rfl
 | n+1,k=>by rw [ackR_succ,ack1_bs,ackR_bs low a n k]
theorem ackAll_bs (low:Q4 (Option Nat)):∀ (sp:List (Nat × Nat)) (k:AK),(ackAll low k sp).L.map (·.bs)=k.L.map (·.bs)
 | [],_=>rfl
 | g::sp,k=>by
   show (ackAll low (ackR low k g.1 (g.2 - g.1)) sp).L.map (·.bs)=_
   rw [ackAll_bs low sp,ackR_bs]
theorem miss1_bs (high:Q4 Int) (x:List Rc × Tld) (i:Nat):(miss1 high x i).1.map (·.bs)=x.1.map (·.bs):=by
 unfold miss1
 split
 · rfl
 · rename_i r h
   split
   · refine set_bs h ?_
     unfold missR
     split <;> rfl
   · rfl
theorem missF_bs (high:Q4 Int) (x:List Rc × Tld):∀ n,((List.range n).foldl (miss1 high) x).1.map (·.bs)=x.1.map (·.bs)
 | 0=>rfl
 | n+1=>by rw [miss_snoc,miss1_bs,missF_bs high x n]
theorem missAll_bs (high:Q4 Int) (x:List Rc × Tld):(missAll high x).1.map (·.bs)=x.1.map (·.bs):=missF_bs high x _
theorem upd_freed (t:Tld) (p:Int) (f:PT→PT):(t.upd p f).freed=t.freed:=by unfold Tld.upd; split <;> (try split) <;> (try split) <;> rfl
theorem ack1_freed (low:Q4 (Option Nat)) (k:AK) (i:Nat):(ack1 low k i).t.freed=k.t.freed:=by
 unfold ack1
 split
 · rfl
 · split
   · rfl
   · exact upd_freed _ _ _
theorem ackR_freed (low:Q4 (Option Nat)) (a:Nat):∀ (n:Nat) (k:AK),(ackR low k a n).t.freed=k.t.freed
 | 0,_=>rfl
 | n+1,k=>by rw [ackR_succ,ack1_freed,ackR_freed low a n k]
theorem ackAll_freed (low:Q4 (Option Nat)):∀ (sp:List (Nat × Nat)) (k:AK),(ackAll low k sp).t.freed=k.t.freed
 | [],_=>rfl
 | g::sp,k=>by
   show (ackAll low (ackR low k g.1 (g.2 - g.1)) sp).t.freed=_
   rw [ackAll_freed low sp,ackR_freed]
theorem miss1_freed (high:Q4 Int) (x:List Rc × Tld) (i:Nat):(miss1 high x i).2.freed=x.2.freed:=by
 unfold miss1
 split
 · rfl
 · split
   · dsimp only
     split
     · exact upd_freed _ _ _
     · rfl
   · rfl
theorem missF_freed (high:Q4 Int) (x:List Rc × Tld):∀ n,((List.range n).foldl (miss1 high) x).2.freed=x.2.freed
 | 0=>rfl
 | n+1=>by rw [miss_snoc,miss1_freed,missF_freed high x n]
theorem sumB_all (L:List Rc):sumB (fun _=>true) L=((L.map (·.bs)).map List.length).sum:=by
 unfold sumB
 rw [List.map_map,List.filter_eq_self.2 (fun _ _=>rfl)]
 rfl
theorem sumB_bs {L M:List Rc} (h:L.map (·.bs)=M.map (·.bs)):sumB (fun _=>true) L=sumB (fun _=>true) M:=by rw [sumB_all,sumB_all,h]
end Go.Flt
namespace Go.Rm
open Go
abbrev u32 (n:Int):Int:=IntKind.u32.wrap n
abbrev u16 (n:Int):Int:=IntKind.u16.wrap n
def less16 (a b:Int):Bool:=decide (u16 (b - a) > 0) && decide (u16 (b - a)≤32767)
def less32 (a b:Int):Bool:=decide (u32 (b - a) > 0) && decide (u32 (b - a)≤2147483647)
structure D where
 tsn:Int
 stream:Int
 ssn:Int
 un:Bool
 fi:Bool
 la:Bool
 bytes:List UInt8
structure Mg where
 stream:Int
 ordered:Bool
 bytes:List UInt8
def at? (L:List D) (t:Int):Option D:=L.find? (fun d=>t == d.tsn)
def mates (a b:D):Bool:=a.stream == b.stream && a.ssn == b.ssn && a.un == b.un
def back (L:List D) (p:D):Nat→Int→D→Option Int
 | 0,_,_=>none
 | n+1,first,q=>if q.fi then some first else
   match at? L (u32 (first - 1)) with
   | none=>none
   | some x=>if !mates x p || x.la then none else back L p n (u32 (first - 1)) x
def forth (L:List D) (p:D):Nat→Int→D→Option Int
 | 0,_,_=>none
 | n+1,last,q=>if q.la then some last else
   match at? L (u32 (last+1)) with
   | none=>none
   | some x=>if !mates x p || x.fi then none else forth L p n (u32 (last+1)) x
def whole (L:List D) (p:D):Option (Int × Int):=
 match back L p (L.length+1) p.tsn p with
 | none=>none
 | some f=>match forth L p (L.length+1) p.tsn p with
   | none=>none
   | some l=>some (f,l)
theorem u32_eq (n:Int):u32 n=n % 4294967296:=by simp [u32,IntKind.wrap,IntKind.bits,IntKind.signed]
def gath:Nat→List D→Int→Int→List UInt8→List UInt8 × List D
 | 0,L,_,_,acc=>(acc,L)
 | n+1,L,t,last,acc=>
   if t == last then (acc++(match at? L t with | some d=>d.bytes | none=>[]),L.eraseP (fun d=>t == d.tsn))
   else gath n (L.eraseP (fun d=>t == d.tsn)) (u32 (t+1)) last (acc++(match at? L t with | some d=>d.bytes | none=>[]))
def ready (L:List D) (row:List Mg) (f l:Int):List D × List Mg:=
 let q:=gath ((u32 (l - f)).toNat+1) L f l []
 (q.2,row++[⟨((at? L f).map (·.stream)).getD 0,!((at? L f).map (·.un)).getD false,q.1⟩])
def isC (L:List D) (stream ssn:Int) (d:D):Option (Int × Int):=if !d.un && d.stream == stream && d.ssn == ssn then whole L d else none
def cand (L:List D) (stream ssn:Int):Option (Int × Int):=L.findSome? (isC L stream ssn)
end Go.Rm
namespace Go.Rm
open Go
structure S where
 L:List D
 row:List Mg
 nx:List Int
def onN:Nat→S→Int→S
 | 0,s,_=>s
 | n+1,s,st=>match cand s.L st (s.nx.getD st.toNat 0) with
   | none=>s
   | some (f,l)=>onN n ⟨(ready s.L s.row f l).1,(ready s.L s.row f l).2,s.nx.set st.toNat (u16 (s.nx.getD st.toNat 0+1))⟩ st
def on (s:S) (st:Int):S:=onN (s.L.length+1) s st
def put1 (s:S) (d:D):S:=
 if d.un then match whole (s.L++[d]) d with
  | none=>⟨s.L++[d],s.row,s.nx⟩
  | some (f,l)=>⟨(ready (s.L++[d]) s.row f l).1,(ready (s.L++[d]) s.row f l).2,s.nx⟩
 else on ⟨s.L++[d],s.row,s.nx⟩ d.stream
def putE (s:S) (d:D):Int:=
 if d.stream≥s.nx.length then 4 else if d.bytes=[] then 5 else if !d.un && less16 d.ssn (s.nx.getD d.stream.toNat 0) then 1 else if (at? s.L d.tsn).isSome then 1 else 0
def put (s:S) (d:D):S:=if putE s d=0 then put1 s d else s
def doomP (L:List D) (cum:Int) (d:D):Bool:=(d.tsn == cum || less32 d.tsn cum) && (whole L d).isNone
def parts (s:S) (cum:Int):S:=⟨s.L.filter (fun d=>!doomP s.L cum d),s.row,s.nx⟩
def doomS (st n:Int) (d:D):Bool:=!d.un && d.stream == st && less16 d.ssn n
def wait (s:S) (st:Int):S:=match cand s.L st (s.nx.getD st.toNat 0) with
 | none=>s
 | some (f,l)=>⟨(ready s.L s.row f l).1,(ready s.L s.row f l).2,s.nx⟩
def upto:Nat→S→Int→Int→S
 | 0,s,_,_=>s
 | n+1,s,st,e=>if s.nx.getD st.toNat 0=e then s else upto n { wait s st with nx:=(wait s st).nx.set st.toNat (u16 (s.nx.getD st.toNat 0+1)) } st e
def skip1 (s:S) (st to:Int):S:=
 if s.nx.getD st.toNat 0≠to∧less16 (s.nx.getD st.toNat 0) to=false then s
 else
  let q:=upto ((u16 (u16 (to+1) - s.nx.getD st.toNat 0)).toNat+1) s st (u16 (to+1))
  on ⟨q.L.filter (fun d=>!doomS st (q.nx.getD st.toNat 0) d),q.row,q.nx⟩ st
structure Sk where
 st:Int
 n:Int
def skipE (s:S) (l:List Sk):Int:=if l.any (fun k=>decide (k.st≥s.nx.length)) then 4 else 0
def skip (s:S) (cum:Int) (l:List Sk):S:=if skipE s l=0 then l.foldl (fun s k=>skip1 s k.st k.n) (parts s cum) else s
def take (s:S):Option Mg × S:=match s.row with
 | []=>(none,s)
 | m::r=>(some m,⟨s.L,r,s.nx⟩)
end Go.Rm
namespace Go.Snd
open Go Go.Pth
structure Way where
 p:Pth.S
 timer:Int
 set:Bool
 mark:Int
structure Life where
 id:Int
 til:Int
structure Owed where
 d:Flt.Dt
 id:Int
structure S where
 q:Oq.S
 f:Flt.S
 ws:List Way
 room:Int
 first:Int
 mtu:Int
 lives:List Life
 owed:List Owed
 told:Bool
 cum:Int
 at_:Int
 by_:Int
def clock (now:Int):Int:=mx 0 (mn now 2305843009213693952)
theorem clock_rng (now:Int):0≤clock now∧clock now≤2305843009213693952:=by unfold clock; rw [mx_eq,mn_eq]; omega
def away (s:S):Nat:=((List.range s.ws.length).map (fun k:Nat=>Flt.out s.f k)).sum
def sizeW (s:S) (k:Nat):Int:=match s.ws[k]? with | some w=>w.p.w.size | none=>0
def mayW (s:S) (k:Nat):Bool:=decide ((Flt.out s.f k:Int) < sizeW s k)
def untilOf (lasts now:Int):Int:=if lasts > 0 then clock now+mn lasts 2305843009213693952 else 0
def putE (s:S) (stream:Int) (n:Nat) (lasts now:Int):Int:=if lasts < 0 then 1 else if s.first < n then 5 else Oq.putE s.q stream n (untilOf lasts now)
def put (s:S) (stream:Int) (ord:Bool) (bs:List UInt8) (lasts now:Int):S:=
 if putE s stream bs.length lasts now=0 then { s with q:=Oq.put s.q stream ord bs (untilOf lasts now),lives:=if untilOf lasts now > 0 then s.lives++[⟨s.q.many,untilOf lasts now⟩] else s.lives } else s
def hear1 (x:Flt.PT) (full:Bool) (now:Int) (w:Way):Way:=
 if x.acked > 0 then
  let p1:=if x.some_ then sampled (answered w.p) (mx 0 (now - x.at_)) else answered w.p
  if x.pseudo then let p2:=acked p1 x.acked full; { w with p:=p2,timer:=now+p2.r.value } else { w with p:=p1 }
 else w
def hear2 (x:Flt.PT) (c:Int) (n:Nat) (w:Way):Way:=if x.fast && !w.set then { w with p:=fast w.p,set:=true,mark:=Spn.u32 (c+Spn.u32 n) } else w
def hear3 (c:Int) (w:Way):Way:=if w.set && !Rm.less32 c w.mark then { w with set:=false } else w
def hear (x:Flt.PT) (full:Bool) (now c:Int) (n:Nat) (w:Way):Way:=hear3 c (hear2 x c n (hear1 x full now w))
def ptOf (t:Flt.Tld) (k:Nat):Flt.PT:=match k with | 0=>t.p0 | 1=>t.p1 | 2=>t.p2 | _=>t.p3
def hearAll (s:S) (t:Flt.Tld) (full:Nat→Bool) (now:Int):List Way:=s.ws.mapIdx (fun k w=>hear (ptOf t k) (full k) now s.f.c s.f.L.length w)
def restW (f:Flt.S) (k:Nat) (w:Way):Way:=if Flt.out f k=0 then { w with timer:=-1 } else w
def restAll (s:S):S:={ s with ws:=s.ws.mapIdx (restW s.f) }
def addF (s:S) (d:Flt.Dt) (path now id:Int):S:={ s with f:=Flt.add s.f d path now id }
def layN (now:Int):Nat→S→S
 | 0,s=>s
 | n+1,s=>match s.owed with
   | []=>s
   | x::r=>if Flt.addE s.f x.d 0=0 then layN now n { s with f:=Flt.abandon (Flt.add s.f x.d 0 (clock now) x.id) x.id,owed:=r } else s
def lay (s:S) (now:Int):S:=layN now s.owed.length s
def roomOf (s:S) (rwnd:Int) (whole:Bool):Int:=
 let r:=mx 0 (mn rwnd 1048576 - Flt.openB s.f)
 if whole then r else mn r s.room
def sack (s:S) (y rwnd:Int) (gs:List (Nat × Nat)) (now:Int):Option S:=match Flt.sack s.f y gs with
 | none=>none
 | some (f',t)=>
   let s1:S:={ s with f:=f' }
   let s2:S:={ s1 with ws:=hearAll s1 t (fun k=>!mayW s k) (clock now) }
   let s3:=restAll s2
   let s4:S:={ s3 with q:=Oq.free s3.q t.freed }
   let s5:=lay s4 now
   some { s5 with room:=roomOf s5 rwnd t.whole }
def lifeDead (now:Int) (x:Life):Bool:=decide (x.til≤now)
def lapse (f:Flt.S) (now:Int) (l:List Life):Flt.S:=(l.filter (lifeDead now)).foldl (fun f x=>Flt.abandon f x.id) f
def expire1 (s:S) (now:Int):S:=
 let g:=Oq.seen s.q now
 let q:=Oq.expire s.q now
 if g.2.2.2 then { s with q:=q,owed:=s.owed++[⟨g.2.1,g.2.2.1⟩],f:=Flt.abandon s.f g.2.2.1 } else { s with q:=q }
def expire2 (s:S) (now:Int):S:={ s with f:=lapse s.f now s.lives,lives:=s.lives.filter (fun x=>!lifeDead now x) }
def expire (s:S) (now:Int):S:=restAll (lay (expire2 (expire1 s (clock now)) (clock now)) now)
def ran (w:Way) (now:Int):Bool:=!(decide (w.timer=-1) || decide (w.timer > now))
structure Late where
 s:S
 late:Int
 gone:Int
def lateW (w:Way):Way:={ w with p:=Pth.late w.p,timer:=-1,set:=false }
def late1 (now:Int) (g:Late) (k:Nat):Late:=match g.s.ws[k]? with
 | none=>g
 | some w=>if ran w now then ⟨{ g.s with ws:=g.s.ws.set k (lateW w),f:=Flt.mark g.s.f k },g.late+1,g.gone+if Pth.lateA w.p then 1 else 0⟩ else g
def timeout (s:S) (now:Int):Late:=(List.range s.ws.length).foldl (late1 (clock now)) ⟨s,0,0⟩
def activeW (s:S) (k:Nat):Bool:=match s.ws[k]? with | some w=>Pth.active w.p | none=>false
def turn (n k i:Nat):Nat:=(k+1+i) % n
def nextW (s:S) (k:Nat):Nat:=match (List.range s.ws.length).find? (fun i=>activeW s (turn s.ws.length k i)) with
 | some i=>turn s.ws.length k i
 | none=>(k+1) % s.ws.length
def need (n:Nat):Int:=16+((n:Int)+3) / 4 * 4
structure Go1 where
 s:S
 out:List Flt.Dt
 room:Int
def again1 (k:Nat) (now:Int) (x:Go1 × Bool) (t:Int):Go1 × Bool:=
 if x.2 then x else match Flt.getD x.1.s.f t with
 | none=>x
 | some (d,was)=>
   if nextW x.1.s was.toNat≠k then x
   else if !mayW x.1.s k || decide (need d.bs.length > x.1.room) then (x.1,true)
   else (⟨{ x.1.s with f:=(Flt.again x.1.s.f t k (clock now)).1 },x.1.out++[d],x.1.room - need d.bs.length⟩,false)
def again (s:S) (k:Nat) (now:Int):Go1:=((Flt.lostL s.f).foldl (again1 k now) (⟨s,[],s.mtu - 12⟩,false)).1
def piece (s:S):Int:=mn (Oq.size s.q) ((s.mtu - 12 - 16) / 4 * 4)
def stops (s:S) (k:Nat) (room:Int):Bool:=
 let n:=piece s
 decide (n=0) || (decide (need n.toNat > room) || (!mayW s k || (decide (n > s.room) && decide (0 < away s) || decide (2048≤s.f.L.length))))
def fresh1 (k:Nat) (now:Int) (g:Go1):Go1:=match Oq.next g.s.q (piece g.s) with
 | none=>g
 | some (d,id,q')=>
   ⟨{ g.s with q:=q',f:=Flt.add g.s.f d k (clock now) id,room:=mx 0 (g.s.room - piece g.s) },g.out++[{ d with tsn:=Flt.newT g.s.f }],g.room - need (piece g.s).toNat⟩
def freshN (k:Nat) (now:Int):Nat→Go1→Go1
 | 0,g=>g
 | n+1,g=>if stops g.s k g.room then g else freshN k now n (fresh1 k now g)
def fresh (s:S) (k:Nat) (now:Int):Go1:=freshN k now 100 ⟨s,[],s.mtu - 12⟩
def runW (now:Int) (w:Way):Way:=if w.timer=-1 then { w with timer:=now+w.p.r.value } else w
def run (s:S) (k:Nat) (now:Int):S:=match s.ws[k]? with
 | some w=>{ s with ws:=s.ws.set k (runW (clock now) w) }
 | none=>s
def trySome (step:S→Nat→Option Go1) (now:Int):List Nat→S→S × Option (Nat × List Flt.Dt)
 | [],s=>(s,none)
 | k::r,s=>match step s k with
   | none=>trySome step now r s
   | some g=>if g.out=[] then trySome step now r g.s else (run g.s k now,some (k,g.out))
def noneActive (s:S):Bool:=!activeW s (nextW s 0)
def next (s:S) (now:Int):S × Option (Nat × List Flt.Dt):=
 match trySome (fun s k=>some (again s k now)) now (List.range s.ws.length) s with
 | (s1,some r)=>(s1,some r)
 | (s1,none)=>trySome (fun s' k=>if noneActive s1 || activeW s' k then some (fresh s' k now) else none) now (List.range s.ws.length) s1
def okRow (c:Int):Nat→List Flt.Dt→Bool
 | _,[]=>true
 | i,d::r=>decide (Spn.u32 (d.tsn - c)=Spn.u32 (i+1)) && okRow c (i+1) r
def skipIn (l:List Rm.Sk) (st n:Int):List Rm.Sk:=match l with
 | []=>[⟨st,n⟩]
 | k::r=>if k.st=st then ⟨st,if Rm.less16 k.n n then n else k.n⟩::r else k::skipIn r st n
def skips (l:List Flt.Dt):List Rm.Sk:=l.foldl (fun q d=>if d.un then q else skipIn q d.stream d.ssn) []
def make (c:Int) (l:List Flt.Dt):Option (Int × List Rm.Sk):=if okRow c 0 l then (match l.getLast? with | none=>none | some d=>some (d.tsn,skips l)) else none
def valueW (s:S) (k:Int):Int:=match s.ws[k.toNat]? with | some w=>w.p.r.value | none=>0
def due (s:S):Option ((Int × List Rm.Sk) × Int):=match make s.f.c (Flt.ptL s.f.L) with
 | none=>none
 | some f=>some (f,if s.told && decide (s.cum=f.1) then s.at_+valueW s s.by_ else 0)
def cutSk (l:List Rm.Sk) (most:Int):List Rm.Sk:=l.take (mx 0 (mn l.length (most / 4 - 1))).toNat
def forward (s:S) (now:Int):S × Option (Int × List Rm.Sk × Nat):=match due s with
 | none=>(s,none)
 | some (f,a)=>if a > clock now then (s,none) else
   let b:=nextW s s.by_.toNat
   ({ s with told:=true,cum:=f.1,at_:=clock now,by_:=b },some (f.1,cutSk f.2 (s.mtu - 20),b))
def beatW (now:Int) (w:Way):Way:={ w with p:=Pth.beatS w.p now }
def beatL (s:S) (now:Int):List Nat:=(List.range s.ws.length).filter (fun k=>match s.ws[k]? with | some w=>Pth.beats w.p now | none=>false)
def beat (s:S) (now:Int):S:={ s with ws:=s.ws.map (beatW now) }
def beatenB (s:S) (k sent now:Int):Bool:=if k < 0 then false else match s.ws[k.toNat]? with | some w=>Pth.beaten w.p sent now | none=>false
def beaten (s:S) (k sent now:Int):S:=if k < 0 then s else match s.ws[k.toNat]? with
 | some w=>{ s with ws:=s.ws.set k.toNat { w with p:=Pth.beatenS w.p sent now } }
 | none=>s
def whenW (t:Int) (w:Way):Int:=let u:=mn t w.p.next; if w.timer=-1 then u else mn u w.timer
def when (s:S):Int:=
 let t0:=match s.ws with | w::_=>w.p.next | []=>0
 let t1:=s.ws.foldl whenW t0
 let t2:=s.lives.foldl (fun t x=>mn t x.til) t1
 match due s with | some (_,a)=>mn t2 a | none=>t2
def empty (s:S):Bool:=decide (Oq.waiting s.q=0) && (decide (s.owed=[]) && decide (s.f.L=[]))
def pathA (s:S) (k:Int):Int × Int × Int × Bool:=if k < 0 then (0,0,0,false) else match s.ws[k.toNat]? with
 | some w=>(Flt.out s.f k,w.p.w.size,w.p.r.value,Pth.active w.p)
 | none=>(0,0,0,false)
end Go.Snd
namespace Go.Flt
open Go
structure FAns where
 d:Dt
 n:Int
 is_:Bool
 e:Int
 t:Tld
def Dt.zero:Dt:=⟨0,0,0,false,false,false,[]⟩
def FAns.zero:FAns:=⟨Dt.zero,0,false,0,Tld.zero⟩
theorem set_map {β:Type} (g:Rc→β) {L:List Rc} {i:Nat} {r r':Rc} (h:L[i]? = some r) (hb:g r'=g r):(L.set i r').map g=L.map g:=by
 rw [List.map_set]
 refine List.ext_getElem? (fun j=>?_)
 by_cases hj:i=j
 · subst hj
   have hi:=(List.getElem?_eq_some_iff.1 h).1
   rw [List.getElem?_set_self (by simpa using hi),List.getElem?_map,h,hb]
   rfl
 · rw [List.getElem?_set_ne hj]
def Rc.k (r:Rc):Dt × Int:=(r.d,r.path)
theorem ack1_k (low:Q4 (Option Nat)) (k:AK) (i:Nat):(ack1 low k i).L.map Rc.k=k.L.map Rc.k:=by
 unfold ack1
 split
 · rfl
 · rename_i r h
   split
   · rfl
   · exact set_map Rc.k h rfl
theorem ackR_k (low:Q4 (Option Nat)) (a:Nat):∀ (n:Nat) (k:AK),(ackR low k a n).L.map Rc.k=k.L.map Rc.k
 | 0,_=>rfl
 | n+1,k=>by rw [ackR_succ,ack1_k,ackR_k low a n k]
theorem ackAll_k (low:Q4 (Option Nat)):∀ (sp:List (Nat × Nat)) (k:AK),(ackAll low k sp).L.map Rc.k=k.L.map Rc.k
 | [],_=>rfl
 | g::sp,k=>by
   show (ackAll low (ackR low k g.1 (g.2 - g.1)) sp).L.map Rc.k=_
   rw [ackAll_k low sp,ackR_k]
theorem missR_k (r:Rc):(missR r).k=r.k:=by unfold missR; split <;> rfl
theorem miss1_k (high:Q4 Int) (x:List Rc × Tld) (i:Nat):(miss1 high x i).1.map Rc.k=x.1.map Rc.k:=by
 unfold miss1
 split
 · rfl
 · rename_i r h
   split
   · exact set_map Rc.k h (missR_k r)
   · rfl
theorem missF_k (high:Q4 Int) (x:List Rc × Tld):∀ n,((List.range n).foldl (miss1 high) x).1.map Rc.k=x.1.map Rc.k
 | 0=>rfl
 | n+1=>by rw [miss_snoc,miss1_k,missF_k high x n]
theorem k_get {L M:List Rc} (h:L.map Rc.k=M.map Rc.k) {i:Nat} {r:Rc} (hr:L[i]? = some r):∃ q,M[i]? = some q∧r.d=q.d∧r.path=q.path:=by
 have:=congrArg (fun l=>l[i]?) h
 simp only [List.getElem?_map,hr,Option.map_some] at this
 cases hm:M[i]? with
 | none=>simp [hm] at this
 | some q=>
   simp [hm,Rc.k] at this
   exact ⟨q,rfl,this.1,this.2⟩
structure Good (s:S):Prop where
 c:0≤s.c∧s.c < 4294967296
 paths:1≤s.paths∧s.paths≤4
 few:s.L.length≤2048
 tsn:∀ (i:Nat) r,s.L[i]? = some r→r.tsn=Spn.u32 (s.c+1+i)
 path:∀ (i:Nat) r,s.L[i]? = some r→0≤r.path∧r.path < s.paths
 bs:∀ (i:Nat) r,s.L[i]? = some r→r.bs≠[]
theorem Good.like {s:S} (h:Good s) {L:List Rc} (hl:L.map Rc.k=s.L.map Rc.k):Good { s with L:=L }:=by
 have hd:∀ {r q:Rc},r.d=q.d→r.tsn=q.tsn∧r.bs=q.bs:=fun {r q} h=>⟨congrArg Dt.tsn h,congrArg Dt.bs h⟩
 refine ⟨h.c,h.paths,?_,fun i r hr=>?_,fun i r hr=>?_,fun i r hr=>?_⟩
 · have:=congrArg List.length hl; simp at this; have:=h.few; dsimp only; omega
 · obtain ⟨q,hq,h1,h2⟩:=k_get hl hr; rw [(hd h1).1]; exact h.tsn i q hq
 · obtain ⟨q,hq,h1,h2⟩:=k_get hl hr; rw [h2]; exact h.path i q hq
 · obtain ⟨q,hq,h1,h2⟩:=k_get hl hr; rw [(hd h1).2]; exact h.bs i q hq
theorem Good.set {s:S} (h:Good s) {i:Nat} {r r':Rc} (hr:s.L[i]? = some r) (h1:r'.tsn=r.tsn) (h2:r'.bs=r.bs) (h3:0≤r'.path∧r'.path < s.paths):Good { s with L:=s.L.set i r' }:=by
 have key:∀ (j:Nat) q,(s.L.set i r')[j]? = some q→s.L[j]? = some q∨(j=i∧q=r'):=fun j q hq=>by
  by_cases hj:i=j
  · subst hj
    rw [List.getElem?_set_self (List.getElem?_eq_some_iff.1 hr).1] at hq
    cases hq
    exact .inr ⟨rfl,rfl⟩
  · rw [List.getElem?_set_ne hj] at hq
    exact .inl hq
 refine ⟨h.c,h.paths,by simpa using h.few,fun j q hq=>?_,fun j q hq=>?_,fun j q hq=>?_⟩
 · rcases key j q hq with hq | ⟨rfl,rfl⟩
   · exact h.tsn j q hq
   · rw [h1]; exact h.tsn _ _ hr
 · rcases key j q hq with hq | ⟨rfl,rfl⟩
   · exact h.path j q hq
   · exact h3
 · rcases key j q hq with hq | ⟨rfl,rfl⟩
   · exact h.bs j q hq
   · rw [h2]; exact h.bs _ _ hr
theorem sel_k (q:Rc→Bool) (f:Rc→Rc) (hf:∀ r,(f r).k=r.k) (L:List Rc):(sel q f L).map Rc.k=L.map Rc.k:=by
 unfold sel
 rw [List.map_map]
 refine List.map_congr_left (fun r _=>?_)
 dsimp only [Function.comp]
 split
 · exact hf r
 · rfl
theorem u32_mod (n:Int):0≤Spn.u32 n∧Spn.u32 n < 4294967296:=by rw [Spn.u32_eq]; omega
theorem newT_eq {s:S} (_h:Good s):newT s=Spn.u32 (s.c+1+s.L.length):=by
 unfold newT
 simp only [Spn.u32_eq]
 omega
theorem Good.add {s:S} (h:Good s) (d:Dt) (path now id:Int):Good (Flt.add s d path now id):=by
 unfold Flt.add
 split
 · rename_i he
   unfold addE at he
   split at he
   · cases he
   · split at he
     · cases he
     · rename_i h1 h2
       have key:∀ (i:Nat) r,(s.L++[newR s d path now id])[i]? = some r→s.L[i]? = some r∨(i=s.L.length∧r=newR s d path now id):=fun i r hr=>by
        rw [List.getElem?_append] at hr
        split at hr
        · exact .inl hr
        · have:i - s.L.length=0:=by
           have:=(List.getElem?_eq_some_iff.1 hr).1
           simp at this
           omega
          rw [this] at hr
          simp at hr
          exact .inr ⟨by omega,hr.symm⟩
       refine ⟨h.c,h.paths,by simp; omega,fun i r hr=>?_,fun i r hr=>?_,fun i r hr=>?_⟩
       · rcases key i r hr with hr | ⟨rfl,rfl⟩
         · exact h.tsn i r hr
         · exact newT_eq h
       · rcases key i r hr with hr | ⟨rfl,rfl⟩
         · exact h.path i r hr
         · dsimp only [newR]; omega
       · rcases key i r hr with hr | ⟨rfl,rfl⟩
         · exact h.bs i r hr
         · dsimp only [newR]; exact fun hb=>h1 (.inr (.inr hb))
 · exact h
theorem Good.again {s:S} (h:Good s) (t path now:Int):Good (Flt.again s t path now).1:=by
 unfold Flt.again
 split
 · exact h
 · split
   · exact h
   · split
     · exact h
     · rename_i i _ r hr
       split
       · exact h.set hr rfl rfl (by dsimp only [setAgain]; omega)
       · exact h
theorem sack_some {s s':S} {y:Int} {gs:List (Nat × Nat)} {t:Tld} (h:sack s y gs=some (s',t)):∃ sp:List (Nat × Nat),span s y gs=some sp∧
 s'=⟨(missAll (ackAll (lowQ s.L) ⟨s.L,Tld.zero,⟨-1,-1,-1,-1⟩⟩ sp).high ((ackAll (lowQ s.L) ⟨s.L,Tld.zero,⟨-1,-1,-1,-1⟩⟩ sp).L,(ackAll (lowQ s.L) ⟨s.L,Tld.zero,⟨-1,-1,-1,-1⟩⟩ sp).t)).1.drop (Spn.far s.c y),y,s.paths⟩∧
 t={ (missAll (ackAll (lowQ s.L) ⟨s.L,Tld.zero,⟨-1,-1,-1,-1⟩⟩ sp).high ((ackAll (lowQ s.L) ⟨s.L,Tld.zero,⟨-1,-1,-1,-1⟩⟩ sp).L,(ackAll (lowQ s.L) ⟨s.L,Tld.zero,⟨-1,-1,-1,-1⟩⟩ sp).t)).2 with
  freed:=sumB (fun _=>true) ((missAll (ackAll (lowQ s.L) ⟨s.L,Tld.zero,⟨-1,-1,-1,-1⟩⟩ sp).high ((ackAll (lowQ s.L) ⟨s.L,Tld.zero,⟨-1,-1,-1,-1⟩⟩ sp).L,(ackAll (lowQ s.L) ⟨s.L,Tld.zero,⟨-1,-1,-1,-1⟩⟩ sp).t)).1.take (Spn.far s.c y)),
  whole:=decide (y≠s.c) || decide (toldN sp=cntB isAck (missAll (ackAll (lowQ s.L) ⟨s.L,Tld.zero,⟨-1,-1,-1,-1⟩⟩ sp).high ((ackAll (lowQ s.L) ⟨s.L,Tld.zero,⟨-1,-1,-1,-1⟩⟩ sp).L,(ackAll (lowQ s.L) ⟨s.L,Tld.zero,⟨-1,-1,-1,-1⟩⟩ sp).t)).1) }:=by
 unfold sack at h
 cases hsp:span s y gs with
 | none=>rw [hsp] at h; cases h
 | some sp=>
   rw [hsp] at h
   simp only [Option.some.injEq,Prod.mk.injEq] at h
   exact ⟨sp,rfl,h.1.symm,h.2.symm⟩
theorem sack_L {s s':S} {y:Int} {gs:List (Nat × Nat)} {t:Tld} (h:sack s y gs=some (s',t)):∃ M:List Rc,M.map Rc.k=s.L.map Rc.k∧s'=⟨M.drop (Spn.far s.c y),y,s.paths⟩∧t.freed=(sumB (fun _=>true) (M.take (Spn.far s.c y)):Nat):=by
 obtain ⟨sp,_,h1,h2⟩:=sack_some h
 refine ⟨_,?_,h1,by rw [h2]⟩
 unfold missAll
 rw [missF_k]
 exact ackAll_k _ _ _
theorem Good.sack {s s':S} (h:Good s) {y:Int} (hy:0≤y∧y < 4294967296) {gs:List (Nat × Nat)} {t:Tld} (hs:Flt.sack s y gs=some (s',t)):Good s':=by
 obtain ⟨M,hM,rfl,_⟩:=sack_L hs
 have g:=h.like hM
 have hf:=Spn.far_int s.c y
 rw [Spn.u32_eq] at hf
 have hc:=h.c
 refine ⟨hy,h.paths,?_,fun i r hr=>?_,fun i r hr=>?_,fun i r hr=>?_⟩
 · have:=g.few; dsimp only at this ⊢; rw [List.length_drop]; omega
 · rw [List.getElem?_drop] at hr
   rw [g.tsn _ r hr]
   simp only [Spn.u32_eq]
   omega
 · rw [List.getElem?_drop] at hr
   exact g.path _ r hr
 · rw [List.getElem?_drop] at hr
   exact g.bs _ r hr
theorem sumB_k {L M:List Rc} (h:L.map Rc.k=M.map Rc.k):sumB (fun _=>true) L=sumB (fun _=>true) M:=by
 refine sumB_bs ?_
 have:∀ l:List Rc,l.map (·.bs)=(l.map Rc.k).map (fun x=>x.1.bs):=fun l=>by rw [List.map_map]; rfl
 rw [this,this,h]
theorem sumB_drop (q:Rc→Bool) (L:List Rc) (i:Nat):sumB q L=sumB q (L.take i)+sumB q (L.drop i):=by
 rw [←sumB_append,List.take_append_drop]
end Go.Flt
namespace Go.Flt
open Go
def ackSum (t:Tld):Int:=t.p0.acked+t.p1.acked+t.p2.acked+t.p3.acked
structure Tld.nn (t:Tld):Prop where
 a0:0≤t.p0.acked
 a1:0≤t.p1.acked
 a2:0≤t.p2.acked
 a3:0≤t.p3.acked
theorem sumB_set (q:Rc→Bool) {L:List Rc} {i:Nat} {r:Rc} (h:L[i]? = some r) (r':Rc):sumB q (L.set i r')+(if q r then r.bs.length else 0)=sumB q L+(if q r' then r'.bs.length else 0):=by
 have hi:=(List.getElem?_eq_some_iff.1 h).1
 have he:=(List.getElem?_eq_some_iff.1 h).2
 have e1:L=L.take i++([r]++L.drop (i+1)):=by rw [←he,List.singleton_append,←List.drop_eq_getElem_cons hi,List.take_append_drop]
 have e2:L.set i r'=L.take i++([r']++L.drop (i+1)):=by rw [List.set_eq_take_append_cons_drop,if_pos hi]; rfl
 have one:∀ x:Rc,sumB q [x]=if q x then x.bs.length else 0:=fun x=>by unfold sumB; cases hq:q x <;> simp [hq]
 rw [e2,sumB_append,sumB_append,one]
 have e3:sumB q L=sumB q (L.take i)+(sumB q [r]+sumB q (L.drop (i+1))):=by rw [←sumB_append,←sumB_append,←e1]
 rw [e3,one]
 omega
theorem sumB_mono {q q':Rc→Bool} {L:List Rc} (h:∀ r,q r=true→q' r=true):sumB q L≤sumB q' L:=by
 induction L with
 | nil=>exact Nat.le_refl _
 | cons r L ih=>
   unfold sumB at ih ⊢
   cases hq:q r with
   | false=>
     rw [List.filter_cons_of_neg (by simp [hq])]
     cases hq':q' r with
     | false=>rw [List.filter_cons_of_neg (by simp [hq'])]; exact ih
     | true=>rw [List.filter_cons_of_pos hq',List.map_cons,List.sum_cons]; omega
   | true=>rw [List.filter_cons_of_pos hq,List.filter_cons_of_pos (h r hq),List.map_cons,List.map_cons,List.sum_cons,List.sum_cons]; omega
def kg (q:Rc→Bool) (r:Rc):Bool × Nat:=(q r,r.bs.length)
theorem sumB_kg {q:Rc→Bool} {L M:List Rc} (h:L.map (kg q)=M.map (kg q)):sumB q L=sumB q M:=by
 have:∀ l:List Rc,sumB q l=(((l.map (kg q)).filter (·.1)).map (·.2)).sum:=fun l=>by
  unfold sumB
  rw [List.filter_map,List.map_map]
  rfl
 rw [this,this,h]
theorem upd_sum (t:Tld) (p:Int) (f:PT→PT) (d:Int) (h:∀ q:PT,(q=t.p0∨q=t.p1∨q=t.p2∨q=t.p3)→(f q).acked=q.acked+d):ackSum (t.upd p f)=ackSum t+d:=by
 have h0:=h t.p0 (.inl rfl)
 have h1:=h t.p1 (.inr (.inl rfl))
 have h2:=h t.p2 (.inr (.inr (.inl rfl)))
 have h3:=h t.p3 (.inr (.inr (.inr rfl)))
 unfold Tld.upd ackSum
 split
 · dsimp only; omega
 · split
   · dsimp only; omega
   · split <;> (dsimp only; omega)
theorem upd_nn {t:Tld} (ht:t.nn) (p:Int) (f:PT→PT) (h:∀ q:PT,0≤q.acked→q.acked≤ackSum t→0≤(f q).acked):(t.upd p f).nn:=by
 obtain ⟨h0,h1,h2,h3⟩:=ht
 unfold ackSum at h
 unfold Tld.upd
 split
 · exact ⟨h _ h0 (by omega),h1,h2,h3⟩
 · split
   · exact ⟨h0,h _ h1 (by omega),h2,h3⟩
   · split
     · exact ⟨h0,h1,h _ h2 (by omega),h3⟩
     · exact ⟨h0,h1,h2,h _ h3 (by omega)⟩
theorem i64_in {n:Int} (h0:0≤n) (h1:n < 9223372036854775808):i64 n=n:=by
 unfold i64
 simp only [IntKind.wrap,IntKind.bits,IntKind.signed]
 simp
 omega
structure Pot (k:AK) (M:Int):Prop where
 nn:k.t.nn
 sum:ackSum k.t+sumB low1 k.L=M
theorem ack1_pot {low:Q4 (Option Nat)} {k:AK} {M:Int} (h:Pot k M) (hM:M≤1000000000000) (i:Nat):Pot (ack1 low k i) M:=by
 unfold ack1
 split
 · exact h
 · rename_i r hr
   split
   · exact h
   · rename_i ha
     have hs:=sumB_set low1 hr (setAck r)
     have e1:low1 (setAck r)=false:=by simp [low1,setAck]
     have e2:low1 r=!r.gone:=by simp [low1,ha]
     rw [e1,e2] at hs
     have hsum:=h.sum
     obtain ⟨h0,h1,h2,h3⟩:=h.nn
     cases hg:r.gone with
     | true=>
       rw [hg] at hs
       simp at hs
       have hf:∀ b q,(takeP r b q).acked=q.acked:=fun b q=>by simp [takeP,hg]
       refine ⟨upd_nn h.nn _ _ (fun q hq _=>by rw [hf]; exact hq),?_⟩
       dsimp only
       rw [upd_sum _ _ _ 0 (fun q _=>by rw [hf]; omega),hs]
       omega
     | false=>
       rw [hg] at hs
       simp at hs
       have hf:∀ b q,0≤q.acked→q.acked≤ackSum k.t→(takeP r b q).acked=q.acked+r.bs.length:=fun b q hq1 hq2=>by
        simp only [takeP,hg,Bool.false_eq_true,if_false]
        have:ackSum k.t+(sumB low1 (k.L.set i (setAck r)):Nat)+(r.bs.length:Nat)=M:=by omega
        exact i64_in (by omega) (by omega)
       refine ⟨upd_nn h.nn _ _ (fun q hq hq2=>by rw [hf _ _ hq hq2]; omega),?_⟩
       dsimp only
       rw [upd_sum _ _ _ r.bs.length (fun q hq=>hf _ _ (by rcases hq with rfl | rfl | rfl | rfl <;> assumption) (by unfold ackSum; rcases hq with rfl | rfl | rfl | rfl <;> omega))]
       omega
theorem ackR_pot {low:Q4 (Option Nat)} {M:Int} (hM:M≤1000000000000) (a:Nat):∀ (n:Nat) {k:AK},Pot k M→Pot (ackR low k a n) M
 | 0,_,h=>h
 | n+1,k,h=>by rw [ackR_succ]; exact ack1_pot (ackR_pot hM a n h) hM _
theorem ackAll_pot {low:Q4 (Option Nat)} {M:Int} (hM:M≤1000000000000):∀ (sp:List (Nat × Nat)) {k:AK},Pot k M→Pot (ackAll low k sp) M
 | [],_,h=>h
 | g::sp,_k,h=>ackAll_pot hM sp (ackR_pot hM g.1 (g.2 - g.1) h)
theorem miss1_pot (high:Q4 Int) (x:List Rc × Tld) (i:Nat):(miss1 high x i).1.map (kg low1)=x.1.map (kg low1)∧ackSum (miss1 high x i).2=ackSum x.2∧(x.2.nn→(miss1 high x i).2.nn):=by
 unfold miss1
 split
 · exact ⟨rfl,rfl,id⟩
 · rename_i r h
   split
   · refine ⟨set_map (kg low1) h (by unfold missR; split <;> rfl),?_,fun hn=>?_⟩
     · dsimp only
       split
       · rw [upd_sum _ _ _ 0 (fun q _=>by simp [fastP])]; omega
       · rfl
     · dsimp only
       split
       · exact upd_nn hn _ _ (fun q hq _=>hq)
       · exact hn
   · exact ⟨rfl,rfl,id⟩
theorem missF_pot (high:Q4 Int) (x:List Rc × Tld):∀ n,((List.range n).foldl (miss1 high) x).1.map (kg low1)=x.1.map (kg low1)∧ackSum ((List.range n).foldl (miss1 high) x).2=ackSum x.2∧(x.2.nn→((List.range n).foldl (miss1 high) x).2.nn)
 | 0=>⟨rfl,rfl,id⟩
 | n+1=>by
   rw [miss_snoc]
   obtain ⟨h1,h2,h3⟩:=missF_pot high x n
   obtain ⟨k1,k2,k3⟩:=miss1_pot high ((List.range n).foldl (miss1 high) x) n
   exact ⟨k1.trans h1,k2.trans h2,fun h=>k3 (h3 h)⟩
theorem sack_pot {s s':S} {y:Int} {gs:List (Nat × Nat)} {t:Tld} (hM:sumB low1 s.L≤1000000000000) (h:sack s y gs=some (s',t)):t.nn∧ackSum t+sumB low1 s'.L≤sumB low1 s.L:=by
 obtain ⟨sp,_,h1,h2⟩:=sack_some h
 have p0:Pot ⟨s.L,Tld.zero,⟨-1,-1,-1,-1⟩⟩ (sumB low1 s.L):=⟨⟨Int.le_refl _,Int.le_refl _,Int.le_refl _,Int.le_refl _⟩,by simp [ackSum,Tld.zero,PT.zero]⟩
 have p1:=ackAll_pot (low:=lowQ s.L) (by omega) sp p0
 obtain ⟨k1,k2,k3⟩:=missF_pot (ackAll (lowQ s.L) ⟨s.L,Tld.zero,⟨-1,-1,-1,-1⟩⟩ sp).high ((ackAll (lowQ s.L) ⟨s.L,Tld.zero,⟨-1,-1,-1,-1⟩⟩ sp).L,(ackAll (lowQ s.L) ⟨s.L,Tld.zero,⟨-1,-1,-1,-1⟩⟩ sp).t) (ackAll (lowQ s.L) ⟨s.L,Tld.zero,⟨-1,-1,-1,-1⟩⟩ sp).L.length
 rw [h1,h2]
 refine ⟨⟨(k3 p1.nn).a0,(k3 p1.nn).a1,(k3 p1.nn).a2,(k3 p1.nn).a3⟩,?_⟩
 have hs:=p1.sum
 have hd:=sumB_drop low1 (missAll (ackAll (lowQ s.L) ⟨s.L,Tld.zero,⟨-1,-1,-1,-1⟩⟩ sp).high ((ackAll (lowQ s.L) ⟨s.L,Tld.zero,⟨-1,-1,-1,-1⟩⟩ sp).L,(ackAll (lowQ s.L) ⟨s.L,Tld.zero,⟨-1,-1,-1,-1⟩⟩ sp).t)).1 (Spn.far s.c y)
 have e:=sumB_kg (q:=low1) k1
 unfold missAll at hd ⊢
 dsimp only at e hd ⊢
 have k2':ackSum (List.foldl (miss1 (ackAll (lowQ s.L) ⟨s.L,Tld.zero,⟨-1,-1,-1,-1⟩⟩ sp).high) ((ackAll (lowQ s.L) ⟨s.L,Tld.zero,⟨-1,-1,-1,-1⟩⟩ sp).L,(ackAll (lowQ s.L) ⟨s.L,Tld.zero,⟨-1,-1,-1,-1⟩⟩ sp).t) (List.range (ackAll (lowQ s.L) ⟨s.L,Tld.zero,⟨-1,-1,-1,-1⟩⟩ sp).L.length)).2=ackSum (ackAll (lowQ s.L) ⟨s.L,Tld.zero,⟨-1,-1,-1,-1⟩⟩ sp).t:=k2
 unfold ackSum at k2' hs ⊢
 dsimp only
 omega
end Go.Flt
