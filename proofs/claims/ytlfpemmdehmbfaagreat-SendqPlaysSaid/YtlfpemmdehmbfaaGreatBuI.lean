/- Some texts as one. A queue of messages: those whose time is over are let go, walked. Conditions: it is well formed. The logic's rule for two pointers that are compared: they lie in memory, and are equal just if they are one. No conditions: laws only. What the rules of the logic ask of this translation lies in Ty. No conditions. The document's queue in memory; New, Free, Size, Waiting walked: they answer as the plain functions do. Conditions: it is well formed. The document's queue: Put, walked. Conditions: it is well formed. The document's queue: Next, walked. Conditions: it is well formed. -/
import Derived.Test.YtlfpemmdehmbfaaGreatBuD
import Derived.Test.YtlfpemmdehmbfaaGreatBuH
import Derived.Test.YtlfpemmdehmbfaaGreatBuE
import Derived.LaidEql
import Derived.Test.YtlfpemmdehmbfaaGreatBuF
namespace Go.Proofs.YtlfpemmdehmbfaaGreat
open Go Go.Sl Go.Oq
theorem orest_tr (F:Nat→Option Obj) (m:ItM) (hc:Sl.Can F [] m.b 0 m.cells):Tr Tryz.prog 153 [ptr m.b].toArray F [] (fun v H=>∃ dm:DM,v=.agg dm.cells.toArray∧dm.ok∧dm.d=Oq.rest m.it∧dm.bn=1∧H=dm.bb):=by
 refine Tr.enter Tryz.func153 rfl Tryz.ntmps153 rfl (fun w0=>?_)
 have h0:Sl.Can F [] m.b (0+0+0) [.int .u16 m.it.stream]:=hc.one (i:=0) rfl
 have h1:Sl.Can F [] m.b (0+0+1) [.bool m.it.ord]:=hc.one (i:=1) rfl
 have h6:Sl.Can F [] m.b (0+6) [.int .u16 m.it.ssn]:=hc.one (i:=6) rfl
 refine SPX ?_; repeat' (first|refine ⟨fun hc=>?_,fun hc=>?_⟩|intro)
 rename_i b2 b18
 exact Fin.retW (by exact rfl) resA (H':=[(b18,.cells [.int .u8 0].toArray 5 (0,0))]) (fun _ h=>h.sublist (.cons_cons _ (List.nil_sublist _))) ⟨⟨Oq.rest m.it,some ⟨b18,0,none⟩,1,1,[(b18,.cells [.int .u8 0].toArray 5 (0,0))]⟩,rfl,.inr ⟨b18,1,1,[],[],[],rfl,rfl,rfl,Nat.le_refl _,rfl,by decide⟩,rfl,rfl,rfl⟩
structure Cap5 where
 b3:Nat
 b7:Nat
 b4:Nat
 b5:Nat
 b6:Nat
def Cap5.vals (c:Cap5):List Value:=[ptr c.b3,ptr c.b7,ptr c.b4,ptr c.b5,ptr c.b6]
def Cap5.H (c:Cap5) (now:Int) (q:Int × Flt.Dt × Int × Bool) (dm:DM):HL:=(c.b3,.cells [.int .i64 now].toArray 2 (0,0))::(c.b7,.cells [.int .i64 q.1].toArray 3 (0,0))::(c.b4,.cells dm.cells.toArray 77 (0,0))::(c.b5,.cells [.int .i64 q.2.2.1].toArray 3 (0,0))::(c.b6,.cells [.bool q.2.2.2].toArray 4 (0,0))::dm.bb
structure SeeQ (q:Int × Flt.Dt × Int × Bool) (dm:DM) (N:Int):Prop where
 ok:dm.ok
 d:dm.d=q.2.1
 rng:-N≤q.1∧q.1≤N
set_option maxHeartbeats 4000000 in
theorem see1_tr (F:Nat→Option Obj) (c:Cap5) (now:Int) (q:Int × Flt.Dt × Int × Bool) (dm:DM) {N:Int} (hq:SeeQ q dm N) (hN:N≤1000000000000000) (m:ItM) (hl:m.bn=m.it.bs.length) (hm:m.it.Ok) (hcan:Sl.Can F [] m.b 0 m.cells) :
 Tr Tryz.prog 152 ([ptr m.b]++c.vals).toArray F (c.H now q dm) (fun v H=>v=.bool (Oq.dead now m.it)∧∃ dm':DM,SeeQ (Oq.seeI now q m.it) dm' (N+1048577)∧H=c.H now (Oq.seeI now q m.it) dm'):=by
 obtain ⟨b3,b7,b4,b5,b6⟩:=c
 obtain ⟨gone,d,id,is⟩:=q
 refine Tr.enter Tryz.func152 rfl Tryz.ntmps152 rfl (fun w0=>?_)
 have hq1:=hq.rng
 have hat:=hm.at_
 have hsz:=hm.size
 dsimp only at hq1
 have h4:Sl.Can F [] m.b (0+4) [.int .i64 m.it.til]:=hcan.one (i:=4) rfl
 have h5:Sl.Can F [] m.b (0+5) [.int .i64 m.it.at_]:=hcan.one (i:=5) rfl
 have h3:Sl.Can F [] m.b (0+3) [.int .i64 m.it.id]:=hcan.one (i:=3) rfl
 unfold Cap5.H Cap5.vals
 dsimp only
 refine SPY ?_; repeat' (first|refine ⟨fun hc=>?_,fun hc=>?_⟩|intro)
 refine W.drawA ?_
 refine SPY ?_; repeat' (first|refine ⟨fun hc=>?_,fun hc=>?_⟩|intro)
 · have hd:Oq.dead now m.it=false:=decide_eq_false (by have:=of_decide_eq_true hc; omega)
   have hs:Oq.seeI now (gone,d,id,is) m.it=(gone,d,id,is):=by unfold Oq.seeI; rw [if_neg (by rw [hd]; decide)]
   rw [hd,hs]
   exact Fin.retW (by exact rfl) resA (fun _ h=>h) ⟨rfl,dm,⟨hq.ok,hq.d,by dsimp only; omega⟩,rfl⟩
 · have hd:Oq.dead now m.it=false:=decide_eq_false (by have:=of_decide_eq_true hc; omega)
   have hs:Oq.seeI now (gone,d,id,is) m.it=(gone,d,id,is):=by unfold Oq.seeI; rw [if_neg (by rw [hd]; decide)]
   rw [hd,hs]
   exact Fin.retW (by exact rfl) resA (fun _ h=>h) ⟨rfl,dm,⟨hq.ok,hq.d,by dsimp only; omega⟩,rfl⟩
 have hd:Oq.dead now m.it=true:=by
  have h1:=of_decide_eq_false hc
  have h2:=of_decide_eq_false ‹decide (m.it.til < 1)=false›
  exact decide_eq_true (by omega)
 rw [hd]
 have hleft:(left m.it:Int)=(m.it.bs.length:Int) - m.it.at_:=by unfold left; omega
 refine W.drawA ?_
 refine SPY ?_; repeat' (first|refine ⟨fun hc=>?_,fun hc=>?_⟩|intro)
 refine WD.e rfl (Ef.lookR (by exact rfl) (fun F' hF=>oleft_tr F' m hl (by omega) (by omega) (hcan.mono (fun w h=>(hF w h).sublist (List.nil_sublist _))))) ?_
 rintro _ _ ⟨rfl,rfl⟩
 refine ⟨.inr (fun _ h=>h),?_⟩
 refine SPY ?_; repeat' (first|refine ⟨fun hc=>?_,fun hc=>?_⟩|intro)
 all_goals rw [i64_id (n:=gone+(left m.it:Int)) (by omega) (by omega)]
 · have hbg:Oq.begun m.it=true:=decide_eq_true (by have:=of_decide_eq_true hc; omega)
   have hs:Oq.seeI now (gone,d,id,is) m.it=(gone+goneI m.it,Oq.rest m.it,m.it.id,true):=by unfold Oq.seeI; rw [if_pos hd,if_pos hbg]
   have hg1:goneI m.it=(left m.it:Int) - 1:=by unfold goneI; rw [if_pos hbg]
   rw [hs]
   refine W.draw [] (by kernel_rfl) (by kernel_rfl) (fun _ h=>h.sublist (List.nil_sublist _)) ?_
   refine SPY ?_; repeat' (first|refine ⟨fun hc=>?_,fun hc=>?_⟩|intro)
   refine WD.e rfl (Ef.look (by exact rfl) (fun F' hF=>orest_tr F' m (hcan.mono (fun w h=>(hF w h).sublist (List.nil_sublist _))))) ?_
   rintro _ _ ⟨H1,⟨dm',rfl,hok',hd',hbn',rfl⟩,rfl⟩
   refine ⟨.inr (fun _ h=>h.sublist (List.nil_sublist _)),?_⟩
   refine SPZ ?_; repeat' (first|refine ⟨fun hc=>?_,fun hc=>?_⟩|intro)
   refine WD.e0 (Ef.sta rfl rfl rfl rfl (.right (.there (.there (.here rfl))))) ?_
   rintro _ _ ⟨rfl,rfl⟩
   refine ⟨.inr (fun _ h=>h.sublist (List.nil_sublist _)),?_⟩
   refine SPZ ?_; repeat' (first|refine ⟨fun hc=>?_,fun hc=>?_⟩|intro)
   refine WD.e0 (Ef.st rfl rfl rfl (.right (.there (.there (.there (.here rfl)))))) ?_
   rintro _ _ ⟨rfl,rfl⟩
   refine ⟨.inr (fun _ h=>h.sublist (List.nil_sublist _)),?_⟩
   refine SPZ ?_; repeat' (first|refine ⟨fun hc=>?_,fun hc=>?_⟩|intro)
   refine WD.e0 (Ef.st rfl rfl rfl (.right (.there (.there (.there (.there (.here rfl))))))) ?_
   rintro _ _ ⟨rfl,rfl⟩
   refine ⟨.inr (fun _ h=>h.sublist (List.nil_sublist _)),?_⟩
   refine SPY ?_; repeat' (first|refine ⟨fun hc=>?_,fun hc=>?_⟩|intro)
   have e1:IntKind.i64.wrap (gone+(left m.it:Int) - (dm'.bn:Int))=gone+((left m.it:Int) - 1):=by rw [hbn',i64_id (by omega) (by omega)]; omega
   rw [hg1,e1]
   refine Fin.retW (by exact rfl) resA (fun _ h=>?_) ⟨rfl,dm',⟨hok',hd',by dsimp only; omega⟩,rfl⟩
   exact In.of_sub (.pick (.right .here) (.pick (.right .here) (.pick (.right .here) (.pick (.right .here) (.pick (.right .here) (.last .here)))))) h
 · have hbg:Oq.begun m.it=false:=decide_eq_false (by have:=of_decide_eq_false hc; omega)
   have hs:Oq.seeI now (gone,d,id,is) m.it=(gone+goneI m.it,d,id,is):=by unfold Oq.seeI; rw [if_pos hd,if_neg (by rw [hbg]; decide)]
   have hg1:goneI m.it=(left m.it:Int):=by unfold goneI; rw [if_neg (by rw [hbg]; decide)]; omega
   rw [hs,hg1]
   exact Fin.retW (by exact rfl) resA (fun _ h=>h) ⟨rfl,dm,⟨hq.ok,hq.d,by dsimp only; omega⟩,rfl⟩
def deadO (now:Int) (m:ItM):Bool:=Oq.dead now m.it
def seeN (now:Int) (q:Int × Flt.Dt × Int × Bool) (l:List ItM):Int × Flt.Dt × Int × Bool:=l.foldl (fun q m=>Oq.seeI now q m.it) q
theorem seeI_alive {now:Int} {q:Int × Flt.Dt × Int × Bool} {m:ItM} (h:deadO now m=false):Oq.seeI now q m.it=q:=by
 unfold Oq.seeI
 exact if_neg (by unfold deadO at h; rw [h]; decide)
theorem seeN_alive (now:Int) (q:Int × Flt.Dt × Int × Bool) {l:List ItM} (h:∀ m ∈ l,deadO now m=false):seeN now q l=q:=by
 induction l with
 | nil=>rfl
 | cons m l ih=>
   show seeN now (Oq.seeI now q m.it) l=q
   rw [seeI_alive (h m List.mem_cons_self)]
   exact ih (fun y hy=>h y (List.mem_cons_of_mem _ hy))
theorem seeN_snoc (now:Int) (q:Int × Flt.Dt × Int × Bool) {l:List ItM} {j:Nat} {m:ItM} (h:l[j]? = some m):seeN now q (l.take (j+1))=Oq.seeI now (seeN now q (l.take j)) m.it:=by
 rw [List.take_add_one,h]
 unfold seeN
 rw [List.foldl_append]
 rfl
def pC (m:ItM):List Value:=[ptr m.b]
theorem pC_len (m:ItM):(pC m).length=1:=rfl
def idxO (o:Option Nat):Int:=match o with | some k=>k | none=>-1
structure GIo where
 i:Nat
 dm:DM
set_option maxHeartbeats 4000000 in
theorem idxO_tr (F:Nat→Option Obj) (c:Cap5) (now:Int) (q:Int × Flt.Dt × Int × Bool) (dm:DM) {N:Int} (hq:SeeQ q dm N) (hN:N≤100000000000000) (L:List ItM) (hits:∀ m ∈ L,m.bn=m.it.bs.length∧m.it.Ok∧Sl.Can F [] m.b 0 m.cells) (la:Option Addr) (ln lc:Nat) (lb:HL) (hown:OwnS 193 1 (L.flatMap pC) (.slice la ln lc) lb) (hn:L.length≤1000000) :
 Tr Tryz.prog 190 [.slice la ln lc,.func (.func 152) ([]:List Value).toArray c.vals.toArray].toArray F (lb++c.H now q dm) (fun v H=>v=.int .i64 (idxO (L.findIdx? (deadO now)))∧∃ dm':DM,SeeQ (match L.findIdx? (deadO now) with | some k=>seeN now q (L.take (k+1)) | none=>q) dm' (N+1048577)∧H=lb++c.H now (match L.findIdx? (deadO now) with | some k=>seeN now q (L.take (k+1)) | none=>q) dm'):=by
 refine Tr.enter Tryz.func190 rfl Tryz.ntmps190 rfl (fun w0=>?_)
 have hln:L.length=ln:=by have:=OwnS.len hown; rw [flat_len' pC 1 pC_len] at this; omega
 have hwide:∀ {q':Int × Flt.Dt × Int × Bool} {d':DM},SeeQ q' d' N→SeeQ q' d' (N+1048577):=fun h=>⟨h.ok,h.d,by have:=h.rng; omega⟩
 refine SPX ?_; repeat' (first|refine ⟨fun hc=>?_,fun hc=>?_⟩|intro)
 refine W.loop (G:=GIo) (fun g=>[(0,.slice la ln lc),(1,.func (.func 152) ([]:List Value).toArray c.vals.toArray),(7,.int .i64 ln),(8,.int .i64 g.i)]) (fun g=>lb++c.H now q g.dm) (fun g=>g.i≤ln∧(∀ x ∈ L.take g.i,deadO now x=false)∧SeeQ q g.dm N) (fun g=>ln - g.i) ⟨0,dm⟩ ⟨Nat.zero_le _,(fun _ h=>by simp at h),hq⟩ envA (fun _ h=>h) ?_
 rintro ⟨i,g⟩ ⟨hi,hal,hg⟩
 dsimp only at hi hal hg ⊢
 refine SPQ ?_; repeat' (first|refine ⟨fun hc=>?_,fun hc=>?_⟩|intro)
 cases hc:decide ((i:Int) < ln) with
 | false=>
   have hi':i=L.length:=by have:=of_decide_eq_false hc; omega
   subst hi'
   rw [List.take_length] at hal
   have hnone:L.findIdx? (deadO now)=none:=List.findIdx?_eq_none_iff.2 hal
   rw [hnone]
   refine SPY ?_; repeat' (first|refine ⟨fun hc=>?_,fun hc=>?_⟩|intro)
   exact Fin.retW (by exact rfl) resA (fun _ h=>h) ⟨rfl,g,hwide hg,rfl⟩
 | true=>
 have hi':i < ln:=by have:=of_decide_eq_true hc; omega
 obtain ⟨m,hm⟩:∃ x,L[i]? = some x:=⟨L[i]'(by omega),List.getElem?_eq_getElem _⟩
 obtain ⟨hm1,hm2,hm3⟩:=hits m (List.mem_of_getElem? hm)
 obtain ⟨sb,so,hla,hcan⟩:=(Lst.own (F:=F) hown (fun _ h=>h)).el pC_len hm (by omega)
 have hia:0≤(i:Int)∧(i:Int) < ln:=by omega
 have hcan':Sl.Can F (lb++c.H now q g) sb (so+(i:Int).toNat * 1) [ptr m.b]:=hcan.mono (fun w h=>h.left)
 rw [hla]
 refine SPY ?_; repeat' (first|refine ⟨fun hc=>?_,fun hc=>?_⟩|intro)
 refine WL.e rfl (Ef.callVW (fv:=[]) (cv:=c.vals) (vals:=[ptr m.b]) (c:=c.H now q g) rfl (by exact rfl) rfl (.last (.right .all)) (fun F' hF=>by
  have h:=see1_tr F' c now q g hg (by omega) m hm1 hm2 (hm3.mono (fun w h=>(hF w h).sublist (List.nil_sublist _)))
  exact h)) ?_
 rintro _ _ ⟨_,⟨rfl,dm',hdm',rfl⟩,rfl⟩
 have hsn:L.take (i+1)=L.take i++[m]:=by rw [List.take_add_one,hm]; rfl
 cases hd:Oq.dead now m.it with
 | true=>
   have hsome:L.findIdx? (deadO now)=some i:=by
    rw [List.findIdx?_eq_some_iff_getElem]
    refine ⟨by omega,by rw [(List.getElem?_eq_some_iff.1 hm).2]; exact hd,fun j hj=>?_⟩
    rw [hal L[j] (by rw [List.mem_take_iff_getElem]; exact ⟨j,by omega,rfl⟩)]
    decide
   have hse:seeN now q (L.take (i+1))=Oq.seeI now q m.it:=by rw [seeN_snoc now q hm,seeN_alive now q hal]
   rw [hsome]
   dsimp only
   rw [hse]
   refine SPY ?_; repeat' (first|refine ⟨fun hc=>?_,fun hc=>?_⟩|intro)
   refine Fin.retW (by exact rfl) resA (H':=lb++c.H now (Oq.seeI now q m.it) dm') (fun _ h=>?_) ⟨rfl,dm',hdm',rfl⟩
   rw [List.append_nil] at h
   exact h.perm List.perm_append_comm
 | false=>
   have hsame:Oq.seeI now q m.it=q:=seeI_alive hd
   rw [hsame] at hdm' ⊢
   refine SPY ?_; repeat' (first|refine ⟨fun hc=>?_,fun hc=>?_⟩|intro)
   rw [i64_succ (by omega),←hla]
   refine Fin.round ⟨i+1,dm'⟩ ⟨hi',fun y hy=>?_,⟨hdm'.ok,hdm'.d,hg.rng⟩⟩ envA (fun _ h=>?_) (by dsimp only; omega)
   · rw [hsn] at hy
     rcases List.mem_append.1 hy with hy | hy
     · exact hal y hy
     · rw [List.mem_singleton.1 hy]; exact hd
   · rw [List.append_nil] at h
     exact h.perm List.perm_append_comm
structure GDo where
 j:Nat
 X:List ItM
 hb:HL
 dm:DM
def aliveO (now:Int) (L:List ItM):List ItM:=L.filter (fun x=>!deadO now x)
set_option maxHeartbeats 4000000 in
theorem delO_tr (F:Nat→Option Obj) (c:Cap5) (now:Int) (q:Int × Flt.Dt × Int × Bool) (dm:DM) (hq:SeeQ q dm 0) (L:List ItM) (hits:∀ m ∈ L,m.bn=m.it.bs.length∧m.it.Ok∧Sl.Can F [] m.b 0 m.cells) (la:Option Addr) (ln lc:Nat) (lb:HL) (hown:OwnS 193 1 (L.flatMap pC) (.slice la ln lc) lb) (hn:L.length≤1000000) :
 Tr Tryz.prog 151 [.slice la ln lc,.func (.func 152) ([]:List Value).toArray c.vals.toArray].toArray F (lb++c.H now q dm) (fun v H=>∃ (hb:HL) (dm':DM),v=.slice la (aliveO now L).length lc∧OwnS 193 1 ((aliveO now L).flatMap pC) (.slice la (aliveO now L).length lc) hb∧SeeQ (seeN now q L) dm' 2000000000000∧H=hb++c.H now (seeN now q L) dm'):=by
 refine Tr.enter Tryz.func151 rfl Tryz.ntmps151 rfl (fun w0=>?_)
 have hln:L.length=ln:=by have:=OwnS.len hown; rw [flat_len' pC 1 pC_len] at this; omega
 refine SPY ?_; repeat' (first|refine ⟨fun hc=>?_,fun hc=>?_⟩|intro)
 refine WL.e rfl (Ef.callW (c:=lb++c.H now q dm) (by exact rfl) (.all _) (fun F' hF=>idxO_tr F' c now q dm hq (by decide) L (fun m hm=>⟨(hits m hm).1,(hits m hm).2.1,(hits m hm).2.2.mono hF⟩) la ln lc lb hown hn)) ?_
 rintro _ _ ⟨_,⟨rfl,dm1,hdm1,rfl⟩,rfl⟩
 rw [List.append_nil]
 cases hfi:L.findIdx? (deadO now) with
 | none=>
   rw [hfi] at hdm1
   have hal:=List.findIdx?_eq_none_iff.1 hfi
   have hK:aliveO now L=L:=List.filter_eq_self.2 (fun x hx=>by rw [hal x hx]; rfl)
   have hS:seeN now q L=q:=seeN_alive now q hal
   rw [hK,hS,hln]
   unfold idxO
   dsimp only at hdm1 ⊢
   refine SPY ?_; repeat' (first|refine ⟨fun hc=>?_,fun hc=>?_⟩|intro)
   exact Fin.retW (by exact rfl) resA (fun _ h=>h) ⟨lb,dm1,rfl,hown,⟨hdm1.ok,hdm1.d,by have:=hdm1.rng; omega⟩,rfl⟩
 | some i0=>
 rw [hfi] at hdm1
 dsimp only at hdm1
 obtain ⟨hi0,hp0,hb0⟩:=List.findIdx?_eq_some_iff_getElem.1 hfi
 have hal:∀ x ∈ L.take i0,deadO now x=false:=fun x hx=>by
  obtain ⟨j,hj,rfl⟩:=List.mem_take_iff_getElem.1 hx
  have:=hb0 j (by omega)
  simpa using this
 have hK0:(L.take i0).filter (fun x=>!deadO now x)=L.take i0:=List.filter_eq_self.2 (fun x hx=>by rw [hal x hx]; rfl)
 have hK1:(L.take (i0+1)).filter (fun x=>!deadO now x)=L.take i0:=by
  rw [List.take_add_one,List.getElem?_eq_getElem hi0,List.filter_append,hK0]
  simp [hp0]
 have hlt:(aliveO now L).length < L.length:=by
  unfold aliveO
  rw [List.length_filter_lt_length_iff_exists]
  exact ⟨L[i0],List.getElem_mem _,by rw [hp0]; decide⟩
 obtain ⟨sb,so,rfl⟩:=OwnS.addr hown (by omega)
 have hD0:Dl (deadO now) L L (i0+1):=⟨rfl,by rw [hK1,List.length_take,Nat.min_eq_left (by omega)],rfl⟩
 unfold idxO
 dsimp only
 refine SPY ?_; repeat' (first|refine ⟨fun hc=>?_,fun hc=>?_⟩|intro)
 rw [i64_succ (i:=i0) (by omega)]
 refine W.loop (G:=GDo) (fun g=>[(0,.slice (some ⟨sb,so,none⟩) ln lc),(1,.func (.func 152) ([]:List Value).toArray c.vals.toArray),(5,.int .i64 ((L.take g.j).filter (fun x=>!deadO now x)).length),(6,.int .i64 g.j)]) (fun g=>g.hb++c.H now (seeN now q (L.take g.j)) g.dm)
  (fun g=>g.j≤ln∧Dl (deadO now) L g.X g.j∧OwnS 193 1 (g.X.flatMap pC) (.slice (some ⟨sb,so,none⟩) ln lc) g.hb∧SeeQ (seeN now q (L.take g.j)) g.dm (1048577 * g.j+1048577)) (fun g=>ln - g.j) ⟨i0+1,L,lb,dm1⟩ ⟨by dsimp only; omega,hD0,hown,⟨hdm1.ok,hdm1.d,by have:=hdm1.rng; dsimp only; omega⟩⟩ (by dsimp only; rw [hK1,List.length_take,Nat.min_eq_left (by omega)]; exact envA) (fun _ h=>h) ?_
 clear hdm1 hD0
 rintro ⟨j,X,hb,g⟩ ⟨hj,hD,hX,hg⟩
 dsimp only at hj hD hX hg ⊢
 obtain ⟨k,hk⟩:∃ k,((L.take j).filter (fun x=>!deadO now x)).length=k:=⟨_,rfl⟩
 have hkj:=hD.kept
 rw [hk] at hkj ⊢
 have hXl:=hD.len
 refine SPQ ?_; repeat' (first|refine ⟨fun hc=>?_,fun hc=>?_⟩|intro)
 cases hc:decide ((j:Int) < ln) with
 | true=>
   have hj':j < ln:=by have:=of_decide_eq_true hc; omega
   obtain ⟨m,hm⟩:∃ x,L[j]? = some x:=⟨L[j]'(by omega),List.getElem?_eq_getElem _⟩
   obtain ⟨hm1,hm2,hm3⟩:=hits m (List.mem_of_getElem? hm)
   have hXx:=hD.get hm
   obtain ⟨sb',so',hla',hcan⟩:=(Lst.own (F:=F) hX (fun _ h=>h)).el pC_len hXx (by omega)
   cases hla'
   have hia:0≤(j:Int)∧(j:Int) < ln:=by omega
   have hik:0≤(k:Int)∧(k:Int) < ln:=by omega
   have hcan':Sl.Can F (hb++c.H now (seeN now q (L.take j)) g) sb (so+(j:Int).toNat * 1) [ptr m.b]:=hcan.mono (fun w h=>h.left)
   refine SPY ?_; repeat' (first|refine ⟨fun hc=>?_,fun hc=>?_⟩|intro)
   clear hcan hcan'
   refine WL.e rfl (Ef.callVW (fv:=[]) (cv:=c.vals) (vals:=[ptr m.b]) (c:=c.H now (seeN now q (L.take j)) g) rfl (by exact rfl) rfl (.last (.right .all)) (fun F' hF=>by
    have h:=see1_tr F' c now _ g hg (by omega) m hm1 hm2 (hm3.mono (fun w h=>(hF w h).sublist (List.nil_sublist _)))
    exact h)) ?_
   rintro _ _ ⟨_,⟨rfl,dm',hdm',rfl⟩,rfl⟩
   have hse:=seeN_snoc now q hm
   rw [←hse] at hdm' ⊢
   refine WL.weak (H':=hb++c.H now (seeN now q (L.take (j+1))) dm') (fun _ h=>by rw [List.append_nil] at h; exact h.perm List.perm_append_comm) ?_
   have hdm2:SeeQ (seeN now q (L.take (j+1))) dm' (1048577 * ((j+1:Nat):Int)+1048577):=⟨hdm'.ok,hdm'.d,by have:=hdm'.rng; omega⟩
   cases hd:Oq.dead now m.it with
   | true=>
     have hsame:(L.take (j+1)).filter (fun x=>!deadO now x)=(L.take j).filter (fun x=>!deadO now x):=by
      rw [List.take_add_one,hm,List.filter_append]
      have:deadO now m=true:=hd
      simp [this]
     refine SPY ?_; repeat' (first|refine ⟨fun hc=>?_,fun hc=>?_⟩|intro)
     rw [i64_succ (i:=j) (by omega)]
     refine Fin.round ⟨j+1,X,hb,dm'⟩ ⟨by dsimp only; omega,hD.goes hm hd,hX,hdm2⟩ (by dsimp only; rw [hsame,hk]; exact envA) (fun _ h=>h) (by dsimp only; omega)
   | false=>
     obtain ⟨hD',hlen'⟩:=hD.stays hm hd
     rw [hk] at hD' hlen'
     obtain ⟨hb',hX',hput⟩:=hX.setEl pC_len (k:=k) (by omega) m
     have hput':PutAt sb (so+(k:Int).toNat * 1) [ptr m.b] hb hb':=hput
     refine SPY ?_; repeat' (first|refine ⟨fun hc=>?_,fun hc=>?_⟩|intro)
     refine WL.e0 (Ef.st rfl rfl rfl (.left hput')) ?_
     rintro _ _ ⟨rfl,rfl⟩
     refine SPY ?_; repeat' (first|refine ⟨fun hc=>?_,fun hc=>?_⟩|intro)
     rw [i64_succ (i:=j) (by omega),i64_succ (i:=k) (by omega)]
     refine Fin.round ⟨j+1,X.set k m,hb',dm'⟩ ⟨by dsimp only; omega,hD',hX',hdm2⟩ (by dsimp only; rw [hlen']; exact envA) (fun _ h=>h) (by dsimp only; omega)
 | false=>
   have hj':j=L.length:=by have:=of_decide_eq_false hc; omega
   subst hj'
   rw [List.take_length] at hk hg ⊢
   have hK:aliveO now L=X.take k:=by
    have:=hD.pre
    rw [List.take_length,hk] at this
    exact this.symm
   have hkl:(aliveO now L).length=k:=hk
   have hkn:k < ln:=by omega
   obtain ⟨r,hr⟩:∃ r,ln - k=r+1:=⟨ln - k - 1,by omega⟩
   have hXc:(X.flatMap pC).length=L.length * 1:=by rw [flat_len' pC 1 pC_len,hXl]
   obtain ⟨hb',hX',hput⟩:=hX.put (k * 1) (mkCells [.pointer none] (r+1)) (by rw [length_mkCells,hXc]; simp only [List.length_cons,List.length_nil]; omega)
   have hX2:=hX'.shrink (k:=k) (by omega)
   rw [show ((X.flatMap pC).take (k * 1)++mkCells [.pointer none] (r+1)++(X.flatMap pC).drop (k * 1+(mkCells [.pointer none] (r+1)).length)).take (k * 1)=(aliveO now L).flatMap pC from by
    rw [List.append_assoc,List.take_left' (by rw [List.length_take,hXc]; omega),flat_take pC_len,hK]] at hX2
   have hlc:ln≤lc:=by obtain ⟨_,_,_,he,_,h⟩:=OwnS.shape hX; cases he; exact h
   refine SPY ?_; repeat' (first|refine ⟨fun hc=>?_,fun hc=>?_⟩|intro)
   refine WL.p rfl (by exact Pu.slLo rfl rfl (by omega)) ?_
   rw [show ((k:Int)).toNat=k from rfl,hr,if_neg (by omega),Option.map_some,add_lit]
   refine WL.e0 (Ef.clr (z:=[.pointer none]) rfl rfl rfl (.left hput)) ?_
   rintro _ _ ⟨rfl,rfl⟩
   refine SPY ?_; repeat' (first|refine ⟨fun hc=>?_,fun hc=>?_⟩|intro)
   refine WL.p rfl (by exact Pu.slHi rfl rfl (by omega)) ?_
   rw [show ((k:Int)).toNat=k from rfl]
   refine SPY ?_; repeat' (first|refine ⟨fun hc=>?_,fun hc=>?_⟩|intro)
   exact Fin.retW (by exact rfl) resA (fun _ h=>h) ⟨hb',g,by rw [hkl]; rfl,by rw [hkl]; exact hX2,⟨hg.ok,hg.d,by have:=hg.rng; omega⟩,rfl⟩
theorem flat_filter {p:ItM→Bool}:∀ (l:List ItM),((l.filter p).flatMap ItM.H).Sublist (l.flatMap ItM.H)
 | []=>.slnil
 | m::l=>by
   rw [List.filter_cons,List.flatMap_cons]
   split
   · rw [List.flatMap_cons]
     exact (List.Sublist.refl _).append (flat_filter l)
   · exact (flat_filter l).trans (List.sublist_append_right _ _)
def zDM0:DM:=⟨Oq.noD,none,0,0,[]⟩
theorem seen_eq (o:OqM) (now:Int):Oq.seen o.S now=seeN now (0,Oq.noD,0,false) o.is:=by
 unfold Oq.seen seeN OqM.S
 dsimp only
 rw [List.foldl_map]
set_option maxHeartbeats 4000000 in
theorem oexp_tr (F:Nat→Option Obj) (o:OqM) (ho:o.ok) (now:Int):Tr Tryz.prog 79 [ptr o.R,.int .i64 now].toArray F o.H (fun v H=>∃ (dm:DM) (o':OqM),v=tup [.agg dm.cells.toArray,.int .i64 (Oq.seen o.S now).2.2.1,.bool (Oq.seen o.S now).2.2.2]∧dm.ok∧dm.d=(Oq.seen o.S now).2.1∧o'.ok∧o'.R=o.R∧o'.S=Oq.expire o.S now∧H=dm.bb++o'.H):=by
 refine Tr.enter Tryz.func79 rfl Tryz.ntmps79 rfl (fun w0=>?_)
 unfold OqM.H OqM.cells
 refine SPX ?_; repeat' (first|refine ⟨fun hc=>?_,fun hc=>?_⟩|intro)
 rename_i b3 b4 b5 b6 b7
 have hown:=ho.items
 rw [List.map_eq_flatMap] at hown
 have hq0:SeeQ (0,Oq.noD,0,false) zDM0 0:=⟨.inl ⟨rfl,rfl,rfl⟩,rfl,by decide⟩
 refine WL.e rfl (Ef.callW (c:=o.ib++(⟨b3,b7,b4,b5,b6⟩:Cap5).H now (0,Oq.noD,0,false) zDM0) (by exact rfl) (.pickL (L:=o.ib) (.there (.there (.there (.there (.there (.there .here)))))) (.pick (.there (.there (.there (.there .here)))) (.pick .here (.pick (.there (.there .here)) (.pick (.there .here) (.pick .here (.nil _))))))) (fun F' hF=>delO_tr F' ⟨b3,b7,b4,b5,b6⟩ now (0,Oq.noD,0,false) zDM0 hq0 o.is (fun m hm=>⟨(OqM.it ho hm).2.2,(OqM.it ho hm).1,(Can.cut (F:=F) (H:=m.H) (n:=7) (.here rfl)).mono (fun w h=>(hF w h).sublist (.cons _ ((flat_sub ItM.H hm).trans (List.sublist_append_right _ _))))⟩) o.ia o.in_ o.ic o.ib hown ho.few)) ?_
 rintro _ _ ⟨_,⟨hb,dm',rfl,hown',hq',rfl⟩,rfl⟩
 rw [←seen_eq] at hq'
 rw [←seen_eq]
 have hexp:Oq.expire o.S now=Oq.free { o.S with L:=o.S.L.filter (fun x=>!Oq.dead now x) } (Oq.seen o.S now).1:=rfl
 rw [hexp]
 obtain ⟨q,hq⟩:∃ q,Oq.seen o.S now=q:=⟨_,rfl⟩
 rw [hq] at hq' ⊢
 obtain ⟨o1,ho1⟩:∃ o1:OqM,o1={ o with is:=aliveO now o.is,in_:=(aliveO now o.is).length,ib:=hb }:=⟨_,rfl⟩
 have ho1S:o1.S={ o.S with L:=o.S.L.filter (fun x=>!Oq.dead now x) }:=by
  rw [ho1]
  unfold OqM.S aliveO
  dsimp only
  rw [List.filter_map]
  rfl
 have hsub:∀ m,m ∈ aliveO now o.is→m ∈ o.is:=fun m hm=>(List.mem_filter.1 hm).1
 have ho1k:o1.ok:=by
  have hpl:Oq.Ok { o.S with L:=o.S.L.filter (fun x=>!Oq.dead now x) }:=⟨fun x hx=>ho.pl.its x (List.mem_filter.1 hx).1,ho.pl.room,ho.pl.used,ho.pl.streams,ho.pl.ssn⟩
  refine ⟨?_,?_,?_,by rw [ho1S]; exact hpl,?_⟩
  · rw [ho1]; exact fun m hm=>ho.own m (hsub m hm)
  · rw [ho1]; dsimp only; rw [List.map_eq_flatMap]; exact hown'
  · rw [ho1]; exact ho.nums
  · rw [ho1]; dsimp only; exact Nat.le_trans (List.length_filter_le _ _) ho.few
 have ho1R:o1.R=o.R:=by rw [ho1]
 unfold Cap5.H
 dsimp only
 refine SPY ?_; repeat' (first|refine ⟨fun hc=>?_,fun hc=>?_⟩|intro)
 refine WL.weak (H':=(b3,.cells [.int .i64 now].toArray 2 (0,0))::(b7,.cells [.int .i64 q.1].toArray 3 (0,0))::(b4,.cells dm'.cells.toArray 77 (0,0))::(b5,.cells [.int .i64 q.2.2.1].toArray 3 (0,0))::(b6,.cells [.bool q.2.2.2].toArray 4 (0,0))::(dm'.bb++o1.H)) (fun _ h=>?_) ?_
 · rw [ho1]
   unfold OqM.H OqM.cells
   dsimp only
   have h1:=h.sublist ((List.Sublist.refl _).append (.cons_cons _ ((List.Sublist.refl o.nb).append (flat_filter (p:=fun x=>!deadO now x) o.is))))
   simp only [List.append_assoc,List.cons_append] at h1
   exact In.of_sub (.pick (.right .here) (.pick (.right .here) (.pick (.right .here) (.pick (.right .here) (.pick (.right .here) (.pickL (L:=dm'.bb) (.right .here) (.pick (.right .here) (.all _)))))))) h1
 have hT:=fun F'=>ofree_tr F' o1 ho1k q.1
 rw [ho1R] at hT
 refine SPY ?_; repeat' (first|refine ⟨fun hc=>?_,fun hc=>?_⟩|intro)
 refine WL.e rfl (Ef.call (c:=o1.H) (by exact rfl) (.last (.there (.there (.there (.there (.there (.right .all))))))) (hT _)) ?_
 rintro _ _ ⟨_,⟨rfl,o2,ho2,rfl,ho2R,ho2S,_⟩,rfl⟩
 clear hT
 refine WL.weak (H':=(b4,.cells dm'.cells.toArray 77 (0,0))::(b5,.cells [.int .i64 q.2.2.1].toArray 3 (0,0))::(b6,.cells [.bool q.2.2.2].toArray 4 (0,0))::(dm'.bb++o2.H)) (fun _ h=>?_) ?_
 · rw [List.append_nil] at h
   exact In.of_sub (.pick (.right (.there (.there .here))) (.pick (.right (.there (.there .here))) (.pick (.right (.there (.there .here))) (.pickL (L:=dm'.bb) (.right (.there (.there .all))) (.last .here))))) h
 refine SPX ?_; repeat' (first|refine ⟨fun hc=>?_,fun hc=>?_⟩|intro)
 exact Fin.retW (by exact rfl) resA (H':=dm'.bb++o2.H) (fun _ h=>In.of_sub (.last (.there (.there (.there .all)))) h) ⟨dm',o2,rfl,hq'.ok,hq'.d,ho2,ho2R,by rw [ho2S,ho1S],rfl⟩
end Go.Proofs.YtlfpemmdehmbfaaGreat
namespace Go.Sl
open Go
class PtrE (P:Program) (T:TypeId):Prop where h:∃ e n,P.underlying T=some (.pointer e)∧(P.info? e).map (·.size)=some (n+1)
section
variable {x:Cx} {env:Env} {H:HL} {dst:Option Tmp} {ty:TypeId} {pos:String} {aft:Array Edge} {gd:Option (Nat × Bool)}
def Lies (F:Nat→Option Obj) (H:HL) (b:Nat):Prop:=∀ w,In F H w→∃ c T,w.heap[b]? = some (.cells c T (0,0))
theorem Lies.mono {F F':Nat→Option Obj} {H H':HL} {b:Nat} (h:Lies F H b) (hw:∀ w,In F' H' w→In F H w):Lies F' H' b:=fun w hi=>h w (hw w hi)
theorem Rd.eqPP {T T':TypeId} {p q:Operand} {a b:Nat} [pt:PtrE x.P T] (hp:ev env p=some (.pointer (some ⟨a,0,none⟩))) (hq:ev env q=some (.pointer (some ⟨b,0,none⟩))) (ha:Lies x.F H a) (hb:Lies x.F H b) :
 Rd x env H ⟨dst,.binOp .eql T p q T',ty,pos,aft,gd⟩ (.bool (decide (a=b))):=⟨fun ac w he hi=>by
 obtain ⟨e,n,hu,hn⟩:=pt.h
 obtain ⟨i,hinf,hsz⟩:∃ i,x.P.info? e=some i∧i.size≠0:=by
  cases h:x.P.info? e with
  | none=>rw [h] at hn; cases hn
  | some i=>rw [h] at hn; simp at hn; exact ⟨i,rfl,by omega⟩
 obtain ⟨c1,t1,h1⟩:=ha w hi
 obtain ⟨c2,t2,h2⟩:=hb w hi
 have key0:∀ d,(Op.equalIn (d+1) T (.pointer (some ⟨a,0,none⟩)) (.pointer (some ⟨b,0,none⟩))).run x.P w=.ok (decide (a=b)) w:=by
  intro d
  by_cases hab:a=b
  · subst hab
    simp [Op.equalIn,run_underlying hu,sizeOf,typeInfo,hinf,run_sameAddr_same]
  · have hne:(⟨a,0,none⟩:Addr)≠⟨b,0,none⟩:=fun h=>hab (by injection h)
    simp [Op.equalIn,run_underlying hu,sizeOf,typeInfo,hinf,hsz,run_sameAddr_other w hne h1 h2,hab]
 have key:(Op.equal T (.pointer (some ⟨a,0,none⟩)) (.pointer (some ⟨b,0,none⟩))).run x.P w=.ok (decide (a=b)) w:=key0 9999
 simp [execOp,he.eval hp,he.eval hq,eqGuard,binOp,key]⟩
theorem Pu.bldA {T:TypeId} {n e sz:Nat} {z:List Value} {parts:List (Nat × Operand)} {vals:List (Nat × Value)} {r:List Value} [zt:ZeroT x.P T z] [at_:ArrT x.P T n e sz] (hv:evalP env parts=some vals) (hr:fillK ((List.range n).map (fun i=>(i * sz,sz))) vals z=some r) :
 Pu x env ⟨dst,.build T parts.toArray,ty,pos,aft,gd⟩ (.agg r.toArray):=⟨fun a he w=>by
 have hz:=zt.h
 have hi:=at_.i
 cases hinf:x.P.info? T with
 | none=>simp [hinf] at hz
 | some i=>
 cases hzz:i.zero with
 | none=>simp [hinf,hzz] at hz
 | some zv=>
 have hzc:zv.cells=z.toArray:=by simpa [hinf,hzz] using hz
 cases hie:x.P.info? e with
 | none=>simp [hie] at hi
 | some j=>
 have hsz:j.size=sz:=by simpa [hie] using hi
 have hpe:=parts_eval he parts vals hv
 have hparts:(parts.toArray.map fun (p:Nat × Operand)=>(p.1,a.eval p.2)).toList=vals:=by simpa using hpe
 have hfill:=fill_W (place:=fun i=>some (i * sz,sz)) (fun i q h=>by
  rw [List.getElem?_map] at h
  by_cases hi:i < n
  · rw [List.getElem?_range hi] at h; simpa using h
  · rw [List.getElem?_eq_none (by simpa using hi)] at h; cases h) vals z r hr
 simp only [execOp,Instr.build,zeroValue,typeInfo,sizeOf,Sem.run_bind,run_program,Result.andThen_ok,hinf,hzz,hie,hsz,Sem.run_pure,run_underlying at_.h,hzc,hparts,hfill]⟩
end
theorem OwnS.drop1 {E:Nat} {xs:List Value} {ra:Option Addr} {rn rc:Nat} {hb:HL} (h:OwnS E 1 xs (.slice ra rn rc) hb) {n:Nat} (hn:n≤rn) :
 OwnS E 1 (xs.drop n) (.slice (if rc=(n:Int).toNat then ra else ra.map (·.add ((n:Int).toNat * 1))) (rn - (n:Int).toNat) (rc - (n:Int).toNat)) hb:=by
 have e1:(n:Int).toNat=n:=by omega
 simp only [e1,Nat.mul_one]
 rcases h with ⟨he,hx,hbn⟩ | ⟨g,q,cap,pre,spare,post,he,rfl,hl,hc,hsp,hm⟩
 · cases he
   have hn0:n=0:=by omega
   subst hn0 hx hbn
   exact .inl ⟨rfl,rfl,rfl⟩
 · cases he
   simp only [Nat.mul_one] at hl hsp
   by_cases h1:rc=n
   · have hr1:rn=n:=by omega
     rw [if_pos h1]
     subst h1 hr1
     have hs0:spare=[]:=List.eq_nil_of_length_eq_zero (by omega)
     subst hs0
     exact .inr ⟨g,0,0,pre,[],xs++post,by simp,by rw [List.drop_of_length_le (by omega)]; simp,by rw [List.drop_of_length_le (by omega)]; rfl,Nat.le_refl _,by simp,by unfold maxLen; omega⟩
   · rw [if_neg h1]
     refine .inr ⟨g,rn - n,rc - n,pre++xs.take n,spare,post,?_,?_,?_,by omega,?_,by omega⟩
     · have:(xs.take n).length=n:=by simp; omega
       simp [add_lit,this]
     · have:xs.take n++xs.drop n=xs:=List.take_append_drop n xs
       rw [List.append_assoc pre (xs.take n) (xs.drop n),this]
     · rw [List.length_drop,Nat.mul_one,hl]
     · rw [Nat.mul_one,hsp]; omega
end Go.Sl
namespace Go.Proofs.YtlfpemmdehmbfaaGreat
open Go Go.Sl Go.Oq
structure DiM where
 it:It
 ba:Option Addr
 bn:Nat
 bc:Nat
 bb:HL
def DiM.cells (m:DiM):List Value:=[.int .u16 m.it.stream,.bool m.it.ord,.slice m.ba m.bn m.bc,.int .i64 m.it.id,.int .i64 m.it.til,.int .i64 m.it.at_,.int .u16 m.it.ssn]
def DiM.own (m:DiM):Prop:=OwnS 5 1 (m.it.bs.map B) (.slice m.ba m.bn m.bc) m.bb
theorem DiM.own.len {m:DiM} (h:m.own):m.bn=m.it.bs.length:=by have:=OwnS.len h; simp at this; omega
structure DqM where
 R:Nat
 is:List DiM
 ia:Option Addr
 in_:Nat
 ic:Nat
 ib:HL
 many:Int
 room:Int
 used:Int
 ns:List Int
 na:Option Addr
 nn:Nat
 nc:Nat
 nb:HL
def DqM.hd (o:DqM):Nat × Obj:=(o.R,.cells [.slice o.ia o.in_ o.ic,.int .i64 o.many,.int .i64 o.room,.int .i64 o.used,.slice o.na o.nn o.nc].toArray 164 (0,0))
def DqM.H (o:DqM):HL:=o.hd::(o.ib++(o.nb++o.is.flatMap (·.bb)))
def DqM.S (o:DqM):Oq.S:=⟨o.is.map (·.it),o.many,o.room,o.used,o.ns⟩
structure DqM.ok (o:DqM):Prop where
 own:∀ m ∈ o.is,m.own
 items:OwnS 195 7 (o.is.flatMap DiM.cells) (.slice o.ia o.in_ o.ic) o.ib
 nums:OwnS 35 1 (o.ns.map (Value.int .u16)) (.slice o.na o.nn o.nc) o.nb
 pl:Oq.Ok o.S
 few:o.is.length≤1000000
theorem DqM.ok.inl {o:DqM} (h:o.ok):o.in_=o.is.length:=by have:=OwnS.len h.items; rw [flat_len' DiM.cells 7 (fun _=>rfl)] at this; omega
theorem DqM.ok.nnl {o:DqM} (h:o.ok):o.nn=o.ns.length:=by have:=OwnS.len h.nums; simp at this; omega
theorem dq_el {F:Nat→Option Obj} {o:DqM} (ho:o.ok) {i:Nat} {m:DiM} (h:o.is[i]? = some m):∃ b off,o.ia=some ⟨b,off,none⟩∧i < o.in_∧Sl.Can F o.H b (off+(i:Int).toNat * 7) m.cells:=by
 have hi:=(List.getElem?_eq_some_iff.1 h).1
 have hl:=ho.inl
 obtain ⟨b,off,h1,h2⟩:=(Lst.own (F:=F) (H:=o.ib) ho.items (fun _ h=>h)).el (cells:=DiM.cells) (fun _=>rfl) h (by omega)
 exact ⟨b,off,h1,by omega,h2.mono (fun _ h=>h.sublist (.cons _ (List.sublist_append_left _ _)))⟩
theorem DqM.it {o:DqM} (ho:o.ok) {m:DiM} (hm:m ∈ o.is):m.it.Ok∧m.it.stream < o.ns.length∧m.bn=m.it.bs.length:=by
 have h:=ho.pl.its m.it (List.mem_map.2 ⟨m,hm,rfl⟩)
 exact ⟨h.1,h.2,(ho.own m hm).len⟩
theorem donew_tr (F:Nat→Option Obj) (n r:Int):Tr Tryz.prog 28 [.int .i64 n,.int .i64 r].toArray F [] (fun v H=>
 (may n r=false∧v=tup [.pointer none,.int .i64 1]∧H=[])∨(may n r=true∧∃ o:DqM,o.ok∧v=tup [ptr o.R,.int .i64 0]∧H=o.H∧o.S=new n r)):=by
 refine Tr.enter Tryz.func28 rfl Tryz.ntmps28 rfl (fun w0=>?_)
 refine SPU ?_; repeat' (first|refine ⟨fun hc=>?_,fun hc=>?_⟩|intro)
 rotate_right
 · simp only [decide_eq_false_iff_not] at *
   have hm:may n r=true:=decide_eq_true (by omega)
   obtain ⟨k,rfl⟩:∃ k:Nat,n=k:=⟨n.toNat,by omega⟩
   refine WL.e rfl (Ef.mkS (n:=k) (by exact rfl) (by exact rfl) rfl rfl (by omega) (by omega)) ?_
   rintro _ _ ⟨bn,rfl,rfl⟩
   refine SPU ?_; repeat' (first|refine ⟨fun hc=>?_,fun hc=>?_⟩|intro)
   rename_i R
   have ho:(⟨R,[],none,0,0,[],0,r,0,List.replicate k 0,some ⟨bn,0,none⟩,k,k,[(bn,.cells (mkCells [.int .u16 0] k).toArray 35 (0,0))]⟩:DqM).S=new k r:=by unfold DqM.S new; rw [Int.toNat_natCast]; rfl
   refine Fin.retW (by exact rfl) resA (fun _ h=>h) (.inr ⟨hm,⟨R,[],none,0,0,[],0,r,0,List.replicate k 0,some ⟨bn,0,none⟩,k,k,[(bn,.cells (mkCells [.int .u16 0] k).toArray 35 (0,0))]⟩,⟨by simp,.inl ⟨rfl,rfl,rfl⟩,?_,by rw [ho]; exact new_ok hm,Nat.zero_le _⟩,rfl,rfl,ho⟩)
   dsimp only
   rw [made_u16]
   exact OwnS.made _ _ _ _ (by unfold maxLen; omega)
 all_goals
  have hm:may n r=false:=decide_eq_false (by have:=of_decide_eq_true hc; omega)
  exact Fin.retW (by exact rfl) resA (fun _ h=>h) (.inl ⟨hm,rfl,rfl⟩)
theorem dofree_tr (F:Nat→Option Obj) (o:DqM) (ho:o.ok) (n:Int) (hn:n≤9223372036854775807):Tr Tryz.prog 100 [ptr o.R,.int .i64 n].toArray F o.H (fun v H=>v=.tuple #[]∧∃ o':DqM,o'.ok∧H=o'.H∧o'.R=o.R∧o'.S=free o.S n∧o'.is=o.is):=by
 refine Tr.enter Tryz.func100 rfl Tryz.ntmps100 rfl (fun w0=>?_)
 have h1:=ho.pl.room; have h2:=ho.pl.used
 dsimp only [DqM.S] at h1 h2
 unfold DqM.H DqM.hd
 refine SPU ?_; repeat' (first|refine ⟨fun hc=>?_,fun hc=>?_⟩|intro)
 rw [Go.Pth.go_mx,i64_id (by omega) (by omega),Go.Pth.go_mx,show max (o.used - max n 0) 0=o.used - Pth.mn (Pth.mx n 0) o.used by rw [Pth.mn_eq,Pth.mx_eq]; omega]
 exact Fin.endW (by exact rfl) resA (fun _ h=>h) ⟨rfl,{ o with used:=o.used - Pth.mn (Pth.mx n 0) o.used },⟨ho.own,ho.items,ho.nums,free_ok ho.pl n,ho.few⟩,rfl,rfl,rfl,rfl⟩
theorem dosize_tr (F:Nat→Option Obj) (o:DqM) (ho:o.ok):Tr Tryz.prog 173 [ptr o.R].toArray F o.H (fun v H=>v=.int .i64 (Oq.size o.S)∧H=o.H):=by
 refine Tr.enter Tryz.func173 rfl Tryz.ntmps173 rfl (fun w0=>?_)
 have hl:=ho.inl
 cases hs:o.is with
 | nil=>
   rw [hs] at hl
   have e:Oq.size o.S=0:=by unfold DqM.S Oq.size; rw [hs]; rfl
   rw [e]
   unfold DqM.H DqM.hd
   rw [hl]
   refine SPU ?_; repeat' (first|refine ⟨fun hc=>?_,fun hc=>?_⟩|intro)
   exact Fin.retW (by exact rfl) resA (fun _ h=>h) ⟨rfl,rfl⟩
 | cons m r=>
   have hm:m ∈ o.is:=by rw [hs]; exact List.mem_cons_self
   obtain ⟨h1,h2,h3⟩:=DqM.it ho hm
   have h4:=h1.at_; have h5:=h1.size
   obtain ⟨b,off,hia,hlt,hcan⟩:=dq_el (F:=F) ho (i:=0) (m:=m) (by rw [hs]; rfl)
   have e:Oq.size o.S=left m.it:=by unfold DqM.S Oq.size; rw [hs]; rfl
   rw [e]
   have hne:((o.in_:Int) == 0)=false:=by simp; omega
   have hia0:0≤(0:Int)∧(0:Int) < o.in_:=by omega
   unfold DqM.H DqM.hd at hcan ⊢
   have c2:Sl.Can F ((o.R,.cells [.slice o.ia o.in_ o.ic,.int .i64 o.many,.int .i64 o.room,.int .i64 o.used,.slice o.na o.nn o.nc].toArray 164 (0,0))::(o.ib++(o.nb++o.is.flatMap (·.bb)))) b (off+(0:Int).toNat * 7+0+2) [.slice m.ba m.bn m.bc]:=hcan.one (i:=2) rfl
   have c5:Sl.Can F ((o.R,.cells [.slice o.ia o.in_ o.ic,.int .i64 o.many,.int .i64 o.room,.int .i64 o.used,.slice o.na o.nn o.nc].toArray 164 (0,0))::(o.ib++(o.nb++o.is.flatMap (·.bb)))) b (off+(0:Int).toNat * 7+5) [.int .i64 m.it.at_]:=hcan.one (i:=5) rfl
   rw [hia] at c2 c5 ⊢
   clear hcan
   refine SPX ?_; repeat' (first|refine ⟨fun hc=>?_,fun hc=>?_⟩|intro)
   · exfalso; rw [hne] at hc; cases hc
   rw [i64_id (by omega) (by omega)]
   exact Fin.retW (by exact rfl) resA (fun _ h=>h) ⟨by unfold left; rw [h3]; show Value.int .i64 _=Value.int .i64 _; congr 1; omega,rfl⟩
structure GDW where
 i:Nat
theorem dowait_tr (F:Nat→Option Obj) (o:DqM) (ho:o.ok):Tr Tryz.prog 47 [ptr o.R].toArray F o.H (fun v H=>v=.int .i64 (Oq.waiting o.S)∧H=o.H):=by
 refine Tr.enter Tryz.func47 rfl Tryz.ntmps47 rfl (fun w0=>?_)
 have hl:=ho.inl
 have hfew:=ho.few
 unfold DqM.H DqM.hd
 refine SPU ?_; repeat' (first|refine ⟨fun hc=>?_,fun hc=>?_⟩|intro)
 have hsum:=fun i=>sum_most (f:=fun m:DiM=>left m.it) (b:=1048576) (l:=o.is) i (fun m hm=>by have h5:=(DqM.it ho hm).1.size; unfold left; omega)
 refine W.loop (G:=GDW) (fun g=>[(0,ptr o.R),(4,.int .i64 g.i),(3,.int .i64 ((o.is.take g.i).map (fun m=>left m.it)).sum)]) (fun _=>o.H) (fun g=>g.i≤o.in_) (fun g=>o.in_ - g.i) ⟨0⟩ (Nat.zero_le _) envA (fun _ h=>h) ?_
 rintro ⟨i⟩ hi
 dsimp only at hi ⊢
 unfold DqM.H DqM.hd
 refine SPX ?_; repeat' (first|refine ⟨fun hc=>?_,fun hc=>?_⟩|intro)
 · have hi':i < o.in_:=by have:=of_decide_eq_true (p:=(i:Int) < (o.in_:Int)) (by assumption); omega
   obtain ⟨m,hm⟩:∃ m,o.is[i]? = some m:=⟨o.is[i]'(by omega),by simp⟩
   obtain ⟨h1,h2,h3⟩:=DqM.it ho (List.mem_of_getElem? hm)
   have h4:=h1.at_; have h5:=h1.size
   obtain ⟨b,off,hia,hlt,hcan⟩:=dq_el (F:=F) ho hm
   have hia0:0≤(i:Int)∧(i:Int) < o.in_:=by omega
   have hs1:=hsum i
   have hs2:=sum_snoc (f:=fun m:DiM=>left m.it) hm
   unfold DqM.H DqM.hd at hcan
   have c2:Sl.Can F ((o.R,.cells [.slice o.ia o.in_ o.ic,.int .i64 o.many,.int .i64 o.room,.int .i64 o.used,.slice o.na o.nn o.nc].toArray 164 (0,0))::(o.ib++(o.nb++o.is.flatMap (·.bb)))) b (off+(i:Int).toNat * 7+0+2) [.slice m.ba m.bn m.bc]:=hcan.one (i:=2) rfl
   have c5:Sl.Can F ((o.R,.cells [.slice o.ia o.in_ o.ic,.int .i64 o.many,.int .i64 o.room,.int .i64 o.used,.slice o.na o.nn o.nc].toArray 164 (0,0))::(o.ib++(o.nb++o.is.flatMap (·.bb)))) b (off+(i:Int).toNat * 7+5) [.int .i64 m.it.at_]:=hcan.one (i:=5) rfl
   rw [hia] at c2 c5 ⊢
   clear hcan
   refine SPX ?_; repeat' (first|refine ⟨fun hc=>?_,fun hc=>?_⟩|intro)
   have hl2:left m.it=m.it.bs.length - m.it.at_:=rfl
   rw [show IntKind.i64.wrap (IntKind.i64.wrap ((((o.is.take i).map (fun m=>left m.it)).sum:Nat)+(m.bn:Int)) - (m.it.at_:Int))=((((o.is.take (i+1)).map (fun m=>left m.it)).sum:Nat):Int) by
    rw [i64_id (n:=((((o.is.take i).map (fun m=>left m.it)).sum:Nat):Int)+(m.bn:Int)) (by omega) (by omega),i64_id (by omega) (by omega),hs2]; omega,i64_succ (by omega)]
   exact Fin.round ⟨i+1⟩ hi' envA (fun _ h=>h) (by dsimp only; omega)
 · have hi':i=o.is.length:=by have:=of_decide_eq_false (p:=(i:Int) < (o.in_:Int)) (by assumption); omega
   subst hi'
   exact Fin.retW (by exact rfl) resA (fun _ h=>h) ⟨by rw [List.take_length]; unfold DqM.S Oq.waiting; dsimp only; rw [List.map_map]; rfl,rfl⟩
end Go.Proofs.YtlfpemmdehmbfaaGreat
namespace Go.Proofs.YtlfpemmdehmbfaaGreat
open Go Go.Sl Go.Oq
def DPutQ (o:DqM) (stream:Int) (ord:Bool) (bs:List UInt8) (til:Int) (v:Value) (H:HL):Prop:=
 v=tup [.int .i64 (if putE o.S stream bs.length til=0 then o.many else 0),.int .i64 (putE o.S stream bs.length til)]∧∃ o':DqM,o'.ok∧H=o'.H∧o'.R=o.R∧o'.S=put o.S stream ord bs til
set_option maxHeartbeats 4000000 in
theorem doput_tr (F:Nat→Option Obj) (o:DqM) (ho:o.ok) (hmany:0≤o.many∧o.many < 1000000000) (hfew:o.is.length < 1000000) (stream:Int) (hst:0≤stream∧stream < 65536) (ord:Bool) (bs:List UInt8) (ba:Option Addr) (bn bc:Nat) (hsrc:Lst F [] 1 (bs.map B) ba bn bc) (hbs:bs.length≤1000000000000) (til:Int) :
 Tr Tryz.prog 90 [ptr o.R,.agg [.int .u16 stream,.bool ord,.slice ba bn bc].toArray,.int .i64 til].toArray F o.H (DPutQ o stream ord bs til):=by
 refine Tr.enter Tryz.func90 rfl Tryz.ntmps90 rfl (fun w0=>?_)
 have hbn:bn=bs.length:=by have:=hsrc.len; simp at this; omega
 have hnl:=ho.nnl
 have h1:=ho.pl.room; have h2:=ho.pl.used
 dsimp only [DqM.S] at h1 h2
 unfold DqM.H DqM.hd
 refine SPX ?_; repeat' (first|refine ⟨fun hc=>?_,fun hc=>?_⟩|intro)
 all_goals simp (disch:=omega) only [i64_id,decide_eq_true_eq,decide_eq_false_iff_not,beq_iff_eq,beq_eq_false_iff_ne,ge_iff_le,gt_iff_lt] at *
 rotate_right
 · have hE:putE o.S stream bs.length til=0:=by
    unfold putE DqM.S
    dsimp only
    repeat' split
    all_goals (first | rfl | (exfalso; omega))
   rename_i bm be _ _ _ _
   refine WL.e rfl (Ef.app (m:=bn) (news:=bs.map B) (by exact rfl) (by exact rfl) rfl rfl (OwnS.empty _ _ be) (.last .here) ((hsrc.mono (fun _ h=>h.sublist (List.nil_sublist _))).src) (by rw [List.length_map]; omega) (fun u hu=>by obtain ⟨x,-,rfl⟩:=List.mem_map.1 hu; rfl) (by rw [List.length_map]; simp; omega) (by rw [List.length_map]; simp [maxLen]; omega)) ?_
   rintro v' _ ⟨bh,hown1,rfl⟩
   obtain ⟨sa1,sn1,sc1,rfl,_,_⟩:=OwnS.shape hown1
   refine SPX ?_; repeat' (first|refine ⟨fun hc=>?_,fun hc=>?_⟩|intro)
   obtain ⟨m,hm⟩:∃ m:DiM,m=⟨Oq.item o.S stream ord bs til,sa1,sn1,sc1,bh⟩:=⟨_,rfl⟩
   have hmc:m.cells=[.int .u16 stream,.bool ord,.slice sa1 sn1 sc1,.int .i64 o.many,.int .i64 til,.int .i64 0,.int .u16 0]:=by rw [hm]; rfl
   have hil:=ho.inl
   rw [←hmc]
   refine WD.e rfl (Ef.app (m:=1) (news:=m.cells) (hb:=o.ib) (by exact rfl) (by exact rfl) rfl rfl ho.items (.last (.there (.right (.there (.there .here))))) (Src.own (n:=7) (.here (by rw [hmc]; rfl))) rfl (by rw [hmc]; intro u hu; simp only [List.mem_cons,List.not_mem_nil,or_false] at hu; rcases hu with rfl | rfl | rfl | rfl | rfl | rfl | rfl <;> rfl) (by rw [flat_len' DiM.cells 7 (fun _=>rfl),hmc]; simp; omega) (by rw [flat_len' DiM.cells 7 (fun _=>rfl),hmc]; simp [maxLen]; omega)) ?_
   rintro v' _ ⟨lb',hown',rfl⟩
   refine ⟨.inl (by kernel_rfl),?_⟩
   obtain ⟨sa2,sn2,sc2,rfl,_,_⟩:=OwnS.shape hown'
   refine SPX ?_; repeat' (first|refine ⟨fun hc=>?_,fun hc=>?_⟩|intro)
   have hsn:sn1=bs.length:=by have:=OwnS.len hown1; simp at this; omega
   simp (disch:=omega) only [i64_id]
   have hS:DqM.S { o with ia:=sa2,in_:=sn2,ic:=sc2,ib:=lb',is:=o.is++[m],many:=o.many+1,used:=o.used+sn1 }=put o.S stream ord bs til:=by
    unfold put
    rw [if_pos hE]
    unfold DqM.S
    dsimp only
    rw [List.map_append,hm,hsn]
    rfl
   refine Fin.retW (by exact rfl) resA (H':=DqM.H { o with ia:=sa2,in_:=sn2,ic:=sc2,ib:=lb',is:=o.is++[m],many:=o.many+1,used:=o.used+sn1 }) (fun _ h=>?_) ⟨?_,{ o with ia:=sa2,in_:=sn2,ic:=sc2,ib:=lb',is:=o.is++[m],many:=o.many+1,used:=o.used+sn1 },⟨?_,?_,ho.nums,by rw [hS]; exact put_ok ho.pl hst.1 ord bs til,by simp; omega⟩,rfl,rfl,hS⟩
   · have h:=In.of_sub (.pick (.right (.there (.right (.there .here)))) (.pickL (L:=lb') .here (.pickL (L:=o.nb) (.there (.right (.there .here))) (.pickL (L:=o.is.flatMap (·.bb)) (.there (.right (.there .all))) (.last (L:=bh) (.there .here)))))) h
     unfold DqM.H DqM.hd
     dsimp only
     rw [List.flatMap_append,List.flatMap_cons,List.flatMap_nil,List.append_nil,show m.bb=bh by rw [hm]]
     exact h
   · rw [if_pos hE,hE,show o.many+1 - 1=o.many by omega]
   · intro q hq
     rcases List.mem_append.1 hq with hq | hq
     · exact ho.own q hq
     · rw [List.mem_singleton.1 hq,hm]
       exact hown1
   · dsimp only
     rw [List.flatMap_append,List.flatMap_cons,List.flatMap_nil,List.append_nil]
     exact hown'
 all_goals
  obtain ⟨E,hE,hE0⟩:∃ E,putE o.S stream bs.length til=E∧E≠0:=⟨_,rfl,by
   unfold putE DqM.S
   dsimp only
   repeat' split
   all_goals (first | decide | (exfalso; omega))⟩
  refine Fin.retW (by exact rfl) resA (H':=o.H) (fun _ h=>h.sublist (.cons _ (.refl _))) ⟨?_,o,ho,rfl,rfl,by unfold put; rw [if_neg (by rw [hE]; exact hE0)]⟩
  rw [if_neg (by rw [hE]; exact hE0)]
  unfold putE DqM.S
  dsimp only
  repeat' split
  all_goals (first | rfl | (exfalso; omega))
end Go.Proofs.YtlfpemmdehmbfaaGreat
namespace Go.Proofs.YtlfpemmdehmbfaaGreat
open Go Go.Sl Go.Oq
theorem diC_one (m:DiM):∀ u ∈ m.cells,u.oneCell'=true:=by
 intro u hu
 simp only [DiM.cells,List.mem_cons,List.not_mem_nil,or_false] at hu
 rcases hu with rfl | rfl | rfl | rfl | rfl | rfl | rfl <;> rfl
theorem diC_ones (l:List DiM):∀ u ∈ l.flatMap DiM.cells,u.oneCell'=true:=by
 intro u hu
 obtain ⟨m,_,hm⟩:=List.mem_flatMap.1 hu
 exact diC_one m u hm
def DNextQ (o:DqM) (most:Int) (v:Value) (H:HL):Prop:=match Oq.next o.S most with
 | none=>v=tup [.agg (dC Oq.noD none 0 0).toArray,.int .i64 0,.bool false]∧H=o.H
 | some (d,id,q')=>∃ (ba:Option Addr) (bn bc:Nat) (db:HL) (o':DqM),v=tup [.agg (dC d ba bn bc).toArray,.int .i64 id,.bool true]∧OwnS 5 1 (d.bs.map B) (.slice ba bn bc) db∧o'.ok∧o'.R=o.R∧o'.S=q'∧H=db++o'.H
theorem DNextQ.none {o:DqM} {most:Int} (h:Oq.next o.S most=none):DNextQ o most (tup [.agg (dC Oq.noD none 0 0).toArray,.int .i64 0,.bool false]) o.H:=by
 unfold DNextQ
 rw [h]
 exact ⟨rfl,rfl⟩
theorem DNextQ.some {o:DqM} {most:Int} {d:Flt.Dt} {id:Int} {q':Oq.S} (h:Oq.next o.S most=some (d,id,q')) (ba:Option Addr) (bn bc:Nat) (db:HL) (o':DqM) (hd:OwnS 5 1 (d.bs.map B) (.slice ba bn bc) db) (ho:o'.ok) (hR:o'.R=o.R) (hS:o'.S=q') :
 DNextQ o most (tup [.agg (dC d ba bn bc).toArray,.int .i64 id,.bool true]) (db++o'.H):=by
 unfold DNextQ
 rw [h]
 exact ⟨ba,bn,bc,db,o',rfl,hd,ho,hR,hS,rfl⟩
theorem endMin {x:It} (h:x.Ok) {most:Int} (h1:1≤most):((endAt x most:Nat):Int)=if most > (x.bs.length:Int) then (x.bs.length:Int) else min (x.at_+most) (x.bs.length:Int):=by
 have:=h.at_
 unfold endAt left
 rw [Pth.mn_eq]
 split <;> omega
set_option maxHeartbeats 8000000 in
theorem donext_tr (F:Nat→Option Obj) (o:DqM) (ho:o.ok) (most:Int) (hmost:most≤1000000000):Tr Tryz.prog 175 [ptr o.R,.int .i64 most].toArray F o.H (DNextQ o most):=by
 refine Tr.enter Tryz.func175 rfl Tryz.ntmps175 rfl (fun w0=>?_)
 have hil:=ho.inl
 cases hs:o.is with
 | nil=>
   have e:Oq.next o.S most=none:=by unfold DqM.S Oq.next; rw [hs]; split <;> rfl
   rw [hs] at hil
   unfold DqM.H DqM.hd
   rw [show o.in_=0 by simpa using hil]
   refine SPX ?_; repeat' (first|refine ⟨fun hc=>?_,fun hc=>?_⟩|intro)
   refine Fin.retW (by exact rfl) resA (H':=o.H) (fun _ h=>?_) (DNextQ.none e)
   unfold DqM.H DqM.hd
   rw [show o.in_=0 by simpa using hil]
   exact h.sublist findA
 | cons m r=>
   have hm:m ∈ o.is:=by rw [hs]; exact List.mem_cons_self
   obtain ⟨h1,h2,h3⟩:=DqM.it ho hm
   have h4:=h1.at_; have h5:=h1.size; have h6:=h1.stream; have h7:=h1.ssn
   have hnl:=ho.nnl
   have hfew:=ho.few
   have hcap:m.bn≤m.bc:=by obtain ⟨_,_,_,he,_,hle⟩:=OwnS.shape (ho.own m hm); cases he; exact hle
   have hicap:o.in_≤o.ic:=by obtain ⟨_,_,_,he,_,hle⟩:=OwnS.shape ho.items; cases he; exact hle
   obtain ⟨b,off,hia,hlt,hcan⟩:=dq_el (F:=F) ho (i:=0) (m:=m) (by rw [hs]; rfl)
   have hne:((o.in_:Int) == 0)=false:=by simp; omega
   have hia0:0≤(0:Int)∧(0:Int) < o.in_:=by omega
   have hSL:o.S.L=m.it::r.map (·.it):=by unfold DqM.S; dsimp only; rw [hs]; rfl
   have e0:o.H=o.hd::(o.ib++(o.nb++(m.bb++r.flatMap (·.bb)))):=by unfold DqM.H; rw [hs,List.flatMap_cons]
   have hq0:most < 1→DNextQ o most (tup [.agg (dC Oq.noD none 0 0).toArray,.int .i64 0,.bool false]) o.H:=fun hm1=>DNextQ.none (by unfold Oq.next; rw [if_pos hm1])
   have hnx:¬ most < 1→Oq.next o.S most=some (cutD o.S m.it most,m.it.id,nextS o.S m.it (r.map (·.it)) most):=fun hm1=>by unfold Oq.next; rw [if_neg hm1,hSL]
   obtain ⟨k,hk⟩:∃ k:Nat,m.it.stream=k:=⟨m.it.stream.toNat,by omega⟩
   have hkl:k < o.ns.length:=by omega
   obtain ⟨n,hn⟩:∃ n,o.ns[k]? = some n:=⟨o.ns[k],List.getElem?_eq_getElem hkl⟩
   have hnr:=ho.pl.ssn n (List.mem_of_getElem? hn)
   have hg:ssnOf o.S m.it=n:=by unfold ssnOf; rw [hk,Int.toNat_natCast,List.getD_eq_getElem?_getD]; show (o.ns[k]?).getD 0=n; rw [hn]; rfl
   obtain ⟨nbk,noff,hna,hnlt,hncan⟩:=own_el (v:=Value.int .u16) ho.nums hn
   have hnums:=ho.nums
   rw [hna] at hnums
   have hki:0≤m.it.stream∧m.it.stream < o.nn:=by omega
   obtain ⟨nb',hnums',hput⟩:=hnums.put k [.int .u16 (u16 (n+1))] (by simp; omega)
   rw [set_row (v:=Value.int .u16) hkl (u16 (n+1))] at hnums'
   have hsrcI:=Lst.own (F:=F) (H:=o.ib) ho.items (fun _ h=>h)
   rw [e0] at hcan hq0 ⊢
   unfold DqM.hd DiM.cells at hcan
   unfold DqM.hd at hq0 ⊢
   have hcn:Sl.Can F (o.ib++(o.nb++(m.bb++r.flatMap (·.bb)))) nbk (noff+(m.it.stream).toNat * 1) [.int .u16 n]:=by
    rw [hk]
    exact (hncan F).mono (fun _ h=>h.sublist ((List.sublist_append_left _ _).trans (List.sublist_append_right _ _)))
   rw [hia,hna] at hcan hq0 ⊢
   refine SPY ?_; repeat' (first|refine ⟨fun hc=>?_,fun hc=>?_⟩|intro)
   · exfalso; rw [hne] at hc; cases hc
   · exact Fin.retW (by exact rfl) resA (fun _ h=>h.sublist findA) (hq0 (of_decide_eq_true hc))
   have hm1:=of_decide_eq_false ‹decide (most < 1)=false›
   have hnx2:=hnx hm1
   clear hq0 hnx
   rename_i b4 _
   refine WL.s rfl (Rd.ldaC rfl rfl (hcan.mono (fun _ h=>h.sublist (.cons _ (.refl _))))) ?_
   iterate 22 (first | refine S2b ?_ | refine SA (fun _=>?_))
   rename_i b7 b8
   obtain ⟨bb,hbb⟩:∃ bb,(((m.it.at_:Int) == 0) && m.it.ord)=bb:=⟨_,rfl⟩
   have hnum:numbers m.it=bb:=by
    rw [←hbb]
    unfold numbers first
    congr 1
    by_cases h0:m.it.at_=0
    · simp [h0]
    · simp [h0]
   repeat refine W.seq ?_
   refine W.cut (G:=Unit) (fun _=>[(0,ptr o.R),(1,.int .i64 most),(4,ptr b4),(7,ptr b7),(8,ptr b8),(50,.bool bb)]) (fun _=>(b8,.cells ([.int .u32 0,.int .u16 m.it.stream,.int .u16 0,.bool (!m.it.ord),.bool ((m.it.at_:Int) == 0),.bool false,.slice none 0 0]:List Value).toArray 77 (0,0))::(b7,.cells [.int .u16 m.it.stream,.bool m.it.ord,.slice m.ba m.bn m.bc,.int .i64 m.it.id,.int .i64 m.it.til,.int .i64 m.it.at_,.int .u16 m.it.ssn].toArray 195 (0,0))::((b4,.cells [.int .u32 0,.int .u16 0,.int .u16 0,.bool false,.bool false,.bool false,.slice none 0 0].toArray 77 (0,0))::(o.R,.cells [.slice (some ⟨b,off,none⟩) o.in_ o.ic,.int .i64 o.many,.int .i64 o.room,.int .i64 o.used,.slice (some ⟨nbk,noff,none⟩) o.nn o.nc].toArray 164 (0,0))::(o.ib++(o.nb++(m.bb++r.flatMap (·.bb)))))) (fun _=>True) (fun K' hK _=>?_) ?_
   · refine SPY ?_; repeat' (first|refine ⟨fun hc=>?_,fun hc=>?_⟩|intro)
     · exact Fin.cut hK () trivial (by rw [←hbb,‹((m.it.at_:Int) == 0)=true›,Bool.true_and]; exact envA) (fun _ h=>h)
     · exact Fin.cut hK () trivial (by rw [←hbb,hc,Bool.false_and]; exact envA) (fun _ h=>h)
   rintro _ _
   refine Fin.next ?_
   repeat refine W.seq ?_
   have hput2:PutAt nbk (noff+(m.it.stream).toNat * 1) [.int .u16 (IntKind.u16.wrap (n+1))] o.nb nb':=by rw [hk]; simpa using hput
   refine W.cut (G:=NuG) (fun _=>[(0,ptr o.R),(1,.int .i64 most),(4,ptr b4),(7,ptr b7),(8,ptr b8)]) (fun g=>(b8,.cells ([.int .u32 0,.int .u16 m.it.stream,.int .u16 0,.bool (!m.it.ord),.bool ((m.it.at_:Int) == 0),.bool false,.slice none 0 0]:List Value).toArray 77 (0,0))::(b7,.cells [.int .u16 m.it.stream,.bool m.it.ord,.slice m.ba m.bn m.bc,.int .i64 m.it.id,.int .i64 m.it.til,.int .i64 m.it.at_,.int .u16 g.ss].toArray 195 (0,0))::((b4,.cells [.int .u32 0,.int .u16 0,.int .u16 0,.bool false,.bool false,.bool false,.slice none 0 0].toArray 77 (0,0))::(o.R,.cells [.slice (some ⟨b,off,none⟩) o.in_ o.ic,.int .i64 o.many,.int .i64 o.room,.int .i64 o.used,.slice (some ⟨nbk,noff,none⟩) o.nn o.nc].toArray 164 (0,0))::(o.ib++(g.nb++(m.bb++r.flatMap (·.bb)))))) (fun g=>(g.ss=if numbers m.it then ssnOf o.S m.it else m.it.ssn)∧OwnS 35 1 ((ssns o.S m.it).map (Value.int .u16)) (.slice (some ⟨nbk,noff,none⟩) o.nn o.nc) g.nb) (fun K' hK _=>?_) ?_
   · cases bb with
     | true=>
       refine W.cond_t rfl ?_
       refine SPX ?_; repeat' (first|refine ⟨fun hc=>?_,fun hc=>?_⟩|intro)
       refine WD.e0 (Ef.st rfl rfl rfl (.there (.there (.there (.there (.right (.left hput2))))))) ?_
       rintro _ _ ⟨rfl,rfl⟩
       refine ⟨.inl (by kernel_rfl),?_⟩
       refine SPX ?_; repeat' (first|refine ⟨fun hc=>?_,fun hc=>?_⟩|intro)
       refine Fin.cut hK ⟨nb',n⟩ ⟨by dsimp only; rw [hnum,if_pos rfl,hg],?_⟩ envA (fun _ h=>h)
       unfold ssns
       rw [hnum,if_pos rfl,hg,hk]
       exact hnums'
     | false=>
       refine W.cond_f rfl ?_
       refine SPY ?_; repeat' (first|refine ⟨fun hc=>?_,fun hc=>?_⟩|intro)
       exact Fin.cut hK ⟨o.nb,m.it.ssn⟩ ⟨by dsimp only; rw [hnum]; rfl,by unfold ssns; rw [hnum]; exact hnums⟩ envA (fun _ h=>h)
   clear hput hput2 hcn hncan hnums hnums'
   rintro ⟨nb1,ss⟩ ⟨hss,hown1⟩
   dsimp only at hss hown1 ⊢
   refine Fin.next ?_
   obtain ⟨E,hE⟩:∃ E,endAt m.it most=E:=⟨_,rfl⟩
   have hE1:=endAt_lt h1 (most:=most) (by omega)
   have hE2:=endAt_le h1 (most:=most)
   have hE3:=endMin h1 (most:=most) (by omega)
   rw [hE] at hE1 hE2 hE3
   refine SPQ ?_; repeat' (first|refine ⟨fun hc=>?_,fun hc=>?_⟩|intro)
   refine W.cut (G:=Unit) (fun _=>[(0,ptr o.R),(4,ptr b4),(7,ptr b7),(8,ptr b8),(9,.int .i64 E)]) (fun _=>(b8,.cells ([.int .u32 0,.int .u16 m.it.stream,.int .u16 ss,.bool (!m.it.ord),.bool ((m.it.at_:Int) == 0),.bool false,.slice none 0 0]:List Value).toArray 77 (0,0))::(b7,.cells [.int .u16 m.it.stream,.bool m.it.ord,.slice m.ba m.bn m.bc,.int .i64 m.it.id,.int .i64 m.it.til,.int .i64 m.it.at_,.int .u16 ss].toArray 195 (0,0))::((b4,.cells [.int .u32 0,.int .u16 0,.int .u16 0,.bool false,.bool false,.bool false,.slice none 0 0].toArray 77 (0,0))::(o.R,.cells [.slice (some ⟨b,off,none⟩) o.in_ o.ic,.int .i64 o.many,.int .i64 o.room,.int .i64 o.used,.slice (some ⟨nbk,noff,none⟩) o.nn o.nc].toArray 164 (0,0))::(o.ib++(nb1++(m.bb++r.flatMap (·.bb)))))) (fun _=>True) (fun K' hK _=>?_) ?_
   · simp only [Go.Pth.go_mn]
     rw [i64_id (n:=(m.it.at_:Int)+most) (by omega) (by omega)]
     rw [←h3] at hE3
     refine SPY ?_; repeat' (first|refine ⟨fun hc=>?_,fun hc=>?_⟩|intro)
     · have hc1:=of_decide_eq_true hc
       rw [if_pos hc1] at hE3
       refine Fin.cut hK () trivial (by rw [hE3]; exact envA) (fun _ h=>h)
     · have hc1:=of_decide_eq_false hc
       rw [if_neg hc1] at hE3
       exact Fin.cut hK () trivial (by rw [hE3]; exact envA) (fun _ h=>h)
   rintro _ _
   refine Fin.next ?_
   refine SPY ?_; repeat' (first|refine ⟨fun hc=>?_,fun hc=>?_⟩|intro)
   rename_i be
   refine WL.p rfl (Pu.slLH rfl rfl rfl (by omega) (by omega)) ?_
   simp only [Int.toNat_natCast]
   have hpart:=((Lst.own (F:=F) (H:=m.bb) (ho.own m hm) (fun _ h=>h)).part (lo:=m.it.at_) (up:=E) (by omega) (by omega))
   rw [←List.map_drop,←List.map_take] at hpart
   refine WL.e rfl (Ef.app (m:=E - m.it.at_) (news:=((m.it.bs.drop m.it.at_).take (E - m.it.at_)).map B) (by exact rfl) (by exact rfl) rfl rfl (OwnS.empty _ _ be) (.last .here) (hpart.mono (fun _ h=>h.sublist findA)).src (by simp; omega) (B_one _) (by simp; omega) (by simp [maxLen]; omega)) ?_
   rintro v' _ ⟨db,hcl,rfl⟩
   obtain ⟨ca,cn,cc,rfl,_,_⟩:=OwnS.shape hcl
   rw [List.nil_append] at hcl
   refine SPY ?_; repeat' (first|refine ⟨fun hc=>?_,fun hc=>?_⟩|intro)
   rename_i bi
   rw [hia] at hsrcI
   refine WL.e rfl (Ef.app (m:=o.in_) (news:=o.is.flatMap DiM.cells) (by exact rfl) (by exact rfl) rfl rfl (OwnS.empty _ _ bi) (.last .here) (hsrcI.mono (fun _ h=>h.sublist findA)).src (by rw [flat_len' DiM.cells 7 (fun _=>rfl)]; omega) (diC_ones _) (by rw [flat_len' DiM.cells 7 (fun _=>rfl)]; simp; omega) (by rw [flat_len' DiM.cells 7 (fun _=>rfl)]; simp [maxLen]; omega)) ?_
   rintro v' _ ⟨ib1,hib1,rfl⟩
   obtain ⟨xa,xn,xc,rfl,_,_⟩:=OwnS.shape hib1
   rw [List.nil_append] at hib1
   have hxn:xn=o.in_:=by have:=OwnS.len hib1; rw [flat_len' DiM.cells 7 (fun _=>rfl)] at this; omega
   obtain ⟨xb,xo,rfl⟩:=OwnS.addr hib1 (by omega)
   have hx0:0≤(0:Int)∧(0:Int) < xn:=by omega
   obtain ⟨m2,hm2⟩:∃ m2:DiM,m2={ m with it:=cutI o.S m.it most }:=⟨_,rfl⟩
   have hci:m2.cells=[.int .u16 m.it.stream,.bool m.it.ord,.slice m.ba m.bn m.bc,.int .i64 m.it.id,.int .i64 m.it.til,.int .i64 E,.int .u16 ss]:=by rw [hm2]; unfold DiM.cells cutI; dsimp only; rw [hE,←hss]
   obtain ⟨ib2,hib2,hputI⟩:=OwnS.setEl (cells:=DiM.cells) (fun _=>rfl) hib1 (k:=0) (by omega) m2
   rw [hci] at hputI
   have hputI2:PutAt xb (xo+(0:Int).toNat * 7) [.int .u16 m.it.stream,.bool m.it.ord,.slice m.ba m.bn m.bc,.int .i64 m.it.id,.int .i64 m.it.til,.int .i64 E,.int .u16 ss] ib1 ib2:=hputI
   rw [hs,List.set_cons_zero] at hib2
   refine SPY ?_; repeat' (first|refine ⟨fun hc=>?_,fun hc=>?_⟩|intro)
   refine WL.e0 (Ef.sta rfl rfl rfl rfl (.left hputI2)) ?_
   rintro _ _ ⟨rfl,rfl⟩
   have hcl':OwnS 5 1 ((cutD o.S m.it most).bs.map B) (.slice ca cn cc) db:=by unfold cutD; dsimp only; rw [hE]; exact hcl
   have hdE:dC (cutD o.S m.it most) ca cn cc=[.int .u32 0,.int .u16 m.it.stream,.int .u16 ss,.bool (!m.it.ord),.bool ((m.it.at_:Int) == 0),.bool ((E:Int) == (m.bn:Int)),.slice ca cn cc]:=by
    have hf1:decide (m.it.at_=0)=((m.it.at_:Int) == 0):=by
     by_cases h0:m.it.at_=0
     · simp [h0]
     · simp [h0]
    have hf2:decide (E=m.it.bs.length)=((E:Int) == (m.bn:Int)):=by
     rw [h3]
     by_cases h0:E=m.it.bs.length
     · simp [h0]
     · simp [h0]; omega
    unfold dC cutD first lastB
    dsimp only
    rw [hE,hss,hf1,hf2]
   refine SPQ ?_; repeat' (first|refine ⟨fun hc=>?_,fun hc=>?_⟩|intro)
   cases hlb:((E:Int) == (m.bn:Int)) with
   | true=>
     have hcE:E=m.it.bs.length:=by have:=beq_iff_eq.1 hlb; omega
     have hlast:lastB m.it most=true:=by unfold lastB; rw [hE]; exact decide_eq_true hcE
     rw [hlb] at hdE
     rw [List.flatMap_cons] at hib2
     have htl:=OwnS.tail (x:=m2.cells) (sz:=7) rfl (by decide) hib2
     refine SPY ?_; repeat' (first|refine ⟨fun hc=>?_,fun hc=>?_⟩|intro)
     refine WL.p rfl (Pu.slLo rfl rfl (by omega)) ?_
     refine SPY ?_; repeat' (first|refine ⟨fun hc=>?_,fun hc=>?_⟩|intro)
     have hS:DqM.S { o with is:=r,ia:=(if xc=(1:Int).toNat then some ⟨xb,xo,none⟩ else (some (⟨xb,xo,none⟩:Addr)).map (·.add ((1:Int).toNat * 7))),in_:=xn - (1:Int).toNat,ic:=xc - (1:Int).toNat,ib:=ib2,ns:=ssns o.S m.it,na:=some ⟨nbk,noff,none⟩,nb:=nb1 }=nextS o.S m.it (r.map (·.it)) most:=by
      unfold nextS
      rw [hlast,if_pos rfl]
      rfl
     refine W.draw [(b8,.cells (dC (cutD o.S m.it most) ca cn cc).toArray 77 (0,0)),(b7,.cells [.int .u16 m.it.stream,.bool m.it.ord,.slice m.ba m.bn m.bc,.int .i64 m.it.id,.int .i64 m.it.til,.int .i64 E,.int .u16 ss].toArray 195 (0,0))] (by kernel_rfl) (by kernel_rfl) (fun _ h=>by rw [hdE]; exact In.of_sub (.pick (.right (.right .here)) (.last (L:=[_]) (.right (.right .here)))) h) ?_
     rw [hdE]
     refine SPZ ?_; repeat' (first|refine ⟨fun hc=>?_,fun hc=>?_⟩|intro)
     refine WD.e0A (hk:=.inr (fun _ h=>In.of_sub (.pick (.right (.right .here)) (.last (L:=[_]) (.right (.right .here)))) h)) ?_
     refine SPZ ?_; repeat' (first|refine ⟨fun hc=>?_,fun hc=>?_⟩|intro)
     rw [←hdE]
     exact Fin.retW (by exact rfl) resA (H':=db++DqM.H { o with is:=r,ia:=(if xc=(1:Int).toNat then some ⟨xb,xo,none⟩ else (some (⟨xb,xo,none⟩:Addr)).map (·.add ((1:Int).toNat * 7))),in_:=xn - (1:Int).toNat,ic:=xc - (1:Int).toNat,ib:=ib2,ns:=ssns o.S m.it,na:=some ⟨nbk,noff,none⟩,nb:=nb1 }) (fun _ h=>In.of_sub (.pickL (L:=db) (.right .here) (.pick (.right (.there (.there (.there .here)))) (.pickL (L:=ib2) .here (.pickL (L:=nb1) (.there (.there (.there (.right .here)))) (.last (L:=r.flatMap (·.bb)) (.there (.there (.there (.right (.right .all)))))))))) h)
      (DNextQ.some hnx2 ca cn cc db _ hcl' ⟨fun q hq=>ho.own q (by rw [hs]; exact List.mem_cons_of_mem _ hq),htl,hown1,by rw [hS]; exact nextS_ok ho.pl hSL most,by rw [hs,List.length_cons] at hfew; dsimp only; omega⟩ rfl hS)
   | false=>
     have hcE:E≠m.it.bs.length:=by have:=beq_eq_false_iff_ne.1 hlb; omega
     have hlast:lastB m.it most=false:=by unfold lastB; rw [hE]; exact decide_eq_false hcE
     rw [hlb] at hdE
     refine SPY ?_; repeat' (first|refine ⟨fun hc=>?_,fun hc=>?_⟩|intro)
     have hS:DqM.S { o with is:=m2::r,ia:=some ⟨xb,xo,none⟩,in_:=xn,ic:=xc,ib:=ib2,ns:=ssns o.S m.it,na:=some ⟨nbk,noff,none⟩,nb:=nb1 }=nextS o.S m.it (r.map (·.it)) most:=by
      unfold nextS
      rw [hlast,hm2]
      rfl
     refine W.draw [(b8,.cells (dC (cutD o.S m.it most) ca cn cc).toArray 77 (0,0)),(b7,.cells [.int .u16 m.it.stream,.bool m.it.ord,.slice m.ba m.bn m.bc,.int .i64 m.it.id,.int .i64 m.it.til,.int .i64 E,.int .u16 ss].toArray 195 (0,0))] (by kernel_rfl) (by kernel_rfl) (fun _ h=>by rw [hdE]; exact In.of_sub (.pick (.right (.right .here)) (.last (L:=[_]) (.right (.right .here)))) h) ?_
     rw [hdE]
     refine SPZ ?_; repeat' (first|refine ⟨fun hc=>?_,fun hc=>?_⟩|intro)
     refine WD.e0A (hk:=.inr (fun _ h=>In.of_sub (.pick (.right (.right .here)) (.last (L:=[_]) (.right (.right .here)))) h)) ?_
     refine SPZ ?_; repeat' (first|refine ⟨fun hc=>?_,fun hc=>?_⟩|intro)
     rw [←hdE]
     refine Fin.retW (by exact rfl) resA (H':=db++DqM.H { o with is:=m2::r,ia:=some ⟨xb,xo,none⟩,in_:=xn,ic:=xc,ib:=ib2,ns:=ssns o.S m.it,na:=some ⟨nbk,noff,none⟩,nb:=nb1 }) (fun _ h=>?_)
      (DNextQ.some hnx2 ca cn cc db _ hcl' ⟨fun q hq=>?_,hib2,hown1,by rw [hS]; exact nextS_ok ho.pl hSL most,by rw [hs,List.length_cons] at hfew; dsimp only; rw [List.length_cons]; omega⟩ rfl hS)
     · unfold DqM.H DqM.hd
       dsimp only
       rw [List.flatMap_cons,show m2.bb=m.bb by rw [hm2]]
       exact In.of_sub (.pickL (L:=db) (.right .here) (.pick (.right (.there (.there (.there .here)))) (.pickL (L:=ib2) .here (.pickL (L:=nb1) (.there (.there (.there (.right .here)))) (.last (.there (.there (.there (.right .all))))))))) h
     · rcases List.mem_cons.1 hq with rfl | hq
       · rw [hm2]; exact ho.own m hm
       · exact ho.own q (by rw [hs]; exact List.mem_cons_of_mem _ hq)
end Go.Proofs.YtlfpemmdehmbfaaGreat
