/- Some texts as one. The logic's rule for copy into a slice that is owned (elements of one cell), and a made slice as an owned one. No conditions: laws only. A queue of messages in memory, and its methods but 'Expire', walked: they answer as the plain functions do. Conditions: it is well formed. A flight of pieces: Point, Get, Again, Add, walked: they answer as the plain functions do. Conditions: it is well formed; the bytes are few. The logic's rule for clear over a part of a slice that is owned. No conditions: laws only. -/
import Derived.Test.YtlfpemmdehmbfaaGreatBuC
import Derived.Test.YtlfpemmdehmbfaaGreatBuD
import Derived.Test.YtlfpemmdehmbfaaGreatBuE
import Derived.Test.YtlfpemmdehmbfaaGreatBuG
namespace Go.Sl
open Go
theorem OwnS.made (E:Nat) (z:Value) (b n:Nat) (h:n≤maxLen):OwnS E 1 (mkCells [z] n) (.slice (some ⟨b,0,none⟩) n n) [(b,.cells (mkCells [z] n).toArray E (0,0))]:=
 .inr ⟨b,n,n,[],[],[],rfl,by simp,by rw [length_mkCells]; simp,Nat.le_refl _,by simp,h⟩
theorem OwnS.can {E:Nat} {F:Nat→Option Obj} {H:HL} {xs:List Value} {sa:Option Addr} {sn sc:Nat} {hb:HL} (h:OwnS E 1 xs (.slice sa sn sc) hb) (hw:∀ w,In F H w→In F hb w) :
 (sa=none∧sn=0∧sc=0)∨∃ a,sa=some a∧∀ w,In F H w→∀ j u,xs[j]? = some u→w.cell? (a.add j)=some u:=by
 rcases h with ⟨he,rfl,_⟩ | ⟨g,n,cap,pre,spare,post,he,rfl,hl,hc,hsp,hm⟩
 · cases he; exact .inl ⟨rfl,rfl,rfl⟩
 · cases he
   refine .inr ⟨_,rfl,fun w hi j u hu=>?_⟩
   have hj:j < xs.length:=(List.getElem?_eq_some_iff.1 hu).1
   have hg:=(hw w hi).own _ (List.mem_cons_self ..)
   rw [add_lit,cell_of_row w g _ _ E _ hg]
   simp only [List.getElem?_toArray,List.append_assoc]
   rw [List.getElem?_append_right (by omega),Nat.add_sub_cancel_left,List.getElem?_append_left hj]
   exact hu
section
variable {x:Cx} {env:Env} {H:HL} {dst:Option Tmp} {ty:TypeId} {pos:String} {aft:Array Edge} {gd:Option (Nat × Bool)}
end
end Go.Sl
namespace Go.Proofs.YtlfpemmdehmbfaaGreat
open Go Go.Sl Go.Oq
structure ItM where
 b:Nat
 it:It
 ba:Option Addr
 bn:Nat
 bc:Nat
 bb:HL
def ItM.cells (m:ItM):List Value:=[.int .u16 m.it.stream,.bool m.it.ord,.slice m.ba m.bn m.bc,.int .i64 m.it.id,.int .i64 m.it.til,.int .i64 m.it.at_,.int .u16 m.it.ssn]
def ItM.H (m:ItM):HL:=(m.b,.cells m.cells.toArray 213 (0,0))::m.bb
def ItM.own (m:ItM):Prop:=OwnS 5 1 (m.it.bs.map B) (.slice m.ba m.bn m.bc) m.bb
theorem ItM.own.len {m:ItM} (h:m.own):m.bn=m.it.bs.length:=by have:=OwnS.len h; simp at this; omega
structure OqM where
 R:Nat
 is:List ItM
 ia:Option Addr
 in_:Nat
 ic:Nat
 ib:HL
 many:Int
 room:Int
 used:Int
 ns:List Int
 na:Option Addr
 nn:Nat
 nc:Nat
 nb:HL
def OqM.cells (o:OqM):List Value:=[.slice o.ia o.in_ o.ic,.int .i64 o.many,.int .i64 o.room,.int .i64 o.used,.slice o.na o.nn o.nc]
def OqM.H (o:OqM):HL:=(o.R,.cells o.cells.toArray 146 (0,0))::(o.ib++(o.nb++o.is.flatMap ItM.H))
def OqM.S (o:OqM):Oq.S:=⟨o.is.map (·.it),o.many,o.room,o.used,o.ns⟩
structure OqM.ok (o:OqM):Prop where
 own:∀ m ∈ o.is,m.own
 items:OwnS 193 1 (o.is.map (fun m=>ptr m.b)) (.slice o.ia o.in_ o.ic) o.ib
 nums:OwnS 35 1 (o.ns.map (Value.int .u16)) (.slice o.na o.nn o.nc) o.nb
 pl:Oq.Ok o.S
 few:o.is.length≤1000000
theorem OqM.ok.inl {o:OqM} (h:o.ok):o.in_=o.is.length:=by have:=OwnS.len h.items; simp at this; omega
theorem OqM.ok.nnl {o:OqM} (h:o.ok):o.nn=o.ns.length:=by have:=OwnS.len h.nums; simp at this; omega
theorem made_u16 (k:Nat):(List.replicate k (0:Int)).map (Value.int .u16)=mkCells [.int .u16 0] k:=by
 induction k with
 | zero=>rfl
 | succ k ih=>rw [List.replicate_succ,List.map_cons,ih]; rfl
theorem onew_tr (F:Nat→Option Obj) (n r:Int):Tr Tryz.prog 25 [.int .i64 n,.int .i64 r].toArray F [] (fun v H=>
 (may n r=false∧v=tup [.pointer none,.int .i64 1]∧H=[])∨(may n r=true∧∃ o:OqM,o.ok∧v=tup [ptr o.R,.int .i64 0]∧H=o.H∧o.S=new n r)):=by
 refine Tr.enter Tryz.func25 rfl Tryz.ntmps25 rfl (fun w0=>?_)
 refine SPU ?_; repeat' (first|refine ⟨fun hc=>?_,fun hc=>?_⟩|intro)
 rotate_right
 · simp only [decide_eq_false_iff_not] at *
   have hm:may n r=true:=decide_eq_true (by omega)
   obtain ⟨k,rfl⟩:∃ k:Nat,n=k:=⟨n.toNat,by omega⟩
   refine WL.e rfl (Ef.mkS (n:=k) (by exact rfl) (by exact rfl) rfl rfl (by omega) (by omega)) ?_
   rintro _ _ ⟨bn,rfl,rfl⟩
   refine SPU ?_; repeat' (first|refine ⟨fun hc=>?_,fun hc=>?_⟩|intro)
   rename_i R
   have ho:(⟨R,[],none,0,0,[],0,r,0,List.replicate k 0,some ⟨bn,0,none⟩,k,k,[(bn,.cells (mkCells [.int .u16 0] k).toArray 35 (0,0))]⟩:OqM).S=new k r:=by unfold OqM.S new; rw [Int.toNat_natCast]; rfl
   refine Fin.retW (by exact rfl) resA (fun _ h=>h) (.inr ⟨hm,⟨R,[],none,0,0,[],0,r,0,List.replicate k 0,some ⟨bn,0,none⟩,k,k,[(bn,.cells (mkCells [.int .u16 0] k).toArray 35 (0,0))]⟩,⟨by simp,.inl ⟨rfl,rfl,rfl⟩,?_,by rw [ho]; exact new_ok hm,Nat.zero_le _⟩,rfl,rfl,ho⟩)
   dsimp only
   rw [made_u16]
   exact OwnS.made _ _ _ _ (by unfold maxLen; omega)
 all_goals
  have hm:may n r=false:=decide_eq_false (by have:=of_decide_eq_true hc; omega)
  exact Fin.retW (by exact rfl) resA (fun _ h=>h) (.inl ⟨hm,rfl,rfl⟩)
theorem oleft_tr (F:Nat→Option Obj) (m:ItM) (hl:m.bn=m.it.bs.length) (hm:m.it.at_≤m.it.bs.length) (hb:m.it.bs.length≤1000000000000) (hc:Sl.Can F [] m.b 0 m.cells):Tr Tryz.prog 115 [ptr m.b].toArray F [] (fun v H=>v=.int .i64 (left m.it)∧H=[]):=by
 refine Tr.enter Tryz.func115 rfl Tryz.ntmps115 rfl (fun w0=>?_)
 have h2:Sl.Can F [] m.b (0+0+2) [.slice m.ba m.bn m.bc]:=hc.one (i:=2) rfl
 have h5:Sl.Can F [] m.b (0+5) [.int .i64 m.it.at_]:=hc.one (i:=5) rfl
 refine SPU ?_; repeat' (first|refine ⟨fun hc=>?_,fun hc=>?_⟩|intro)
 rw [i64_id (by omega) (by omega)]
 exact Fin.retW (by exact rfl) resA (fun _ h=>h) ⟨by unfold left; rw [hl]; show Value.int .i64 _=Value.int .i64 _; congr 1; omega,rfl⟩
theorem ofree_tr (F:Nat→Option Obj) (o:OqM) (ho:o.ok) (n:Int):Tr Tryz.prog 71 [ptr o.R,.int .i64 n].toArray F o.H (fun v H=>v=.tuple #[]∧∃ o':OqM,o'.ok∧H=o'.H∧o'.R=o.R∧o'.S=free o.S n∧o'.is=o.is):=by
 refine Tr.enter Tryz.func71 rfl Tryz.ntmps71 rfl (fun w0=>?_)
 have h1:=ho.pl.room; have h2:=ho.pl.used
 dsimp only [OqM.S] at h1 h2
 unfold OqM.H OqM.cells
 refine SPU ?_; repeat' (first|refine ⟨fun hc=>?_,fun hc=>?_⟩|intro)
 simp (disch:=omega) only [i64_id,Int.tdiv_eq_ediv_of_nonneg,Go.Pth.go_mx,Go.Pth.go_mn]
 exact Fin.endW (by exact rfl) resA (fun _ h=>h) ⟨rfl,{ o with used:=o.used - Pth.mn (Pth.mx n 0) o.used },⟨ho.own,ho.items,ho.nums,free_ok ho.pl n,ho.few⟩,rfl,rfl,rfl,rfl⟩
theorem flat_sub {α:Type} (f:α→HL) {l:List α} {a:α} (h:a ∈ l):(f a).Sublist (l.flatMap f):=by
 induction l with
 | nil=>cases h
 | cons b l ih=>
   rw [List.flatMap_cons]
   rcases List.mem_cons.1 h with rfl | h
   · exact List.sublist_append_left _ _
   · exact (ih h).trans (List.sublist_append_right _ _)
theorem item_can {F:Nat→Option Obj} {m:ItM}:Sl.Can F m.H m.b 0 m.cells:=Can.cut (n:=7) (.here rfl)
theorem OqM.item {F:Nat→Option Obj} {o:OqM} {m:ItM} (h:m ∈ o.is):Sl.Can F o.H m.b 0 m.cells:=
 item_can.mono (fun _ hi=>hi.sublist (.cons _ (((flat_sub ItM.H h).trans (List.sublist_append_right o.nb _)).trans (List.sublist_append_right o.ib _))))
theorem own_el {α:Type} {v:α→Value} {E:Nat} {l:List α} {sa:Option Addr} {n c:Nat} {hb:HL} (h:OwnS E 1 (l.map v) (.slice sa n c) hb) {i:Nat} {a:α} (hi:l[i]? = some a) :
 ∃ b off,sa=some ⟨b,off,none⟩∧i < n∧∀ F:Nat→Option Obj,Sl.Can F hb b (off+(i:Int).toNat * 1) [v a]:=by
 have hlt:=(List.getElem?_eq_some_iff.1 hi).1
 have hn:n=l.length:=by have:=OwnS.len h; simp at this; omega
 obtain ⟨b,off,rfl⟩:=OwnS.addr h (by omega)
 refine ⟨b,off,rfl,by omega,fun F=>?_⟩
 have hv:(l.map v)[i]? = some (v a):=by rw [List.getElem?_map,hi]; rfl
 have hL:=Lst.own (F:=F) h (fun _ hh=>hh)
 obtain ⟨b',off',he,hcan⟩:=hL.can (by omega)
 cases he
 have:=hcan.one hv
 rw [show ((i:Nat):Int).toNat * 1=i by omega]
 exact this
theorem OqM.ptrAt {o:OqM} (ho:o.ok) {i:Nat} {m:ItM} (hi:o.is[i]? = some m):∃ b off,o.ia=some ⟨b,off,none⟩∧i < o.in_∧∀ F:Nat→Option Obj,Sl.Can F o.ib b (off+(i:Int).toNat * 1) [ptr m.b]:=own_el ho.items hi
theorem OqM.it {o:OqM} (ho:o.ok) {m:ItM} (hm:m ∈ o.is):m.it.Ok∧m.it.stream < o.ns.length∧m.bn=m.it.bs.length:=by
 have h:=ho.pl.its m.it (List.mem_map.2 ⟨m,hm,rfl⟩)
 exact ⟨h.1,h.2,(ho.own m hm).len⟩
theorem osize_tr (F:Nat→Option Obj) (o:OqM) (ho:o.ok):Tr Tryz.prog 184 [ptr o.R].toArray F o.H (fun v H=>v=.int .i64 (Oq.size o.S)∧H=o.H):=by
 refine Tr.enter Tryz.func184 rfl Tryz.ntmps184 rfl (fun w0=>?_)
 have hl:=ho.inl
 cases hs:o.is with
 | nil=>
   rw [hs] at hl
   have e:Oq.size o.S=0:=by unfold OqM.S Oq.size; rw [hs]; rfl
   rw [e]
   unfold OqM.H OqM.cells
   rw [hl]
   refine SPU ?_; repeat' (first|refine ⟨fun hc=>?_,fun hc=>?_⟩|intro)
   exact Fin.retW (by exact rfl) resA (fun _ h=>h) ⟨rfl,rfl⟩
 | cons m r=>
   have hm:m ∈ o.is:=by rw [hs]; exact List.mem_cons_self
   obtain ⟨h1,h2,h3⟩:=OqM.it ho hm
   have h4:=h1.at_; have h5:=h1.size
   obtain ⟨b,off,hia,hlt,hcan⟩:=OqM.ptrAt ho (i:=0) (m:=m) (by rw [hs]; rfl)
   have hcan:=hcan F
   have e:Oq.size o.S=left m.it:=by unfold OqM.S Oq.size; rw [hs]; rfl
   rw [e]
   have hne:((o.in_:Int) == 0)=false:=by simp; omega
   have hia0:0≤(0:Int)∧(0:Int) < o.in_:=by omega
   unfold OqM.H OqM.cells
   rw [hia]
   refine SPX ?_; repeat' (first|refine ⟨fun hc=>?_,fun hc=>?_⟩|intro)
   · exfalso; rw [hne] at hc; cases hc
   refine WL.e rfl (Ef.lookR (by exact rfl) (fun F' hF=>oleft_tr F' m h3 (by omega) (by omega) (item_can.mono (fun w h=>(hF w h).sublist (.cons _ (((flat_sub ItM.H hm).trans (List.sublist_append_right o.nb _)).trans (List.sublist_append_right o.ib _))))))) ?_
   rintro _ _ ⟨rfl,rfl⟩
   refine SPX ?_; repeat' (first|refine ⟨fun hc=>?_,fun hc=>?_⟩|intro)
   exact Fin.retW (by exact rfl) resA (fun _ h=>h) ⟨rfl,rfl⟩
theorem sum_snoc {α:Type} {f:α→Nat} {l:List α} {i:Nat} {a:α} (h:l[i]? = some a):((l.take (i+1)).map f).sum=((l.take i).map f).sum+f a:=by
 rw [List.take_add_one,h]
 simp
theorem sum_most {α:Type} {f:α→Nat} {b:Nat} {l:List α} (i:Nat) (h:∀ a ∈ l,f a≤b):((l.take i).map f).sum≤b * i:=by
 induction i with
 | zero=>simp
 | succ i ih=>
   cases hm:l[i]? with
   | none=>
     rw [List.take_add_one,hm,Nat.mul_succ]
     simp only [Option.toList_none,List.append_nil]
     omega
   | some a=>
     have:=h a (List.mem_of_getElem? hm)
     rw [sum_snoc hm,Nat.mul_succ]
     omega
structure GW where
 i:Nat
theorem owait_tr (F:Nat→Option Obj) (o:OqM) (ho:o.ok):Tr Tryz.prog 45 [ptr o.R].toArray F o.H (fun v H=>v=.int .i64 (Oq.waiting o.S)∧H=o.H):=by
 refine Tr.enter Tryz.func45 rfl Tryz.ntmps45 rfl (fun w0=>?_)
 have hl:=ho.inl
 have hfew:=ho.few
 unfold OqM.H OqM.cells
 refine SPX ?_; repeat' (first|refine ⟨fun hc=>?_,fun hc=>?_⟩|intro)
 have hsum:=fun i=>sum_most (f:=fun m:ItM=>left m.it) (b:=1048576) (l:=o.is) i (fun m hm=>by have h5:=(OqM.it ho hm).1.size; unfold left; omega)
 refine W.loop (G:=GW) (fun g=>[(11,.slice o.ia o.in_ o.ic),(12,.int .i64 o.in_),(13,.int .i64 g.i),(3,.int .i64 ((o.is.take g.i).map (fun m=>left m.it)).sum)]) (fun _=>o.H) (fun g=>g.i≤o.in_) (fun g=>o.in_ - g.i) ⟨0⟩ (Nat.zero_le _) envA (fun _ h=>h) ?_
 rintro ⟨i⟩ hi
 dsimp only at hi ⊢
 refine SPX ?_; repeat' (first|refine ⟨fun hc=>?_,fun hc=>?_⟩|intro)
 · have hi':i < o.in_:=by have:=of_decide_eq_true hc; omega
   obtain ⟨m,hm⟩:∃ m,o.is[i]? = some m:=⟨o.is[i]'(by omega),by simp⟩
   obtain ⟨h1,h2,h3⟩:=OqM.it ho (List.mem_of_getElem? hm)
   have h4:=h1.at_; have h5:=h1.size
   obtain ⟨b,off,hia,hlt,hcan⟩:=OqM.ptrAt ho hm
   have hcan:=(hcan F).mono (F':=F) (H':=o.H) (fun _ h=>h.sublist (.cons _ (List.sublist_append_left _ _)))
   have hia0:0≤(i:Int)∧(i:Int) < o.in_:=by omega
   have hs1:=hsum i
   have hs2:=sum_snoc (f:=fun m:ItM=>left m.it) hm
   rw [hia]
   refine SPX ?_; repeat' (first|refine ⟨fun hc=>?_,fun hc=>?_⟩|intro)
   refine WL.e rfl (Ef.lookR (by exact rfl) (fun F' hF=>oleft_tr F' m h3 (by omega) (by omega) ((OqM.item (F:=F) (List.mem_of_getElem? hm)).mono (fun w h=>hF w h)))) ?_
   rintro _ _ ⟨rfl,rfl⟩
   refine SPX ?_; repeat' (first|refine ⟨fun hc=>?_,fun hc=>?_⟩|intro)
   have hl2:left m.it≤1048576:=by unfold left; omega
   rw [i64_id (n:=(((o.is.take i).map (fun m=>left m.it)).sum:Int)+(left m.it:Int)) (by omega) (by omega),i64_succ (by omega)]
   rw [hia] at *
   exact Fin.round ⟨i+1⟩ hi' (by dsimp only; rw [hs2]; push_cast; exact envA) (fun _ h=>h) (by dsimp only; omega)
 · have hi':i=o.is.length:=by have:=of_decide_eq_false hc; omega
   subst hi'
   exact Fin.retW (by exact rfl) resA (fun _ h=>h) ⟨by rw [List.take_length]; unfold OqM.S Oq.waiting; dsimp only; rw [List.map_map]; rfl,rfl⟩
theorem u16_back {n:Int} (h:0≤n∧n < 65536):IntKind.u16.wrap (u16 (n+1) - 1)=n:=by
 have e:∀ k:Int,IntKind.u16.wrap k=k % 65536:=fun k=>by simp [IntKind.wrap,IntKind.bits,IntKind.signed]
 rw [e,show u16 (n+1)=(n+1) % 65536 from e _]
 omega
theorem set_row {α:Type} {v:α→Value} {l:List α} {i:Nat} (hi:i < l.length) (a:α):(l.map v).take i++[v a]++(l.map v).drop (i+[v a].length)=(l.set i a).map v:=by
 rw [List.map_set,List.set_eq_take_append_cons_drop,if_pos (by simpa using hi)]
 simp
theorem onum_tr (F:Nat→Option Obj) (ns:List Int) (na:Option Addr) (nn nc:Nat) (nb:HL) (hown:OwnS 35 1 (ns.map (Value.int .u16)) (.slice na nn nc) nb) (st:Int) (hst:0≤st∧st < ns.length) (hr:∀ n ∈ ns,0≤n∧n < 65536) :
 Tr Tryz.prog 185 [.slice na nn nc,.int .u16 st].toArray F nb (fun v H=>v=.int .u16 (ns.getD st.toNat 0)∧OwnS 35 1 ((ns.set st.toNat (u16 (ns.getD st.toNat 0+1))).map (Value.int .u16)) (.slice na nn nc) H):=by
 refine Tr.enter Tryz.func185 rfl Tryz.ntmps185 rfl (fun w0=>?_)
 have hnn:nn=ns.length:=by have:=OwnS.len hown; simp at this; omega
 obtain ⟨k,rfl⟩:∃ k:Nat,st=k:=⟨st.toNat,by omega⟩
 rw [Int.toNat_natCast]
 have hk:k < ns.length:=by omega
 obtain ⟨n,hn⟩:∃ n,ns[k]? = some n:=⟨ns[k],List.getElem?_eq_getElem hk⟩
 have hg:ns.getD k 0=n:=by rw [List.getD_eq_getElem?_getD,hn]; rfl
 have hnr:=hr n (List.mem_of_getElem? hn)
 rw [hg]
 obtain ⟨b,off,rfl,hlt,hcan⟩:=own_el hown hn
 have hcan:=hcan F
 have hia:0≤(k:Int)∧(k:Int) < nn:=by omega
 obtain ⟨nb',hown',hput⟩:=hown.put k [.int .u16 (u16 (n+1))] (by simp; omega)
 have e1:=set_row (v:=Value.int .u16) hk (u16 (n+1))
 rw [e1] at hown'
 have hn':(ns.set k (u16 (n+1)))[k]? = some (u16 (n+1)):=List.getElem?_set_self hk
 obtain ⟨b',off',he',_,hcan'⟩:=own_el hown' hn'
 cases he'
 have hcan':=hcan' F
 refine SPX ?_; repeat' (first|refine ⟨fun hc=>?_,fun hc=>?_⟩|intro)
 refine WL.e0 (Ef.st rfl rfl rfl (by simpa using hput)) ?_
 rintro _ _ ⟨rfl,rfl⟩
 clear hcan
 refine SPX ?_; repeat' (first|refine ⟨fun hc=>?_,fun hc=>?_⟩|intro)
 rw [u16_back hnr]
 exact Fin.retW (by exact rfl) resA (fun _ h=>h) ⟨rfl,hown'⟩
def PutQ (o:OqM) (stream:Int) (ord:Bool) (bs:List UInt8) (til:Int) (v:Value) (H:HL):Prop:=
 v=tup [.int .i64 (if putE o.S stream bs.length til=0 then o.many else 0),.int .i64 (putE o.S stream bs.length til)]∧∃ o':OqM,o'.ok∧H=o'.H∧o'.R=o.R∧o'.S=put o.S stream ord bs til
set_option maxHeartbeats 4000000 in
theorem oput_tr (F:Nat→Option Obj) (o:OqM) (ho:o.ok) (hmany:0≤o.many∧o.many < 1000000000) (hfew:o.is.length < 1000000) (stream:Int) (hst:0≤stream∧stream < 65536) (ord:Bool) (bs:List UInt8) (ba:Option Addr) (bn bc:Nat) (hsrc:Lst F [] 1 (bs.map B) ba bn bc) (til:Int) :
 Tr Tryz.prog 62 [ptr o.R,.agg [.int .u16 stream,.bool ord,.slice ba bn bc].toArray,.int .i64 til].toArray F o.H (PutQ o stream ord bs til):=by
 refine Tr.enter Tryz.func62 rfl Tryz.ntmps62 rfl (fun w0=>?_)
 have hbn:bn=bs.length:=by have:=hsrc.len; simp at this; omega
 have hnl:=ho.nnl
 have h1:=ho.pl.room; have h2:=ho.pl.used
 dsimp only [OqM.S] at h1 h2
 unfold OqM.H OqM.cells
 refine SPX ?_; repeat' (first|refine ⟨fun hc=>?_,fun hc=>?_⟩|intro)
 all_goals simp (disch:=omega) only [i64_id,decide_eq_true_eq,decide_eq_false_iff_not,beq_iff_eq,beq_eq_false_iff_ne,ge_iff_le,gt_iff_lt] at *
 rotate_right
 · have hE:putE o.S stream bs.length til=0:=by
    unfold putE OqM.S
    dsimp only
    repeat' split
    all_goals (first | rfl | (exfalso; omega))
   refine WL.e rfl (Ef.look (by exact rfl) (fun F' hF=>clone_tr F' bs ba bn bc (hsrc.mono (fun w h=>(hF w h).sublist (List.nil_sublist _))) (by omega))) ?_
   rintro _ _ ⟨ib,⟨ca,cn,cc,rfl,hcl⟩,rfl⟩
   refine SPX ?_; repeat' (first|refine ⟨fun hc=>?_,fun hc=>?_⟩|intro)
   rename_i b4 bi bp
   have hil:=ho.inl
   refine WD.e rfl (Ef.app (m:=1) (news:=[ptr bi]) (hb:=o.ib) (by exact rfl) (by exact rfl) rfl rfl ho.items (.last (.there (.there (.right (.there (.there .here)))))) (Src.own (n:=1) (.here rfl)) rfl (by simp [Value.oneCell']) (by simp; omega) (by simp [maxLen]; omega)) ?_
   rintro v' _ ⟨hb',hown',rfl⟩
   refine ⟨.inl (by kernel_rfl),?_⟩
   obtain ⟨ja,jn,jc,rfl,_,_⟩:=OwnS.shape hown'
   have hcn:cn=bs.length:=by have:=OwnS.len hcl; simp at this; omega
   refine SPX ?_; repeat' (first|refine ⟨fun hc=>?_,fun hc=>?_⟩|intro)
   simp (disch:=omega) only [i64_id]
   obtain ⟨m,hm⟩:∃ m:ItM,m=⟨bi,Oq.item o.S stream ord bs til,ca,cn,cc,ib⟩:=⟨_,rfl⟩
   have hS:OqM.S { o with ia:=ja,in_:=jn,ic:=jc,ib:=hb',is:=o.is++[m],many:=o.many+1,used:=o.used+cn }=put o.S stream ord bs til:=by
    unfold put
    rw [if_pos hE]
    unfold OqM.S
    dsimp only
    rw [List.map_append,hm,hcn]
    rfl
   refine Fin.retW (by exact rfl) resA (H':=OqM.H { o with ia:=ja,in_:=jn,ic:=jc,ib:=hb',is:=o.is++[m],many:=o.many+1,used:=o.used+cn }) (fun _ h=>?_) ⟨?_,{ o with ia:=ja,in_:=jn,ic:=jc,ib:=hb',is:=o.is++[m],many:=o.many+1,used:=o.used+cn },⟨?_,?_,ho.nums,by rw [hS]; exact put_ok ho.pl hst.1 ord bs til,by simp; omega⟩,rfl,rfl,hS⟩
   · have h:=In.of_sub (.pick (.right (.there (.there (.right (.there .here))))) (.pickL (L:=hb') .here (.pickL (L:=o.nb) (.there (.there (.right (.there .here)))) (.pickL (L:=o.is.flatMap ItM.H) (.there (.there (.right (.there .all)))) (.pick (.there .here) (.last (L:=ib) (.there .here))))))) h
     unfold OqM.H OqM.cells
     dsimp only
     rw [List.flatMap_append,hm,List.flatMap_cons,List.flatMap_nil,List.append_nil]
     exact h
   · rw [if_pos hE,hE,show o.many+1 - 1=o.many by omega]
   · intro q hq
     rcases List.mem_append.1 hq with hq | hq
     · exact ho.own q hq
     · rw [List.mem_singleton.1 hq,hm]
       exact hcl
   · dsimp only
     rw [List.map_append,hm]
     exact hown'
 all_goals
  obtain ⟨E,hE,hE0⟩:∃ E,putE o.S stream bs.length til=E∧E≠0:=⟨_,rfl,by
   unfold putE OqM.S
   dsimp only
   repeat' split
   all_goals (first | decide | (exfalso; omega))⟩
  refine Fin.retW (by exact rfl) resA (H':=o.H) (fun _ h=>h.sublist (.cons _ (.refl _))) ⟨?_,o,ho,rfl,rfl,by unfold put; rw [if_neg (by rw [hE]; exact hE0)]⟩
  rw [if_neg (by rw [hE]; exact hE0)]
  unfold putE OqM.S
  dsimp only
  repeat' split
  all_goals (first | rfl | (exfalso; omega))
def dC (d:Flt.Dt) (ba:Option Addr) (bn bc:Nat):List Value:=[.int .u32 d.tsn,.int .u16 d.stream,.int .u16 d.ssn,.bool d.un,.bool d.fi,.bool d.la,.slice ba bn bc]
def NextQ (o:OqM) (most:Int) (v:Value) (H:HL):Prop:=match Oq.next o.S most with
 | none=>v=tup [.agg (dC Oq.noD none 0 0).toArray,.int .i64 0,.bool false]∧H=o.H
 | some (d,id,q')=>∃ (ba:Option Addr) (bn bc:Nat) (db:HL) (o':OqM),v=tup [.agg (dC d ba bn bc).toArray,.int .i64 id,.bool true]∧OwnS 5 1 (d.bs.map B) (.slice ba bn bc) db∧o'.ok∧o'.R=o.R∧o'.S=q'∧H=db++o'.H
theorem NextQ.none {o:OqM} {most:Int} (h:Oq.next o.S most=none):NextQ o most (tup [.agg (dC Oq.noD none 0 0).toArray,.int .i64 0,.bool false]) o.H:=by
 unfold NextQ
 rw [h]
 exact ⟨rfl,rfl⟩
theorem endI {x:It} {most:Int} (h:1≤most):(x.at_:Int)+min most (left x:Int)=((endAt x most:Nat):Int):=by
 unfold endAt
 rw [Pth.mn_eq]
 omega
structure NuG where
 nb:HL
 ss:Int
theorem NextQ.some {o:OqM} {most:Int} {d:Flt.Dt} {id:Int} {q':Oq.S} (h:Oq.next o.S most=some (d,id,q')) (ba:Option Addr) (bn bc:Nat) (db:HL) (o':OqM) (hd:OwnS 5 1 (d.bs.map B) (.slice ba bn bc) db) (ho:o'.ok) (hR:o'.R=o.R) (hS:o'.S=q') :
 NextQ o most (tup [.agg (dC d ba bn bc).toArray,.int .i64 id,.bool true]) (db++o'.H):=by
 unfold NextQ
 rw [h]
 exact ⟨ba,bn,bc,db,o',rfl,hd,ho,hR,hS,rfl⟩
set_option maxHeartbeats 8000000 in
theorem onext_tr (F:Nat→Option Obj) (o:OqM) (ho:o.ok) (most:Int) (hmost:most≤1000000000):Tr Tryz.prog 137 [ptr o.R,.int .i64 most].toArray F o.H (NextQ o most):=by
 refine Tr.enter Tryz.func137 rfl Tryz.ntmps137 rfl (fun w0=>?_)
 have hil:=ho.inl
 cases hs:o.is with
 | nil=>
   have e:Oq.next o.S most=none:=by unfold OqM.S Oq.next; rw [hs]; split <;> rfl
   rw [hs] at hil
   unfold OqM.H OqM.cells
   rw [show o.in_=0 by simpa using hil]
   refine SPX ?_; repeat' (first|refine ⟨fun hc=>?_,fun hc=>?_⟩|intro)
   refine Fin.retW (by exact rfl) resA (H':=o.H) (fun _ h=>?_) (NextQ.none e)
   unfold OqM.H OqM.cells
   rw [show o.in_=0 by simpa using hil]
   exact h.sublist findA
 | cons m r=>
   have hm:m ∈ o.is:=by rw [hs]; exact List.mem_cons_self
   obtain ⟨h1,h2,h3⟩:=OqM.it ho hm
   have h4:=h1.at_; have h5:=h1.size; have h6:=h1.stream; have h7:=h1.ssn
   have hnl:=ho.nnl
   have hcap:m.bn≤m.bc:=by obtain ⟨_,_,_,he,_,hle⟩:=OwnS.shape (ho.own m hm); cases he; exact hle
   have hicap:o.in_≤o.ic:=by obtain ⟨_,_,_,he,_,hle⟩:=OwnS.shape ho.items; cases he; exact hle
   obtain ⟨b,off,hia,hlt,hcan⟩:=OqM.ptrAt ho (i:=0) (m:=m) (by rw [hs]; rfl)
   have hcan:=hcan F
   have hne:((o.in_:Int) == 0)=false:=by simp; omega
   have hia0:0≤(0:Int)∧(0:Int) < o.in_:=by omega
   have hlf:left m.it+m.it.at_=m.it.bs.length:=by unfold left; omega
   have hSL:o.S.L=m.it::r.map (·.it):=by unfold OqM.S; dsimp only; rw [hs]; rfl
   have e0:o.H=(o.R,.cells o.cells.toArray 146 (0,0))::(o.ib++(o.nb++((m.b,.cells m.cells.toArray 213 (0,0))::(m.bb++r.flatMap ItM.H)))):=by unfold OqM.H; rw [hs,List.flatMap_cons]; rfl
   have hq0:most < 1→NextQ o most (tup [.agg (dC Oq.noD none 0 0).toArray,.int .i64 0,.bool false]) o.H:=fun hm1=>NextQ.none (by unfold Oq.next; rw [if_pos hm1])
   have hnx:¬ most < 1→Oq.next o.S most=some (cutD o.S m.it most,m.it.id,nextS o.S m.it (r.map (·.it)) most):=fun hm1=>by unfold Oq.next; rw [if_neg hm1,hSL]
   rw [e0] at hq0 ⊢
   unfold OqM.cells ItM.cells at hq0 ⊢
   rw [hia] at hq0 ⊢
   refine SPY ?_; repeat' (first|refine ⟨fun hc=>?_,fun hc=>?_⟩|intro)
   · exfalso; rw [hne] at hc; cases hc
   · exact Fin.retW (by exact rfl) resA (fun _ h=>h.sublist findA) (hq0 (of_decide_eq_true hc))
   have hm1:=of_decide_eq_false ‹decide (most < 1)=false›
   have hnx:=hnx hm1
   clear hq0
   refine W.drawA ?_
   iterate 20 (refine S2b ?_)
   rename_i b4 _
   obtain ⟨bb,hbb⟩:∃ bb,(((m.it.at_:Int) == 0) && m.it.ord)=bb:=⟨_,rfl⟩
   have hn:numbers m.it=bb:=by
    rw [←hbb]
    unfold numbers first
    congr 1
    by_cases h0:m.it.at_=0
    · simp [h0]
    · simp [h0]
   repeat refine W.seq ?_
   refine W.cut (G:=Unit) (fun _=>[(0,ptr o.R),(1,.int .i64 most),(4,ptr b4),(7,ptr m.b),(55,.bool bb)]) (fun _=>(b4,.cells [.int .u32 0,.int .u16 m.it.stream,.int .u16 0,.bool (!m.it.ord),.bool ((m.it.at_:Int) == 0),.bool false,.slice none 0 0].toArray 77 (0,0))::((o.R,.cells [.slice (some ⟨b,off,none⟩) o.in_ o.ic,.int .i64 o.many,.int .i64 o.room,.int .i64 o.used,.slice o.na o.nn o.nc].toArray 146 (0,0))::(o.ib++(o.nb++((m.b,.cells [.int .u16 m.it.stream,.bool m.it.ord,.slice m.ba m.bn m.bc,.int .i64 m.it.id,.int .i64 m.it.til,.int .i64 m.it.at_,.int .u16 m.it.ssn].toArray 213 (0,0))::(m.bb++r.flatMap ItM.H)))))) (fun _=>True) (fun K' hK _=>?_) ?_
   · refine SPY ?_; repeat' (first|refine ⟨fun hc=>?_,fun hc=>?_⟩|intro)
     · exact Fin.cut hK () trivial (by rw [←hbb,‹((m.it.at_:Int) == 0)=true›,Bool.true_and]; exact envA) (fun _ h=>h)
     · exact Fin.cut hK () trivial (by rw [←hbb,hc,Bool.false_and]; exact envA) (fun _ h=>h)
   rintro _ _
   refine Fin.next ?_
   repeat refine W.seq ?_
   refine W.cut (G:=NuG) (fun _=>[(0,ptr o.R),(1,.int .i64 most),(4,ptr b4),(7,ptr m.b)]) (fun g=>(b4,.cells [.int .u32 0,.int .u16 m.it.stream,.int .u16 0,.bool (!m.it.ord),.bool ((m.it.at_:Int) == 0),.bool false,.slice none 0 0].toArray 77 (0,0))::((o.R,.cells [.slice (some ⟨b,off,none⟩) o.in_ o.ic,.int .i64 o.many,.int .i64 o.room,.int .i64 o.used,.slice o.na o.nn o.nc].toArray 146 (0,0))::(o.ib++(g.nb++((m.b,.cells [.int .u16 m.it.stream,.bool m.it.ord,.slice m.ba m.bn m.bc,.int .i64 m.it.id,.int .i64 m.it.til,.int .i64 m.it.at_,.int .u16 g.ss].toArray 213 (0,0))::(m.bb++r.flatMap ItM.H)))))) (fun g=>(g.ss=if numbers m.it then ssnOf o.S m.it else m.it.ssn)∧OwnS 35 1 ((ssns o.S m.it).map (Value.int .u16)) (.slice o.na o.nn o.nc) g.nb) (fun K' hK _=>?_) ?_
   · cases bb with
     | true=>
       refine W.cond_t rfl ?_
       refine W.draw [(b4,.cells [.int .u32 0,.int .u16 m.it.stream,.int .u16 0,.bool (!m.it.ord),.bool ((m.it.at_:Int) == 0),.bool false,.slice none 0 0].toArray 77 (0,0)),(o.R,.cells [.slice (some ⟨b,off,none⟩) o.in_ o.ic,.int .i64 o.many,.int .i64 o.room,.int .i64 o.used,.slice o.na o.nn o.nc].toArray 146 (0,0)),(m.b,.cells [.int .u16 m.it.stream,.bool m.it.ord,.slice m.ba m.bn m.bc,.int .i64 m.it.id,.int .i64 m.it.til,.int .i64 m.it.at_,.int .u16 m.it.ssn].toArray 213 (0,0))] (by kernel_rfl) (by kernel_rfl) (fun _ h=>In.of_sub (.pick .here (.pick .here (.last (L:=[_]) (.right (.right .here))))) h) ?_
       refine SPY ?_; repeat' (first|refine ⟨fun hc=>?_,fun hc=>?_⟩|intro)
       refine WD.e rfl (Ef.call (c:=o.nb) (by exact rfl) (.last (.there (.there (.right .here)))) (onum_tr _ o.ns o.na o.nn o.nc o.nb ho.nums m.it.stream ⟨by omega,by omega⟩ ho.pl.ssn)) ?_
       rintro _ _ ⟨nb1,⟨rfl,hown1⟩,rfl⟩
       refine ⟨.inr (fun _ h=>In.of_sub (.pick (.right .here) (.pick (.right .here) (.last (L:=[_]) (.right (.right .here))))) h),?_⟩
       refine SPY ?_; repeat' (first|refine ⟨fun hc=>?_,fun hc=>?_⟩|intro)
       exact Fin.cut hK ⟨nb1,o.ns.getD m.it.stream.toNat 0⟩ ⟨by dsimp only; rw [hn,if_pos rfl]; rfl,by unfold ssns; rw [hn,if_pos rfl]; exact hown1⟩ envA (fun _ h=>In.of_sub (.pick (.right .here) (.pick (.right .here) (.pickL (L:=o.ib) (.right .here) (.pickL (L:=nb1) .here (.last .all))))) h)
     | false=>
       refine W.cond_f rfl ?_
       refine SPY ?_; repeat' (first|refine ⟨fun hc=>?_,fun hc=>?_⟩|intro)
       exact Fin.cut hK ⟨o.nb,m.it.ssn⟩ ⟨by dsimp only; rw [hn]; rfl,by unfold ssns; rw [hn]; exact ho.nums⟩ envA (fun _ h=>h)
   rintro ⟨nb1,ss⟩ ⟨hss,hown1⟩
   dsimp only at hss hown1 ⊢
   refine Fin.next ?_
   refine SPY ?_; repeat' (first|refine ⟨fun hc=>?_,fun hc=>?_⟩|intro)
   refine W.drawA ?_
   refine SPY ?_; repeat' (first|refine ⟨fun hc=>?_,fun hc=>?_⟩|intro)
   obtain ⟨m2,hm2⟩:∃ m2:ItM,m2={ m with it:={ m.it with ssn:=ss } }:=⟨_,rfl⟩
   refine WD.e rfl (Ef.lookR (by exact rfl) (fun F' hF=>oleft_tr F' { m with it:={ m.it with ssn:=ss } } h3 (by dsimp only; omega) (by dsimp only; omega) ((Can.cut (F:=F) (n:=7) (.there (.there (.right (.right (.here rfl)))))).mono hF))) ?_
   rintro _ _ ⟨rfl,rfl⟩
   refine ⟨.inr (fun _ h=>h),?_⟩
   have hLl:left ({ m with it:={ m.it with ssn:=ss } }:ItM).it=left m.it:=rfl
   rw [hLl]
   refine SPY ?_; repeat' (first|refine ⟨fun hc=>?_,fun hc=>?_⟩|intro)
   simp (disch:=omega) only [i64_id,Go.Pth.go_mn]
   rw [endI (by omega)]
   obtain ⟨E,hE⟩:∃ E,endAt m.it most=E:=⟨_,rfl⟩
   have hE1:=endAt_lt h1 (most:=most) (by omega)
   have hE2:=endAt_le h1 (most:=most)
   rw [hE] at hE1 hE2 ⊢
   refine SPY ?_; repeat' (first|refine ⟨fun hc=>?_,fun hc=>?_⟩|intro)
   refine W.draw [(m.b,.cells [.int .u16 m.it.stream,.bool m.it.ord,.slice m.ba m.bn m.bc,.int .i64 m.it.id,.int .i64 m.it.til,.int .i64 m.it.at_,.int .u16 ss].toArray 213 (0,0))] (by kernel_rfl) (by kernel_rfl) (fun _ h=>In.of_sub (.last (L:=[_]) (.there (.there (.right (.right .here))))) h) ?_
   refine SPZ ?_; repeat' (first|refine ⟨fun hc=>?_,fun hc=>?_⟩|intro)
   refine WD.p rfl (Pu.slLH rfl rfl rfl (by omega) (by omega)) ?_
   simp only [Int.toNat_natCast]
   refine WD.e rfl (Ef.look (by exact rfl) (fun F' hF=>clone_tr F' ((m.it.bs.drop m.it.at_).take (E - m.it.at_)) _ _ _ (by
    rw [List.map_take,List.map_drop]
    exact ((Lst.own (F:=F) (H:=m.bb) (ho.own m hm) (fun _ h=>h)).part (by omega) (by omega)).mono (fun w h=>(hF w h).sublist findA)) (by rw [List.length_take]; omega))) ?_
   rintro _ _ ⟨db,⟨ca,cn,cc,rfl,hcl⟩,rfl⟩
   refine ⟨.inr (fun _ h=>In.of_sub (.last (L:=[_]) (.right (.there (.there (.right (.right .here)))))) h),?_⟩
   refine SPZ ?_; repeat' (first|refine ⟨fun hc=>?_,fun hc=>?_⟩|intro)
   refine WD.e0A (hk:=.inr (fun _ h=>In.of_sub (.last (L:=[_]) (.right (.there (.there (.right (.right .here)))))) h)) ?_
   refine SPZ ?_; repeat' (first|refine ⟨fun hc=>?_,fun hc=>?_⟩|intro)
   refine WD.e0A (hk:=.inr (fun _ h=>In.of_sub (.last (L:=[_]) (.right (.there (.there (.right (.right .here)))))) h)) ?_
   refine SPX ?_; repeat' (first|refine ⟨fun hc=>?_,fun hc=>?_⟩|intro)
   · have hcl2:=hc
     have hcl':OwnS 5 1 ((cutD o.S m.it most).bs.map B) (.slice ca cn cc) db:=by unfold cutD; dsimp only; rw [hE]; exact hcl
     have hdE:dC (cutD o.S m.it most) ca cn cc=[.int .u32 0,.int .u16 m.it.stream,.int .u16 ss,.bool (!m.it.ord),.bool ((m.it.at_:Int) == 0),.bool ((E:Int) == (m.bn:Int)),.slice ca cn cc]:=by
      have hf1:decide (m.it.at_=0)=((m.it.at_:Int) == 0):=by
       by_cases h0:m.it.at_=0
       · simp [h0]
       · simp [h0]
      have hf2:decide (E=m.it.bs.length)=((E:Int) == (m.bn:Int)):=by
       rw [h3]
       by_cases h0:E=m.it.bs.length
       · simp [h0]
       · simp [h0]; omega
      unfold dC cutD first lastB
      dsimp only
      rw [hE,hss,hf1,hf2]
     have hcE:E=m.it.bs.length:=by simp at hcl2; omega
     refine WL.p rfl (Pu.slLo rfl rfl (by omega)) ?_
     refine SPX ?_; repeat' (first|refine ⟨fun hc=>?_,fun hc=>?_⟩|intro)
     have hlast:lastB m.it most=true:=by unfold lastB; rw [hE]; exact decide_eq_true hcE
     have hitems:=ho.items
     rw [hs,List.map_cons,hia] at hitems
     have htl:=OwnS.tail (x:=[ptr m.b]) (sz:=1) rfl (by decide) hitems
     have hS:OqM.S { o with is:=r,ia:=(if o.ic=(1:Int).toNat then some ⟨b,off,none⟩ else (some (⟨b,off,none⟩:Addr)).map (·.add ((1:Int).toNat * 1))),in_:=o.in_ - (1:Int).toNat,ic:=o.ic - (1:Int).toNat,ns:=ssns o.S m.it,nb:=nb1 }=nextS o.S m.it (r.map (·.it)) most:=by
      unfold nextS
      rw [hlast,if_pos rfl]
      rfl
     rw [←hdE]
     exact Fin.retW (by exact rfl) resA (H':=db++OqM.H { o with is:=r,ia:=(if o.ic=(1:Int).toNat then some ⟨b,off,none⟩ else (some (⟨b,off,none⟩:Addr)).map (·.add ((1:Int).toNat * 1))),in_:=o.in_ - (1:Int).toNat,ic:=o.ic - (1:Int).toNat,ns:=ssns o.S m.it,nb:=nb1 }) (fun _ h=>In.of_sub (.pickL (L:=db) .here (.pick (.there .here) (.pickL (L:=o.ib) (.there .here) (.pickL (L:=nb1) (.there .here) (.last (L:=r.flatMap ItM.H) (.there (.there (.right .all)))))))) h)
      (NextQ.some hnx ca cn cc db _ hcl' ⟨fun q hq=>ho.own q (by rw [hs]; exact List.mem_cons_of_mem _ hq),htl,hown1,by rw [hS]; exact nextS_ok ho.pl hSL most,by have:=ho.few; rw [hs,List.length_cons] at this; dsimp only; omega⟩ rfl hS)
   · have hcl2:=hc
     have hcl':OwnS 5 1 ((cutD o.S m.it most).bs.map B) (.slice ca cn cc) db:=by unfold cutD; dsimp only; rw [hE]; exact hcl
     have hdE:dC (cutD o.S m.it most) ca cn cc=[.int .u32 0,.int .u16 m.it.stream,.int .u16 ss,.bool (!m.it.ord),.bool ((m.it.at_:Int) == 0),.bool ((E:Int) == (m.bn:Int)),.slice ca cn cc]:=by
      have hf1:decide (m.it.at_=0)=((m.it.at_:Int) == 0):=by
       by_cases h0:m.it.at_=0
       · simp [h0]
       · simp [h0]
      have hf2:decide (E=m.it.bs.length)=((E:Int) == (m.bn:Int)):=by
       rw [h3]
       by_cases h0:E=m.it.bs.length
       · simp [h0]
       · simp [h0]; omega
      unfold dC cutD first lastB
      dsimp only
      rw [hE,hss,hf1,hf2]
     have hcE:E≠m.it.bs.length:=by simp at hcl2; omega
     have hlast:lastB m.it most=false:=by unfold lastB; rw [hE]; exact decide_eq_false hcE
     have hS:OqM.S { o with is:={ m with it:=cutI o.S m.it most }::r,ns:=ssns o.S m.it,nb:=nb1 }=nextS o.S m.it (r.map (·.it)) most:=by
      unfold nextS
      rw [hlast]
      rfl
     have hci:cutI o.S m.it most={ m.it with at_:=E,ssn:=ss }:=by unfold cutI; rw [hE,hss]
     rw [←hdE]
     refine Fin.retW (by exact rfl) resA (H':=db++OqM.H { o with is:={ m with it:=cutI o.S m.it most }::r,ns:=ssns o.S m.it,nb:=nb1 }) (fun _ h=>?_)
      (NextQ.some hnx ca cn cc db _ hcl' ⟨?_,?_,hown1,by rw [hS]; exact nextS_ok ho.pl hSL most,by have:=ho.few; rw [hs,List.length_cons] at this; dsimp only; rw [List.length_cons]; omega⟩ rfl hS)
     · unfold OqM.H OqM.cells
       dsimp only
       rw [List.flatMap_cons,hci,hia]
       exact In.of_sub (.pickL (L:=db) .here (.pick (.there .here) (.pickL (L:=o.ib) (.there .here) (.pickL (L:=nb1) (.there .here) (.last (.there .all)))))) h
     · intro q hq
       rcases List.mem_cons.1 hq with rfl | hq
       · exact ho.own m hm
       · exact ho.own q (by rw [hs]; exact List.mem_cons_of_mem _ hq)
     · have hitems:=ho.items
       rw [hs] at hitems
       exact hitems
end Go.Proofs.YtlfpemmdehmbfaaGreat
namespace Go.Proofs.YtlfpemmdehmbfaaGreat
open Go Go.Sl Go.Flt
structure DM where
 d:Dt
 ba:Option Addr
 bn:Nat
 bc:Nat
 bb:HL
def DM.cells (m:DM):List Value:=[.int .u32 m.d.tsn,.int .u16 m.d.stream,.int .u16 m.d.ssn,.bool m.d.un,.bool m.d.fi,.bool m.d.la,.slice m.ba m.bn m.bc]
def DM.ok (m:DM):Prop:=OwnS 5 1 (m.d.bs.map B) (.slice m.ba m.bn m.bc) m.bb
theorem DM.len (m:DM):m.cells.length=7:=rfl
theorem rec_src {F:Nat→Option Obj} {f:FM} (hf:f.ok) {i:Nat} {m:RcM} (h:f.rs[i]? = some m):Lst F f.H 1 (m.r.bs.map B) m.ba m.bn m.bc:=by
 refine (Lst.own (F:=F) (H:=m.bb) (hf.recs m (List.mem_of_getElem? h)) (fun _ h=>h)).mono (fun w hw=>?_)
 unfold FM.H at hw
 rw [flat_split h] at hw
 exact hw.sublist (.cons _ (.trans (.trans (.trans (.cons _ (.refl _)) (List.sublist_append_left _ _)) (List.sublist_append_right _ _)) (List.sublist_append_right _ _)))
theorem rec_d {F:Nat→Option Obj} {f:FM} {i:Nat} {m:RcM} (h:f.rs[i]? = some m):Sl.Can F f.H m.b (0+0) [.int .u32 m.r.tsn,.int .u16 m.r.stream,.int .u16 m.r.ssn,.bool m.r.un,.bool m.r.fi,.bool m.r.la,.slice m.ba m.bn m.bc]:=(rec_can h).sub 0 7
theorem set_get {l:List RcM} {i:Nat} {m m':RcM} (h:l[i]? = some m):(l.set i m')[i]? = some m':=List.getElem?_set_self (List.getElem?_eq_some_iff.1 h).1
theorem rec_few {f:FM} (_hf:f.ok) (hs:f.small) {i:Nat} {m:RcM} (h:f.rs[i]? = some m):m.r.bs.length≤1000000000000:=by
 have h1:=sumB_snoc (fun _=>true) (L:=f.rs.map (·.r)) (i:=i) (r:=m.r) (by rw [List.getElem?_map,h]; rfl)
 have h2:=sum_small hs (fun _=>true) (i+1)
 rw [if_pos rfl] at h1
 omega
set_option maxHeartbeats 4000000 in
theorem getD_tr (F:Nat→Option Obj) (f:FM) (hf:f.ok) (hs:f.small) (t:Int):Tr Tryz.prog 131 [.pointer (some ⟨f.R,0,none⟩),.int .u32 t].toArray F f.H (fun v H=>
 (Flt.getD f.S t=none∧v=tup [.agg [.int .u32 0,.int .u16 0,.int .u16 0,.bool false,.bool false,.bool false,.slice none 0 0].toArray,.int .i64 0,.bool false]∧H=f.H)∨
 (∃ m:DM,∃ p,Flt.getD f.S t=some (m.d,p)∧m.ok∧v=tup [.agg m.cells.toArray,.int .i64 p,.bool true]∧H=m.bb++f.H)):=by
 refine Tr.enter Tryz.func131 rfl Tryz.ntmps131 rfl (fun w0=>?_)
 have hlen:=hf.len
 refine SPS ?_; repeat' (first|refine ⟨fun hc=>?_,fun hc=>?_⟩|intro)
 refine WL.e rfl (Ef.callR (c:=f.H) (by exact rfl) (.last (.there .all)) (get_tr _ f hf t)) ?_
 rintro _ _ ⟨rfl,rfl⟩
 have hL:f.S.L.length=f.sn:=by rw [←hlen]; simp [FM.S]
 cases ha:atI f.c f.sn t with
 | none=>
   refine SPS ?_; repeat' (first|refine ⟨fun hc=>?_,fun hc=>?_⟩|intro)
   exact Fin.retW (by exact rfl) resA (H':=f.H) (fun _ h=>h.sublist findA) (.inl ⟨by unfold Flt.getD; rw [hL,show f.S.c=f.c from rfl,ha],rfl,rfl⟩)
 | some i=>
   have hi:i < f.sn:=by
    unfold atI at ha
    split at ha
    · simp at ha; omega
    · cases ha
   obtain ⟨m,hm⟩:∃ m,f.rs[i]? = some m:=⟨f.rs[i]'(by omega),by simp⟩
   have hfew:=rec_few hf hs hm
   unfold ptOf
   dsimp only
   rw [hm]
   dsimp only
   unfold RcM.p
   refine SPS ?_; repeat' (first|refine ⟨fun hc=>?_,fun hc=>?_⟩|intro)
   refine WL.s rfl (Rd.ldaC rfl (by exact rfl) ((rec_d hm).mono (fun _ h=>h.sublist findA))) ?_
   refine SPS ?_; repeat' (first|refine ⟨fun hc=>?_,fun hc=>?_⟩|intro)
   refine WL.e rfl (Ef.look (by exact rfl) (fun F' hF=>clone_tr F' m.r.bs m.ba m.bn m.bc ((rec_src hf hm).mono (fun w h=>(hF w h).sublist findA)) hfew)) ?_
   rintro _ _ ⟨H1,⟨sa',sn',sc',rfl,hown⟩,rfl⟩
   refine SPN ?_; repeat' (first|refine ⟨fun hc=>?_,fun hc=>?_⟩|intro)
   rename_i x4 x8
   refine W.draw (H1++(x8,.cells [.int .u32 m.r.tsn,.int .u16 m.r.stream,.int .u16 m.r.ssn,.bool m.r.un,.bool m.r.fi,.bool m.r.la,.slice sa' sn' sc'].toArray 77 (0,0))::f.H) (by kernel_rfl) (by kernel_rfl) (fun _ h=>h.sublist ((List.Sublist.refl _).append (.cons_cons _ (.cons _ (.refl _))))) ?_
   refine SPS ?_; repeat' (first|refine ⟨fun hc=>?_,fun hc=>?_⟩|intro)
   refine WD.s rfl (Rd.ldC rfl (((rec_can hm).one (i:=7) rfl).mono (fun _ h=>h.sublist findA))) ?_
   refine WD.e0 (Ef.sta rfl rfl (by exact rfl) (by exact rfl) (.right (.there (.here rfl)))) ?_
   rintro _ _ ⟨rfl,rfl⟩
   refine ⟨.inr (fun _ h=>h.sublist ((List.Sublist.refl _).append (.cons_cons _ (.cons _ (.refl _))))),?_⟩
   refine SPS ?_; repeat' (first|refine ⟨fun hc=>?_,fun hc=>?_⟩|intro)
   refine Fin.retW (by exact rfl) resA (H':=H1++f.H) (fun _ h=>In.of_sub (.pickL .here (.last (.there (.there .all)))) h) (.inr ⟨⟨m.r.d,sa',sn',sc',H1⟩,m.r.path,?_,hown,rfl,rfl⟩)
   unfold Flt.getD
   rw [hL,show f.S.c=f.c from rfl,ha]
   dsimp only
   rw [show f.S.L=f.rs.map (·.r) from rfl,List.getElem?_map,hm]
   rfl
set_option maxHeartbeats 4000000 in
theorem again_tr (F:Nat→Option Obj) (f:FM) (hf:f.ok) (t p now:Int):Tr Tryz.prog 133 [.pointer (some ⟨f.R,0,none⟩),.int .u32 t,.int .i64 p,.int .i64 now].toArray F f.H (fun v H=>v=.int .i64 (Flt.again f.S t p now).2∧∃ f':FM,f'.ok∧H=f'.H∧f'.R=f.R∧f'.S=(Flt.again f.S t p now).1):=by
 refine Tr.enter Tryz.func133 rfl Tryz.ntmps133 rfl (fun w0=>?_)
 have hlen:=hf.len
 have hL:f.S.L.length=f.sn:=by rw [←hlen]; simp [FM.S]
 have hpc:Sl.Can F f.H f.R (0+2) [.int .i64 f.paths]:=(fl_can f).one (i:=2) rfl
 refine SPS ?_; repeat' (first|refine ⟨fun hc=>?_,fun hc=>?_⟩|intro)
 ·
  refine Fin.retW (by exact rfl) resA (H':=f.H) (fun _ h=>h) ⟨?_,f,hf,rfl,rfl,?_⟩
  · unfold Flt.again
    rw [if_pos (by rw [show f.S.paths=f.paths from rfl]; simp at hc; omega)]
    rfl
  · unfold Flt.again
    rw [if_pos (by rw [show f.S.paths=f.paths from rfl]; simp at hc; omega)]
 ·
  refine Fin.retW (by exact rfl) resA (H':=f.H) (fun _ h=>h) ⟨?_,f,hf,rfl,rfl,?_⟩
  · unfold Flt.again
    rw [if_pos (by rw [show f.S.paths=f.paths from rfl]; simp at hc; omega)]
    rfl
  · unfold Flt.again
    rw [if_pos (by rw [show f.S.paths=f.paths from rfl]; simp at hc; omega)]
 · refine WL.e rfl (Ef.callR (c:=f.H) (by exact rfl) (.all _) (get_tr _ f hf t)) ?_
   rintro _ _ ⟨rfl,rfl⟩
   have hagain:Flt.again f.S t p now=(match atI f.c f.sn t with | none=>(f.S,11) | some i=>match f.S.L[i]? with | none=>(f.S,11) | some r=>if Flt.openR r then ({ f.S with L:=f.S.L.set i (setAgain p now r) },0) else (f.S,11)):=by
    unfold Flt.again
    rw [if_neg (by rw [show f.S.paths=f.paths from rfl]; simp at *; omega),hL]
    rfl
   cases ha:atI f.c f.sn t with
   | none=>
     rw [ha] at hagain
     refine SPS ?_; repeat' (first|refine ⟨fun hc=>?_,fun hc=>?_⟩|intro)
     exact Fin.retW (by exact rfl) resA (H':=f.H) (fun _ h=>h) ⟨by rw [hagain]; rfl,f,hf,rfl,rfl,by rw [hagain]⟩
   | some i=>
     have hi:i < f.sn:=by
      unfold atI at ha
      split at ha
      · simp at ha; omega
      · cases ha
     obtain ⟨m,hm⟩:∃ m,f.rs[i]? = some m:=⟨f.rs[i]'(by omega),by simp⟩
     have hmr:f.S.L[i]? = some m.r:=by rw [show f.S.L=f.rs.map (·.r) from rfl,List.getElem?_map,hm]; rfl
     rw [ha] at hagain
     dsimp only at hagain
     rw [hmr] at hagain
     dsimp only at hagain
     unfold ptOf
     dsimp only
     rw [hm]
     dsimp only
     unfold RcM.p
     refine SPS ?_; repeat' (first|refine ⟨fun hc=>?_,fun hc=>?_⟩|intro)
     refine WL.e rfl (Ef.lookR (by exact rfl) (fun F' hF=>open_tr F' m ((rec_can hm).mono (fun w h=>hF w h)))) ?_
     rintro _ _ ⟨rfl,rfl⟩
     cases hq:Flt.openR m.r with
     | false=>
       rw [hq,if_neg (by simp)] at hagain
       refine SPS ?_; repeat' (first|refine ⟨fun hc=>?_,fun hc=>?_⟩|intro)
       exact Fin.retW (by exact rfl) resA (H':=f.H) (fun _ h=>h) ⟨by rw [hagain]; rfl,f,hf,rfl,rfl,by rw [hagain]⟩
     | true=>
       rw [hq,if_pos rfl] at hagain
       have g1:=set_get hm (m':={ m with r:={ m.r with path:=p } })
       have g2:=set_get g1 (m':={ m with r:={ m.r with path:=p,at_:=now } })
       have g3:=set_get g2 (m':={ m with r:={ m.r with path:=p,at_:=now,lost:=false } })
       refine SPS ?_; repeat' (first|refine ⟨fun hc=>?_,fun hc=>?_⟩|intro)
       refine WL.e0A ?_ (Ef.st rfl rfl rfl (rec_put hm (off:=0+7) (vs:=[.int .i64 p]) (r':={ m.r with path:=p }) rfl))
       refine SPS ?_; repeat' (first|refine ⟨fun hc=>?_,fun hc=>?_⟩|intro)
       refine WL.e0A ?_ (Ef.st rfl rfl rfl (rec_put (f:={ f with rs:=f.rs.set i { m with r:={ m.r with path:=p } } }) (m:={ m with r:={ m.r with path:=p } }) g1 (off:=0+10) (vs:=[.int .i64 now]) (r':={ m.r with path:=p,at_:=now }) rfl))
       refine SPS ?_; repeat' (first|refine ⟨fun hc=>?_,fun hc=>?_⟩|intro)
       refine WL.e0A ?_ (Ef.st rfl rfl rfl (rec_put (f:={ f with rs:=(f.rs.set i { m with r:={ m.r with path:=p } }).set i { m with r:={ m.r with path:=p,at_:=now } } }) (m:={ m with r:={ m.r with path:=p,at_:=now } }) g2 (off:=0+12) (vs:=[.bool false]) (r':={ m.r with path:=p,at_:=now,lost:=false }) rfl))
       refine SPS ?_; repeat' (first|refine ⟨fun hc=>?_,fun hc=>?_⟩|intro)
       refine WL.e0A ?_ (Ef.st rfl rfl rfl (rec_put (f:={ f with rs:=((f.rs.set i { m with r:={ m.r with path:=p } }).set i { m with r:={ m.r with path:=p,at_:=now } }).set i { m with r:={ m.r with path:=p,at_:=now,lost:=false } } }) (m:={ m with r:={ m.r with path:=p,at_:=now,lost:=false } }) g3 (off:=0+14) (vs:=[.bool true]) (r':=setAgain p now m.r) rfl))
       refine SPS ?_; repeat' (first|refine ⟨fun hc=>?_,fun hc=>?_⟩|intro)
       refine Fin.retW (by exact rfl) resA (fun _ h=>h) ⟨by rw [hagain]; rfl,{ f with rs:=f.rs.set i { m with r:=setAgain p now m.r } },set_ok hf hm rfl,?_,rfl,?_⟩
       · simp only [List.set_set]
       · rw [hagain]
         unfold FM.S
         dsimp only
         rw [List.map_set]
theorem ptL_at:∀ {L:List Rc} {i:Nat},(∀ r ∈ L.take i,r.gone=true)→(∀ r,L[i]? = some r→r.gone=false)→Flt.ptL L=(L.take i).map Rc.d
 | [],_,_,_=>by simp [Flt.ptL]
 | r::L,0,_,h2=>by
   have:=h2 r rfl
   simp [Flt.ptL,this]
 | r::L,i+1,h1,h2=>by
   have:=h1 r (by simp)
   have ih:=ptL_at (L:=L) (i:=i) (fun x hx=>h1 x (by simp [hx])) (fun x hx=>h2 x (by simpa using hx))
   unfold Flt.ptL at ih ⊢
   rw [List.takeWhile_cons,if_pos this,List.map_cons,ih,List.take_succ_cons,List.map_cons]
structure PtG where
 i:Nat
 sa:Option Addr
 sn:Nat
 sc:Nat
 hb:HL
 ds:List DM
theorem ds_len (ds:List DM):(ds.flatMap DM.cells).length=ds.length * 7:=flat_len' DM.cells 7 DM.len ds
theorem dm_one (m:DM):∀ u ∈ m.cells,u.oneCell'=true:=by
 intro u hu
 simp only [DM.cells,List.mem_cons,List.not_mem_nil,or_false] at hu
 rcases hu with rfl | rfl | rfl | rfl | rfl | rfl | rfl <;> rfl
set_option maxHeartbeats 4000000 in
theorem point_tr (F:Nat→Option Obj) (f:FM) (hf:f.ok) (hs:f.small):Tr Tryz.prog 117 [.pointer (some ⟨f.R,0,none⟩)].toArray F f.H (fun v H=>∃ (sa:Option Addr) (sn sc:Nat) (hb:HL) (ds:List DM),v=tup [.int .u32 (Spn.u32 (f.c+Spn.u32 (Flt.ptL f.S.L).length)),.slice sa sn sc]∧
 OwnS 77 7 (ds.flatMap DM.cells) (.slice sa sn sc) hb∧(∀ m ∈ ds,m.ok)∧ds.map (·.d)=Flt.ptL f.S.L∧H=hb++(ds.flatMap DM.bb++f.H)):=by
 refine Tr.enter Tryz.func117 rfl Tryz.ntmps117 rfl (fun w0=>?_)
 have hlen:=hf.len
 have hfew:=hf.few
 have hrow:Sl.Can F f.H f.R (0+0) [.slice f.sa f.sn f.sc]:=(fl_can f).one (i:=0) rfl
 refine SPS ?_; repeat' (first|refine ⟨fun hc=>?_,fun hc=>?_⟩|intro)
 refine W.loop (G:=PtG) (fun g=>[(0,.pointer (some ⟨f.R,0,none⟩)),(13,.slice f.sa f.sn f.sc),(14,.int .i64 f.sn),(15,.int .i64 g.i),(4,.slice g.sa g.sn g.sc)]) (fun g=>g.hb++(g.ds.flatMap DM.bb++f.H))
  (fun g=>g.i≤f.sn∧OwnS 77 7 (g.ds.flatMap DM.cells) (.slice g.sa g.sn g.sc) g.hb∧(∀ m ∈ g.ds,m.ok)∧g.ds.map (·.d)=(f.S.L.take g.i).map Rc.d∧∀ r ∈ f.S.L.take g.i,r.gone=true) (fun g=>f.sn - g.i) ⟨0,none,0,0,[],[]⟩ ⟨Nat.zero_le _,.inl ⟨rfl,rfl,rfl⟩,(fun _ h=>by cases h),rfl,(fun _ h=>by simp at h)⟩ envA (fun _ h=>h) ?_
 rintro ⟨i,sa,sn,sc,hb,ds⟩ ⟨hi,hown,hds,hdd,hgone⟩
 dsimp only at hi hown hds hdd hgone ⊢
 have hdl:ds.length=i:=by
  have:=congrArg List.length hdd
  simp only [List.length_map,List.length_take] at this
  have hL:f.S.L.length=f.sn:=by rw [←hlen]; simp [FM.S]
  omega
 refine SPS ?_; repeat' (first|refine ⟨fun hc=>?_,fun hc=>?_⟩|intro)
 · have hi':i < f.sn:=by have:=of_decide_eq_true hc; omega
   obtain ⟨m,hm⟩:∃ m,f.rs[i]? = some m:=⟨f.rs[i]'(by omega),by simp⟩
   have hmr:f.S.L[i]? = some m.r:=by rw [show f.S.L=f.rs.map (·.r) from rfl,List.getElem?_map,hm]; rfl
   obtain ⟨gb,go,hsa,hp⟩:=fl_ptr (F:=F) hf hm
   have hia:0≤(i:Int)∧(i:Int) < f.sn:=by omega
   have hrl:=rec_few hf hs hm
   rw [hsa]
   have hp':Sl.Can F (hb++(ds.flatMap DM.bb++f.H)) gb (go+(i:Int).toNat * 1) [m.p]:=hp.mono (fun _ h=>h.sublist findA)
   have hg':Sl.Can F (hb++(ds.flatMap DM.bb++f.H)) m.b (0+13) [.bool m.r.gone]:=((rec_can hm).one (i:=13) rfl).mono (fun _ h=>h.sublist findA)
   have hd':Sl.Can F (hb++(ds.flatMap DM.bb++f.H)) m.b (0+0) [.int .u32 m.r.tsn,.int .u16 m.r.stream,.int .u16 m.r.ssn,.bool m.r.un,.bool m.r.fi,.bool m.r.la,.slice m.ba m.bn m.bc]:=(rec_d hm).mono (fun _ h=>h.sublist findA)
   unfold RcM.p at hp'
   cases hgo:m.r.gone with
   | false=>
     rw [hgo] at hg'
     refine SPS ?_; repeat' (first|refine ⟨fun hc=>?_,fun hc=>?_⟩|intro)
     rw [←hsa]
     have hpt:Flt.ptL f.S.L=(f.S.L.take i).map Rc.d:=ptL_at hgone (fun r hr=>by rw [hmr] at hr; cases hr; exact hgo)
     refine Fin.retW (by exact rfl) resA (H':=hb++(ds.flatMap DM.bb++f.H)) (fun _ h=>h) ⟨sa,sn,sc,hb,ds,?_,hown,hds,by rw [hpt,hdd],rfl⟩
     rw [hpt,←hdd,List.length_map]
     have hsn:=hown.len
     rw [ds_len] at hsn
     rw [show ds.length=sn by omega]
   | true=>
     rw [hgo] at hg'
     refine SPS ?_; repeat' (first|refine ⟨fun hc=>?_,fun hc=>?_⟩|intro)
     refine WL.s rfl (Rd.ldaC rfl (by exact rfl) hd') ?_
     refine SPS ?_; repeat' (first|refine ⟨fun hc=>?_,fun hc=>?_⟩|intro)
     refine WL.e rfl (Ef.look (by exact rfl) (fun F' hF=>clone_tr F' m.r.bs m.ba m.bn m.bc ((rec_src hf hm).mono (fun w h=>(hF w h).sublist findA)) hrl)) ?_
     rintro _ _ ⟨H1,⟨sa',sn',sc',rfl,hb1⟩,rfl⟩
     refine SPS ?_; repeat' (first|refine ⟨fun hc=>?_,fun hc=>?_⟩|intro)
     refine WL.e rfl (Ef.app (m:=1) (news:=DM.cells ⟨m.r.d,sa',sn',sc',H1⟩) (hb:=hb) (by exact rfl) (by exact rfl) rfl rfl hown (.last (.there (.right (.there .here)))) (Src.own (n:=7) (.here rfl)) rfl (dm_one _) (by rw [ds_len,DM.len]; omega) (by rw [ds_len,DM.len]; simp [maxLen]; omega)) ?_
     rintro v' _ ⟨hb',hown',rfl⟩
     obtain ⟨sa2,sn2,sc2,rfl,_,_⟩:=OwnS.shape hown'
     refine SPS ?_; repeat' (first|refine ⟨fun hc=>?_,fun hc=>?_⟩|intro)
     rw [i64_succ (by omega),←hsa]
     refine Fin.round ⟨i+1,sa2,sn2,sc2,hb',ds++[⟨m.r.d,sa',sn',sc',H1⟩]⟩ ⟨hi',?_,?_,?_,?_⟩ envA (fun _ h=>?_) (by dsimp only; omega)
     · dsimp only
       rw [List.flatMap_append]
       simpa using hown'
     · intro q hq
       rcases List.mem_append.1 hq with hq | hq
       · exact hds q hq
       · rw [List.mem_singleton.1 hq]
         exact hb1
     · dsimp only
       rw [List.map_append,hdd,List.take_add_one,hmr,List.map_append]
       rfl
     · intro r hr
       dsimp only at hr
       rw [List.take_add_one,hmr] at hr
       rcases List.mem_append.1 hr with hr | hr
       · exact hgone r hr
       · rw [List.mem_singleton.1 hr]
         exact hgo
     · have:=In.of_sub (.pickL (L:=hb') .here (.pickL (L:=ds.flatMap DM.bb) (.there (.right (.there .here))) (.pickL (L:=H1) (.there .here) (.last (L:=f.H) (.there (.there .all)))))) h
       rw [List.flatMap_append]
       simpa using this
 · have hin:i=f.sn:=by have:=of_decide_eq_false hc; omega
   have hpt:Flt.ptL f.S.L=(f.S.L.take i).map Rc.d:=ptL_at hgone (fun r hr=>by
    have:=(List.getElem?_eq_some_iff.1 hr).1
    have hL:f.S.L.length=f.sn:=by rw [←hlen]; simp [FM.S]
    omega)
   refine Fin.retW (by exact rfl) resA (H':=hb++(ds.flatMap DM.bb++f.H)) (fun _ h=>h) ⟨sa,sn,sc,hb,ds,?_,hown,hds,by rw [hpt,hdd],rfl⟩
   rw [hpt,←hdd,List.length_map]
   have hsn:=hown.len
   rw [ds_len] at hsn
   rw [show ds.length=sn by omega]
set_option maxHeartbeats 4000000 in
theorem add_tr (F:Nat→Option Obj) (f:FM) (hf:f.ok) (d:Dt) (ba:Option Addr) (bn bc:Nat) (hl:Lst F [] 1 (d.bs.map B) ba bn bc) (hdl:d.bs.length≤1000000000000) (p now id:Int) :
 Tr Tryz.prog 138 [.pointer (some ⟨f.R,0,none⟩),.agg [.int .u32 d.tsn,.int .u16 d.stream,.int .u16 d.ssn,.bool d.un,.bool d.fi,.bool d.la,.slice ba bn bc].toArray,.int .i64 p,.int .i64 now,.int .i64 id].toArray F f.H (fun v H=>
  v=tup [.int .u32 (if Flt.addE f.S d p=0 then newT f.S else 0),.int .i64 (Flt.addE f.S d p)]∧∃ f':FM,f'.ok∧H=f'.H∧f'.R=f.R∧f'.S=Flt.add f.S d p now id):=by
 refine Tr.enter Tryz.func138 rfl Tryz.ntmps138 rfl (fun w0=>?_)
 have hlen:=hf.len
 have hfew:=hf.few
 have hL:f.S.L.length=f.sn:=by rw [←hlen]; simp [FM.S]
 have hbl:d.bs.length=bn:=by have:=hl.len; simp at this; exact this
 unfold FM.H FM.B
 refine SPS ?_; repeat' (first|refine ⟨fun hc=>?_,fun hc=>?_⟩|intro)
 · have he:Flt.addE f.S d p=1:=by unfold Flt.addE; rw [if_pos (.inl (of_decide_eq_true hc))]
   refine Fin.retW (by exact rfl) resA (H':=f.H) (fun _ h=>h.sublist (.cons _ (.refl _))) ⟨by rw [he]; rfl,f,hf,rfl,rfl,by unfold Flt.add; rw [he]; rfl⟩
 · have he:Flt.addE f.S d p=1:=by unfold Flt.addE; rw [if_pos (.inr (.inl (of_decide_eq_true hc)))]
   refine Fin.retW (by exact rfl) resA (H':=f.H) (fun _ h=>h.sublist (.cons _ (.refl _))) ⟨by rw [he]; rfl,f,hf,rfl,rfl,by unfold Flt.add; rw [he]; rfl⟩
 · have h0:d.bs=[]:=List.eq_nil_of_length_eq_zero (by simp at hc; omega)
   have he:Flt.addE f.S d p=1:=by unfold Flt.addE; rw [if_pos (.inr (.inr h0))]
   refine Fin.retW (by exact rfl) resA (H':=f.H) (fun _ h=>h.sublist (.cons _ (.refl _))) ⟨by rw [he]; rfl,f,hf,rfl,rfl,by unfold Flt.add; rw [he]; rfl⟩
 · have h0:¬ (p < 0∨f.S.paths≤p∨d.bs=[]):=by
    rw [show f.S.paths=f.paths from rfl]
    rintro (h | h | h)
    · simp_all
    · simp_all
    · rw [h] at hbl
      simp at hbl
      subst hbl
      simp_all
   have he:Flt.addE f.S d p=6:=by unfold Flt.addE; rw [if_neg h0,if_pos (by rw [hL]; have:=of_decide_eq_true hc; omega)]
   refine Fin.retW (by exact rfl) resA (H':=f.H) (fun _ h=>h.sublist (.cons _ (.refl _))) ⟨by rw [he]; rfl,f,hf,rfl,rfl,by unfold Flt.add; rw [he]; rfl⟩
 · have h0:¬ (p < 0∨f.S.paths≤p∨d.bs=[]):=by
    rw [show f.S.paths=f.paths from rfl]
    rintro (h | h | h)
    · simp_all
    · simp_all
    · rw [h] at hbl
      simp at hbl
      subst hbl
      simp_all
   have hlt:f.sn < 2048:=by have:=of_decide_eq_false hc; omega
   have he:Flt.addE f.S d p=0:=by unfold Flt.addE; rw [if_neg h0,if_neg (by rw [hL]; omega)]
   refine WL.e rfl (Ef.look (by exact rfl) (fun F' hF=>clone_tr F' d.bs ba bn bc (hl.mono (fun w h=>(hF w h).sublist (List.nil_sublist _))) hdl)) ?_
   rintro _ _ ⟨H1,⟨sa',sn',sc',rfl,hb1⟩,rfl⟩
   refine SPS ?_; repeat' (first|refine ⟨fun hc=>?_,fun hc=>?_⟩|intro)
   rename_i xq xr x6
   have hpl:(f.rs.map RcM.p).length≤2048:=by rw [List.length_map]; omega
   refine WD.e rfl (Ef.app (m:=1) (news:=[.pointer (some ⟨xr,0,none⟩)]) (hb:=f.sb) (by exact rfl) (by exact rfl) rfl rfl hf.own (.last (.there (.there (.right (.there (.there .here)))))) (Src.own (n:=1) (.here rfl)) rfl (by simp [Value.oneCell']) (by simp; omega) (by simp [maxLen]; omega)) ?_
   rintro v' _ ⟨hb',hown',rfl⟩
   refine ⟨.inl (by kernel_rfl),?_⟩
   obtain ⟨sa2,sn2,sc2,rfl,_,_⟩:=OwnS.shape hown'
   refine SPS ?_; repeat' (first|refine ⟨fun hc=>?_,fun hc=>?_⟩|intro)
   obtain ⟨m,hm⟩:∃ m:RcM,m=⟨xr,newR f.S d p now id,sa',sn',sc',H1⟩:=⟨_,rfl⟩
   refine Fin.retW (by exact rfl) resA (H':=({ f with sa:=sa2,sn:=sn2,sc:=sc2,sb:=hb',rs:=f.rs++[m] }:FM).H) (fun _ h=>?_) ⟨?_,{ f with sa:=sa2,sn:=sn2,sc:=sc2,sb:=hb',rs:=f.rs++[m] },⟨?_,?_,hf.c,?_⟩,rfl,rfl,?_⟩
   · have:=In.of_sub (.pick (.right (.there (.there (.right (.there .here))))) (.pickL (L:=hb') .here (.pickL (L:=f.rs.flatMap RcM.H) (.there (.there (.right (.there .all)))) (.pick (.there .here) (.last (L:=H1) (.there .here)))))) h
     unfold FM.H FM.B
     dsimp only
     have e:RcM.H ⟨xr,newR f.S d p now id,sa',sn',sc',H1⟩=(xr,.cells [.int .u32 (IntKind.u32.wrap (IntKind.u32.wrap (f.c+1)+IntKind.u32.wrap (f.sn:Int))),.int .u16 d.stream,.int .u16 d.ssn,.bool d.un,.bool d.fi,.bool d.la,.slice sa' sn' sc',.int .i64 p,.int .i64 id,.int .i64 0,.int .i64 now,.bool false,.bool false,.bool false,.bool false].toArray 207 (0,0))::H1:=by
      unfold RcM.H RcM.cells newR newT
      rw [hL]
      rfl
     rw [List.flatMap_append,hm,List.flatMap_cons,List.flatMap_nil,List.append_nil,e]
     exact this
   · rw [he]
     unfold newT
     rw [hL]
     rfl
   · dsimp only
     rw [List.map_append,hm]
     exact hown'
   · intro q hq
     rcases List.mem_append.1 hq with hq | hq
     · exact hf.recs q hq
     · rw [List.mem_singleton.1 hq,hm]
       exact hb1
   · dsimp only
     rw [List.length_append]
     show f.rs.length+1≤2048
     omega
   · unfold Flt.add
     rw [he,if_pos rfl]
     unfold FM.S
     dsimp only
     rw [List.map_append,hm]
     rfl
end Go.Proofs.YtlfpemmdehmbfaaGreat
namespace Go.Sl
open Go
theorem zeroCells_eq (z:List Value) (hz:0 < z.length) (n:Nat):(Builtin.zeroCells z.toArray n).toList=mkCells z n:=by
 have h:=madeCells_eq z hz n
 unfold madeCells at h
 unfold Builtin.zeroCells
 simp only [List.size_toArray] at h ⊢
 rw [h]
section
variable {x:Cx} {env:Env} {H:HL} {dst:Option Tmp} {ty:TypeId} {pos:String} {aft:Array Edge} {gd:Option (Nat × Bool)}
theorem Ef.clr {T e sz by_:Nat} {z:List Value} {p:Operand} {b off n c:Nat} {H1:HL} [st:SliceT x.P T e sz by_] [zt:ZeroT x.P e z] (hz:Nat.blt 0 z.length=true) (h1:z.all (·.oneCell')=true) (hp:ev env p=some (.slice (some ⟨b,off,none⟩) (n+1) c)) (hc:PutAt b off (mkCells z (n+1)) H H1) :
 Ef x env H ⟨dst,.call ⟨.builtin .clear,#[p],#[T]⟩,ty,pos,aft,gd⟩ (fun v' H'=>v'=.tuple #[]∧H'=H1):=⟨fun a w he hi=>by
 obtain ⟨l,r,T',k,hf,hv,rfl⟩:=hc.foc
 have hg:=hf.heap hi
 obtain ⟨i,hinf,_,_⟩:=info_sl st
 have hzt:=zt.h
 cases hzz:i.zero with
 | none=>simp [hinf,hzz] at hzt
 | some zv=>
 have hzc:zv.cells=z.toArray:=by simpa [hinf,hzz] using hzt
 obtain ⟨hr,hle⟩:=splice_eq hv
 have hones:∀ u ∈ mkCells z (n+1),u.oneCell'=true:=by
  have key:∀ n,∀ u ∈ mkCells z n,u.oneCell'=true:=fun n=>by
   induction n with
   | zero=>intro u hu; cases hu
   | succ n ih=>
     intro u hu
     rw [mkCells] at hu
     rcases List.mem_append.1 hu with hu | hu
     · exact List.all_eq_true.1 h1 u hu
     · exact ih u hu
  exact key _
 have hst:=run_storeCells_at x.P b off T' (mkCells z (n+1)) 0 l.toArray w hg (by simpa using hle) hones
 simp only [Nat.add_zero] at hst
 have hrun:(Builtin.clear_ #[T] ty #[.slice (some ⟨b,off,none⟩) (n+1) c]).run x.P w=.ok (.tuple #[]) (w.setRow b r.toArray):=by
  have hzv:(zeroValue e).run x.P w=.ok zv w:=by simp [zeroValue,typeInfo,hinf,hzz]
  simp [Builtin.clear_,run_underlying st.h,hzv,hzc,zeroCells_eq z (Nat.le_of_ble_eq_true hz),hst,hr]
 refine yields_of_run (v:=.tuple #[]) (w':=w.setRow b r.toArray) ?_ ⟨_,⟨rfl,rfl⟩,hi.upd hf (Upd.setRow hg),(Upd.setRow hg).same⟩
 simp only [execOp,resolve,invoke,builtin,List.map_toArray,List.map_cons,List.map_nil,he.eval hp,Sem.run_bind,Sem.run_pure,Result.andThen_ok,hrun]⟩
end
section
variable {x:Cx} {env:Env} {H:HL} {dst:Option Tmp} {ty:TypeId} {pos:String} {aft:Array Edge} {gd:Option (Nat × Bool)}
theorem Ef.callVW {p:Operand} {f:FuncId} {args:List Operand} {tys:Array TypeId} {fv cv vals all:List Value} {c Hr:HL} {R:Value→HL→Prop} [bd:Body x.P f] (hp:ev env p=some (.func (.func f) fv.toArray cv.toArray)) (hargs:args.map (ev env)=vals.map some)
 (hall:fv++vals++cv=all) (hs:Sub c H Hr) (tr:∀ F',(∀ w,In F' [] w→In x.F Hr w)→Tr x.P f all.toArray F' c R):Ef x env H ⟨dst,.call ⟨.value p,args.toArray,tys⟩,ty,pos,aft,gd⟩ (fun v H'=>∃ H1,R v H1∧H'=H1++Hr):=⟨fun a w he hi=>
 (Ef.callV (dst:=dst) (tys:=tys) (ty:=ty) (pos:=pos) (aft:=aft) (gd:=gd) hp hargs hall hs (tr (addF x.F Hr) (fun _ h=>In.unfocus (H:=c) (hi.perm hs.perm') h))).run a w he hi⟩
end
theorem OwnS.shrink {E sz:Nat} {xs:List Value} {sa:Option Addr} {n c:Nat} {hb:HL} (h:OwnS E sz xs (.slice sa n c) hb) {k:Nat} (hk:k≤n):OwnS E sz (xs.take (k * sz)) (.slice sa k c) hb:=by
 rcases h with ⟨he,rfl,rfl⟩ | ⟨g,n',cap,pre,spare,post,he,rfl,hl,hc,hsp,hm⟩
 · cases he
   have hk0:k=0:=by omega
   subst hk0
   exact .inl ⟨rfl,by simp,rfl⟩
 · cases he
   have hks:k * sz≤n * sz:=Nat.mul_le_mul_right sz hk
   refine .inr ⟨g,k,c,pre,xs.drop (k * sz)++spare,post,rfl,?_,by rw [List.length_take]; omega,by omega,?_,hm⟩
   · congr 4
     simp only [List.append_assoc]
     congr 1
     rw [←List.append_assoc (xs.take (k * sz)) (xs.drop (k * sz)),List.take_append_drop]
   · rw [List.length_append,List.length_drop,hsp,hl,←Nat.sub_mul,←Nat.add_mul]
     congr 1
     omega
section
variable {α:Type} {cells:α→List Value} {sz:Nat}
theorem flat_take (hc:∀ a,(cells a).length=sz) (l:List α) (k:Nat):(l.flatMap cells).take (k * sz)=(l.take k).flatMap cells:=by
 by_cases hk:k≤l.length
 · have h1:l.flatMap cells=(l.take k).flatMap cells++(l.drop k).flatMap cells:=by rw [←List.flatMap_append,List.take_append_drop]
   rw [h1]
   refine List.take_left' ?_
   rw [flat_len' cells sz hc,List.length_take,Nat.min_eq_left hk]
 · rw [List.take_of_length_le (l:=l) (by omega),List.take_of_length_le]
   rw [flat_len' cells sz hc]
   exact Nat.mul_le_mul_right sz (by omega)
theorem flat_drop (hc:∀ a,(cells a).length=sz) (l:List α) (k:Nat):(l.flatMap cells).drop (k * sz)=(l.drop k).flatMap cells:=by
 by_cases hk:k≤l.length
 · have h1:l.flatMap cells=(l.take k).flatMap cells++(l.drop k).flatMap cells:=by rw [←List.flatMap_append,List.take_append_drop]
   rw [h1]
   refine List.drop_left' ?_
   rw [flat_len' cells sz hc,List.length_take,Nat.min_eq_left hk]
 · rw [List.drop_of_length_le (l:=l) (by omega),List.drop_of_length_le]
   · rfl
   · rw [flat_len' cells sz hc]
     exact Nat.mul_le_mul_right sz (by omega)
theorem OwnS.setEl (hc:∀ a,(cells a).length=sz) {E:Nat} {X:List α} {g o n c:Nat} {hb:HL} (h:OwnS E sz (X.flatMap cells) (.slice (some ⟨g,o,none⟩) n c) hb) {k:Nat} (hk:k < X.length) (a:α) :
 ∃ hb',OwnS E sz ((X.set k a).flatMap cells) (.slice (some ⟨g,o,none⟩) n c) hb'∧PutAt g (o+k * sz) (cells a) hb hb':=by
 have hle:(k+1) * sz≤X.length * sz:=Nat.mul_le_mul_right sz hk
 obtain ⟨hb',hown',hput⟩:=h.put (k * sz) (cells a) (by rw [hc,flat_len' cells sz hc]; rw [Nat.add_mul] at hle; omega)
 refine ⟨hb',?_,hput⟩
 have e:(X.set k a).flatMap cells=(X.flatMap cells).take (k * sz)++cells a++(X.flatMap cells).drop (k * sz+(cells a).length):=by
  rw [hc,show k * sz+sz=(k+1) * sz by rw [Nat.add_mul]; omega,flat_take hc,flat_drop hc,List.set_eq_take_append_cons_drop,if_pos hk,List.flatMap_append,List.flatMap_cons,List.append_assoc]
 rw [e]
 exact hown'
structure Dl (dead:α→Bool) (L X:List α) (j:Nat):Prop where
 len:X.length=L.length
 pre:X.take ((L.take j).filter (fun a=>!dead a)).length=(L.take j).filter (fun a=>!dead a)
 post:X.drop j=L.drop j
theorem Dl.kept {dead:α→Bool} {L X:List α} {j:Nat} (_:Dl dead L X j):((L.take j).filter (fun a=>!dead a)).length≤j:=by
 have:=List.length_filter_le (fun a=>!dead a) (L.take j)
 rw [List.length_take] at this
 omega
theorem Dl.get {dead:α→Bool} {L X:List α} {j:Nat} (h:Dl dead L X j) {a:α} (ha:L[j]? = some a):X[j]? = some a:=by
 have:=congrArg (·[0]?) h.post
 simpa [List.getElem?_drop,ha] using this
theorem Dl.goes {dead:α→Bool} {L X:List α} {j:Nat} (h:Dl dead L X j) {a:α} (ha:L[j]? = some a) (hd:dead a=true):Dl dead L X (j+1):=by
 have e:(L.take (j+1)).filter (fun a=>!dead a)=(L.take j).filter (fun a=>!dead a):=by
  rw [List.take_add_one,ha,List.filter_append]
  simp [hd]
 refine ⟨h.len,by rw [e]; exact h.pre,?_⟩
 have:=congrArg (List.drop 1) h.post
 simpa [List.drop_drop,Nat.add_comm] using this
theorem Dl.stays {dead:α→Bool} {L X:List α} {j:Nat} (h:Dl dead L X j) {a:α} (ha:L[j]? = some a) (hd:dead a=false) :
 Dl dead L (X.set ((L.take j).filter (fun a=>!dead a)).length a) (j+1)∧((L.take (j+1)).filter (fun a=>!dead a)).length=((L.take j).filter (fun a=>!dead a)).length+1:=by
 have e:(L.take (j+1)).filter (fun a=>!dead a)=(L.take j).filter (fun a=>!dead a)++[a]:=by
  rw [List.take_add_one,ha,List.filter_append]
  simp [hd]
 have hk:=h.kept
 have hj:=(List.getElem?_eq_some_iff.1 ha).1
 have hl:=h.len
 refine ⟨⟨by rw [List.length_set]; exact h.len,?_,?_⟩,by rw [e,List.length_append]; rfl⟩
 · rw [e,List.length_append,List.length_singleton,List.take_add_one,List.getElem?_set_self (by omega),List.take_set_of_le (by omega),h.pre]
   rfl
 · rw [List.drop_set_of_lt (by omega)]
   have:=congrArg (List.drop 1) h.post
   simpa [List.drop_drop,Nat.add_comm] using this
end
end Go.Sl
