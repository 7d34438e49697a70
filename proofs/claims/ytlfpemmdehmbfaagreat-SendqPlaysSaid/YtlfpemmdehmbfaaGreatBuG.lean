/- Some texts as one. A flight of pieces, in memory; going through the records of a kind, walked. Conditions: it is well formed. A flight of pieces: Out, Open, Lost, Mark, Abandon, walked: they answer as the plain functions do. Conditions: it is well formed; the bytes are few. A flight of pieces: Lost, Cum, Count, New, get, slices.Clone, walked: they answer as the plain functions do. Conditions: it is well formed. A path of an end: the program's estimator and window, walked. Conditions: they are well formed. -/
import Derived.Test.YtlfpemmdehmbfaaGreatBuD
import Derived.Test.YtlfpemmdehmbfaaGreatBuE
import Derived.Test.YtlfpemmdehmbfaaGreatBuF
namespace Go.Proofs.YtlfpemmdehmbfaaGreat
open Go Go.Sl Go.Flt
structure RcM where
 b:Nat
 r:Rc
 ba:Option Addr
 bn:Nat
 bc:Nat
 bb:HL
def RcM.cells (m:RcM):List Value:=[.int .u32 m.r.tsn,.int .u16 m.r.stream,.int .u16 m.r.ssn,.bool m.r.un,.bool m.r.fi,.bool m.r.la,.slice m.ba m.bn m.bc,.int .i64 m.r.path,.int .i64 m.r.id,.int .i64 m.r.miss,.int .i64 m.r.at_,.bool m.r.acked,.bool m.r.lost,.bool m.r.gone,.bool m.r.again]
def RcM.H (m:RcM):HL:=(m.b,.cells m.cells.toArray 207 (0,0))::m.bb
def RcM.ok (m:RcM):Prop:=OwnS 5 1 (m.r.bs.map B) (.slice m.ba m.bn m.bc) m.bb
def RcM.p (m:RcM):Value:=.pointer (some ⟨m.b,0,none⟩)
theorem RcM.ok.len {m:RcM} (h:m.ok):m.r.bs.length=m.bn:=by have:=OwnS.len h; simp at this; exact this
structure FM where
 R:Nat
 sa:Option Addr
 sn:Nat
 sc:Nat
 sb:HL
 rs:List RcM
 c:Int
 paths:Int
def FM.B (f:FM):Nat × Obj:=(f.R,.cells [.slice f.sa f.sn f.sc,.int .u32 f.c,.int .i64 f.paths].toArray 141 (0,0))
def FM.H (f:FM):HL:=f.B::(f.sb++f.rs.flatMap RcM.H)
def FM.S (f:FM):Flt.S:=⟨f.rs.map (·.r),f.c,f.paths⟩
structure FM.ok (f:FM):Prop where
 own:OwnS 205 1 (f.rs.map RcM.p) (.slice f.sa f.sn f.sc) f.sb
 recs:∀ m ∈ f.rs,m.ok
 c:0≤f.c∧f.c < 4294967296
 few:f.rs.length≤2048
theorem FM.ok.len {f:FM} (h:f.ok):f.rs.length=f.sn:=by have:=h.own.len; simp at this; exact this
theorem flat_split {l:List RcM} {i:Nat} {m:RcM} (h:l[i]? = some m):l.flatMap RcM.H=(l.take i).flatMap RcM.H++(m.H++(l.drop (i+1)).flatMap RcM.H):=by
 have hi:=(List.getElem?_eq_some_iff.1 h).1
 have he:=(List.getElem?_eq_some_iff.1 h).2
 have:l=l.take i++m::l.drop (i+1):=by rw [←he,←List.drop_eq_getElem_cons hi,List.take_append_drop]
 rw [←List.flatMap_cons,←List.flatMap_append,←this]
theorem flat_set {l:List RcM} {i:Nat} {m m':RcM} (h:l[i]? = some m):(l.set i m').flatMap RcM.H=(l.take i).flatMap RcM.H++(m'.H++(l.drop (i+1)).flatMap RcM.H):=by
 have hi:=(List.getElem?_eq_some_iff.1 h).1
 rw [List.set_eq_take_append_cons_drop,if_pos hi,List.flatMap_append,List.flatMap_cons]
theorem rec_can {F:Nat→Option Obj} {f:FM} {i:Nat} {m:RcM} (h:f.rs[i]? = some m):Sl.Can F f.H m.b 0 m.cells:=by
 unfold FM.H
 rw [flat_split h]
 exact Can.cut (n:=15) (.there (.right (.right (.left (.here rfl)))))
theorem rec_can' {F:Nat→Option Obj} {H:HL} {f:FM} {i:Nat} {m:RcM} (h:f.rs[i]? = some m) (hw:∀ w,In F H w→In F f.H w):Sl.Can F H m.b 0 m.cells:=(rec_can (F:=F) h).mono hw
theorem rec_put {f:FM} {i:Nat} {m:RcM} (h:f.rs[i]? = some m) {off:Nat} {vs:List Value} {r':Rc} (hs:spliceK m.cells off vs some=some ({ m with r:=r' }:RcM).cells) :
 PutAt m.b off vs f.H ({ f with rs:=f.rs.set i { m with r:=r' } }:FM).H:=by
 unfold FM.H
 rw [flat_split h,flat_set h]
 exact .there (.right (.right (.left (.here hs))))
theorem fl_can {F:Nat→Option Obj} (f:FM):Sl.Can F f.H f.R 0 [.slice f.sa f.sn f.sc,.int .u32 f.c,.int .i64 f.paths]:=Can.cut (n:=3) (.here rfl)
theorem fl_row {F:Nat→Option Obj} {f:FM} (hf:f.ok):Lst F f.H 1 (f.rs.map RcM.p) f.sa f.sn f.sc:=(Lst.own (F:=F) (H:=f.sb) hf.own (fun _ h=>h)).mono (fun _ h=>h.sublist (.cons _ (List.sublist_append_left _ _)))
theorem fl_ptr {F:Nat→Option Obj} {f:FM} (hf:f.ok) {i:Nat} {m:RcM} (h:f.rs[i]? = some m):∃ gb go,f.sa=some ⟨gb,go,none⟩∧Sl.Can F f.H gb (go+(i:Int).toNat * 1) [m.p]:=by
 have hl:=fl_row (F:=F) hf
 have e:(f.rs.map RcM.p).flatMap (fun v:Value=>[v])=f.rs.map RcM.p:=by
  induction f.rs.map RcM.p with
  | nil=>rfl
  | cons a l ih=>simp [ih]
 rw [←e] at hl
 have hlen:=hf.len
 have hi:=(List.getElem?_eq_some_iff.1 h).1
 exact hl.el (cells:=fun v:Value=>[v]) (fun _=>rfl) (by rw [List.getElem?_map,h]; rfl) (by omega)
theorem set_ok {f:FM} (hf:f.ok) {i:Nat} {m:RcM} (h:f.rs[i]? = some m) {r':Rc} (hb:r'.bs=m.r.bs):({ f with rs:=f.rs.set i { m with r:=r' } }:FM).ok:=by
 refine ⟨?_,fun q hq=>?_,hf.c,by simpa using hf.few⟩
 · have:(f.rs.set i { m with r:=r' }).map RcM.p=f.rs.map RcM.p:=by
    rw [List.map_set]
    refine List.ext_getElem? (fun j=>?_)
    by_cases hj:i=j
    · subst hj
      have hi:=(List.getElem?_eq_some_iff.1 h).1
      rw [List.getElem?_set_self (by simpa using hi),List.getElem?_map,h]
      rfl
    · rw [List.getElem?_set_ne hj]
   dsimp only
   rw [this]
   exact hf.own
 · dsimp only at hq
   rcases List.mem_or_eq_of_mem_set hq with hq | rfl
   · exact hf.recs q hq
   · have:=hf.recs m (List.mem_of_getElem? h)
     unfold RcM.ok at this ⊢
     dsimp only
     rw [hb]
     exact this
theorem such_tr (F:Nat→Option Obj) (p isV:Value) (h1:p.oneCell'=true) (h2:isV.oneCell'=true):Tr Tryz.prog 122 [p,isV].toArray F [] (fun v H=>∃ b2 b3,v=.func (.func 179) ([]:List Value).toArray [.pointer (some ⟨b2,0,none⟩),.pointer (some ⟨b3,0,none⟩)].toArray∧H=[(b3,.cells [isV].toArray 203 (0,0)),(b2,.cells [p].toArray 78 (0,0))]):=by
 refine Tr.enter Tryz.func122 rfl Tryz.ntmps122 rfl (fun w0=>?_)
 refine SPS ?_; repeat' (first|refine ⟨fun hc=>?_,fun hc=>?_⟩|intro)
 refine WL.e rfl (Ef.bx rfl h1) ?_
 rintro _ _ ⟨b2,rfl,rfl⟩
 refine WL.e rfl (Ef.bx rfl h2) ?_
 rintro _ _ ⟨b3,rfl,rfl⟩
 refine SPS ?_; repeat' (first|refine ⟨fun hc=>?_,fun hc=>?_⟩|intro)
 exact Fin.retW (by exact rfl) resA (fun _ h=>h) ⟨b2,b3,rfl,rfl⟩
structure SuG where
 i:Nat
 H:HL
set_option maxHeartbeats 2000000 in
theorem such1_tr (F:Nat→Option Obj) (R b2 b3 l:Nat) (ig:FuncId) (icv:List Value) [bd:Body Tryz.prog ig] (n sc:Nat) (sa:Option Addr) (pt:Nat→Value) (hn:n≤1000000) (q:Nat→Bool) (J:Nat→HL→Prop)
 (hJ:∀ i H,i≤n→J i H→Sl.Can F H b2 0 [.pointer (some ⟨R,0,none⟩)]∧Sl.Can F H b3 0 [.func (.func ig) ([]:List Value).toArray icv.toArray]∧Sl.Can F H R (0+0) [.slice sa n sc]∧(i < n→∃ gb go,sa=some ⟨gb,go,none⟩∧Sl.Can F H gb (go+(i:Int).toNat * 1) [pt i]))
 (his:∀ i H,i < n→J i H→∀ F',(∀ w,In F' [] w→In F H w)→Tr Tryz.prog ig (pt i::icv).toArray F' [] (fun v H'=>v=.bool (q i)∧H'=[]))
 (hno:∀ i H,i < n→q i=false→J i H→J (i+1) H)
 (hyes:∀ i H,i < n→q i=true→J i H→∀ F',(∀ w,In F' [] w→In F [] w)→TrY Tryz.prog l [pt i] F' H (fun v H'=>v=.bool true∧J (i+1) H')) (H0:HL) (h0:J 0 H0) :
 Tr Tryz.prog 179 [.func (.yield l) #[] #[],.pointer (some ⟨b2,0,none⟩),.pointer (some ⟨b3,0,none⟩)].toArray F H0 (fun _ H=>J n H):=by
 refine Tr.enter Tryz.func179 rfl Tryz.ntmps179 rfl (fun w0=>?_)
 obtain ⟨hc2,hc3,hcR,_⟩:=hJ 0 H0 (Nat.zero_le _) h0
 refine SPS ?_; repeat' (first|refine ⟨fun hc=>?_,fun hc=>?_⟩|intro)
 refine W.loop (G:=SuG) (fun g=>[(0,.func (.yield l) #[] #[]),(1,.pointer (some ⟨b2,0,none⟩)),(2,.pointer (some ⟨b3,0,none⟩)),(11,.slice sa n sc),(12,.int .i64 n),(13,.int .i64 g.i)]) (fun g=>g.H) (fun g=>g.i≤n∧J g.i g.H) (fun g=>n - g.i) ⟨0,H0⟩ ⟨Nat.zero_le _,h0⟩ envA (fun _ h=>h) ?_
 clear hc2 hc3 hcR
 rintro ⟨i,H⟩ ⟨hi,hj⟩
 dsimp only at hi hj ⊢
 obtain ⟨hc2,hc3,hcR,hpt⟩:=hJ i H hi hj
 refine SPS ?_; repeat' (first|refine ⟨fun hc=>?_,fun hc=>?_⟩|intro)
 · have hi':i < n:=by have:=of_decide_eq_true hc; omega
   obtain ⟨gb,go,rfl,hp⟩:=hpt hi'
   have hia:0≤(i:Int)∧(i:Int) < n:=by omega
   refine SPS ?_; repeat' (first|refine ⟨fun hc=>?_,fun hc=>?_⟩|intro)
   refine WL.e rfl (Ef.lookV (fv:=[]) (cv:=icv) (vals:=[pt i]) rfl (by exact rfl) rfl (his i H hi' hj)) ?_
   rintro _ H ⟨rfl,rfl⟩
   cases hq:q i with
   | false=>
     refine SPS ?_; repeat' (first|refine ⟨fun hc=>?_,fun hc=>?_⟩|intro)
     rw [i64_succ (by omega)]
     exact Fin.round ⟨i+1,H⟩ ⟨hi',hno i H hi' hq hj⟩ envA (fun _ h=>h) (by dsimp only; omega)
   | true=>
     refine SPS ?_; repeat' (first|refine ⟨fun hc=>?_,fun hc=>?_⟩|intro)
     refine WL.e rfl (Ef.callY (l:=l) (vals:=[pt i]) rfl (by exact rfl) (.all H) (fun hd=>hyes i H hi' hq hj _ (fun _ h=>addF_in hd h))) ?_
     rintro _ _ ⟨H1,⟨rfl,hj'⟩,rfl⟩
     rw [List.append_nil]
     refine SPS ?_; repeat' (first|refine ⟨fun hc=>?_,fun hc=>?_⟩|intro)
     rw [i64_succ (by omega)]
     exact Fin.round ⟨i+1,H1⟩ ⟨hi',hj'⟩ envA (fun _ h=>h) (by dsimp only; omega)
 · have hin:i=n:=by have:=of_decide_eq_false hc; omega
   subst hin
   exact Fin.endW (by exact rfl) resA (fun _ h=>h) hj
theorem away_tr (F:Nat→Option Obj) (m:RcM) (hm:Sl.Can F [] m.b 0 m.cells):Tr Tryz.prog 142 [m.p].toArray F [] (fun v H=>v=.bool (Flt.away m.r)∧H=[]):=by
 refine Tr.enter Tryz.func142 rfl Tryz.ntmps142 rfl (fun w0=>?_)
 have h1:Sl.Can F [] m.b (0+11) [.bool m.r.acked]:=hm.one (i:=11) rfl
 have h2:Sl.Can F [] m.b (0+12) [.bool m.r.lost]:=hm.one (i:=12) rfl
 have h3:Sl.Can F [] m.b (0+13) [.bool m.r.gone]:=hm.one (i:=13) rfl
 unfold RcM.p
 refine SPS ?_; repeat' (first|refine ⟨fun hc=>?_,fun hc=>?_⟩|intro)
 all_goals
  refine Fin.retW (by exact rfl) resA (fun _ h=>h) ⟨?_,rfl⟩
  unfold Flt.away
  dsimp only [tup]
  simp_all
theorem open_tr (F:Nat→Option Obj) (m:RcM) (hm:Sl.Can F [] m.b 0 m.cells):Tr Tryz.prog 181 [m.p].toArray F [] (fun v H=>v=.bool (Flt.openR m.r)∧H=[]):=by
 refine Tr.enter Tryz.func181 rfl Tryz.ntmps181 rfl (fun w0=>?_)
 have h1:Sl.Can F [] m.b (0+11) [.bool m.r.acked]:=hm.one (i:=11) rfl
 have h2:Sl.Can F [] m.b (0+12) [.bool m.r.lost]:=hm.one (i:=12) rfl
 have h3:Sl.Can F [] m.b (0+13) [.bool m.r.gone]:=hm.one (i:=13) rfl
 unfold RcM.p
 refine SPS ?_; repeat' (first|refine ⟨fun hc=>?_,fun hc=>?_⟩|intro)
 all_goals
  refine Fin.retW (by exact rfl) resA (fun _ h=>h) ⟨?_,rfl⟩
  unfold Flt.openR
  dsimp only [tup]
  simp_all
theorem by_tr (F:Nat→Option Obj) (p:Int):Tr Tryz.prog 123 [.int .i64 p].toArray F [] (fun v H=>∃ bp,v=.func (.func 180) ([]:List Value).toArray [.pointer (some ⟨bp,0,none⟩)].toArray∧H=[(bp,.cells [.int .i64 p].toArray 3 (0,0))]):=by
 refine Tr.enter Tryz.func123 rfl Tryz.ntmps123 rfl (fun w0=>?_)
 refine SPS ?_; repeat' (first|refine ⟨fun hc=>?_,fun hc=>?_⟩|intro)
 exact Fin.retW (by exact rfl) resA (fun _ h=>h) ⟨_,rfl,rfl⟩
theorem by1_tr (F:Nat→Option Obj) (m:RcM) (bp:Nat) (p:Int) (hm:Sl.Can F [] m.b 0 m.cells) (hp:Sl.Can F [] bp 0 [.int .i64 p]):Tr Tryz.prog 180 [m.p,.pointer (some ⟨bp,0,none⟩)].toArray F [] (fun v H=>v=.bool (byP p m.r)∧H=[]):=by
 refine Tr.enter Tryz.func180 rfl Tryz.ntmps180 rfl (fun w0=>?_)
 have h1:Sl.Can F [] m.b (0+7) [.int .i64 m.r.path]:=hm.one (i:=7) rfl
 unfold RcM.p
 refine SPS ?_; repeat' (first|refine ⟨fun hc=>?_,fun hc=>?_⟩|intro)
 · have hpp:m.r.path=p:=by simpa using hc
   refine WD.e rfl (Ef.lookR (by exact rfl) (fun F' hF=>away_tr F' m (hm.mono (fun w h=>hF w h)))) ?_
   rintro _ _ ⟨rfl,rfl⟩
   refine ⟨.inr (fun _ h=>h),?_⟩
   refine SPS ?_; repeat' (first|refine ⟨fun hc=>?_,fun hc=>?_⟩|intro)
   exact Fin.retW (by exact rfl) resA (fun _ h=>h) ⟨by unfold byP; rw [decide_eq_true hpp,Bool.true_and]; rfl,rfl⟩
 · have hpp:¬ m.r.path=p:=by simpa using hc
   exact Fin.retW (by exact rfl) resA (fun _ h=>h) ⟨by unfold byP; rw [decide_eq_false hpp]; rfl,rfl⟩
theorem ofId_tr (F:Nat→Option Obj) (m:RcM) (bp:Nat) (p:Int) (hm:Sl.Can F [] m.b 0 m.cells) (hp:Sl.Can F [] bp 0 [.int .i64 p]):Tr Tryz.prog 154 [m.p,.pointer (some ⟨bp,0,none⟩)].toArray F [] (fun v H=>v=.bool (ofId p m.r)∧H=[]):=by
 refine Tr.enter Tryz.func154 rfl Tryz.ntmps154 rfl (fun w0=>?_)
 have h0:Sl.Can F [] m.b (0+8) [.int .i64 m.r.id]:=hm.one (i:=8) rfl
 have h1:Sl.Can F [] m.b (0+11) [.bool m.r.acked]:=hm.one (i:=11) rfl
 have h3:Sl.Can F [] m.b (0+13) [.bool m.r.gone]:=hm.one (i:=13) rfl
 unfold RcM.p
 refine SPS ?_; repeat' (first|refine ⟨fun hc=>?_,fun hc=>?_⟩|intro)
 all_goals
  refine Fin.retW (by exact rfl) resA (fun _ h=>h) ⟨?_,rfl⟩
  unfold ofId
  dsimp only [tup]
  simp_all
theorem unack_tr (F:Nat→Option Obj) (m:RcM) (hm:Sl.Can F [] m.b 0 m.cells):Tr Tryz.prog 149 [m.p].toArray F [] (fun v H=>v=.bool (unack m.r)∧H=[]):=by
 refine Tr.enter Tryz.func149 rfl Tryz.ntmps149 rfl (fun w0=>?_)
 have h1:Sl.Can F [] m.b (0+11) [.bool m.r.acked]:=hm.one (i:=11) rfl
 unfold RcM.p
 refine SPS ?_; repeat' (first|refine ⟨fun hc=>?_,fun hc=>?_⟩|intro)
 exact Fin.retW (by exact rfl) resA (fun _ h=>h) ⟨rfl,rfl⟩
theorem isAck_tr (F:Nat→Option Obj) (m:RcM) (hm:Sl.Can F [] m.b 0 m.cells):Tr Tryz.prog 143 [m.p].toArray F [] (fun v H=>v=.bool (isAck m.r)∧H=[]):=by
 refine Tr.enter Tryz.func143 rfl Tryz.ntmps143 rfl (fun w0=>?_)
 have h1:Sl.Can F [] m.b (0+11) [.bool m.r.acked]:=hm.one (i:=11) rfl
 unfold RcM.p
 refine SPS ?_; repeat' (first|refine ⟨fun hc=>?_,fun hc=>?_⟩|intro)
 exact Fin.retW (by exact rfl) resA (fun _ h=>h) ⟨rfl,rfl⟩
theorem low1_tr (F:Nat→Option Obj) (m:RcM) (hm:Sl.Can F [] m.b 0 m.cells):Tr Tryz.prog 187 [m.p].toArray F [] (fun v H=>v=.bool (low1 m.r)∧H=[]):=by
 refine Tr.enter Tryz.func187 rfl Tryz.ntmps187 rfl (fun w0=>?_)
 have h1:Sl.Can F [] m.b (0+11) [.bool m.r.acked]:=hm.one (i:=11) rfl
 have h3:Sl.Can F [] m.b (0+13) [.bool m.r.gone]:=hm.one (i:=13) rfl
 unfold RcM.p
 refine SPS ?_; repeat' (first|refine ⟨fun hc=>?_,fun hc=>?_⟩|intro)
 all_goals
  refine Fin.retW (by exact rfl) resA (fun _ h=>h) ⟨?_,rfl⟩
  unfold low1
  dsimp only [tup]
  simp_all
end Go.Proofs.YtlfpemmdehmbfaaGreat
namespace Go.Proofs.YtlfpemmdehmbfaaGreat
open Go Go.Sl Go.Flt
def FM.small (f:FM):Prop:=sumB (fun _=>true) (f.rs.map (·.r))≤1000000000000
theorem sum_small {f:FM} (h:f.small) (q:Rc→Bool) (i:Nat):sumB q ((f.rs.map (·.r)).take i)≤1000000000000:=by
 have h1:∀ L:List Rc,sumB q L≤sumB (fun _=>true) L:=fun L=>by
  induction L with
  | nil=>exact Nat.le_refl _
  | cons a L ih=>
    have e1:sumB q (a::L)=(if q a then a.bs.length else 0)+sumB q L:=by
     unfold sumB
     cases hq:q a <;> simp [hq]
    have e2:sumB (fun _=>true) (a::L)=a.bs.length+sumB (fun _=>true) L:=by unfold sumB; simp
    rw [e1,e2]
    split <;> omega
 exact Nat.le_trans (sumB_take q _ i) (Nat.le_trans (h1 _) h)
def HS (l D:Nat) (lp:Loop) (b2 b3 R:Nat) (isV:Value) (rest:HL):HL:=(l,.loop lp)::(D,.deferred (some []))::(b3,.cells [isV].toArray 203 (0,0))::(b2,.cells [.pointer (some ⟨R,0,none⟩)].toArray 78 (0,0))::rest
def ptOf (f:FM) (i:Nat):Value:=match f.rs[i]? with | some m=>m.p | none=>undef
theorem su_cans {F:Nat→Option Obj} {l D b2 b3 R:Nat} {lp:Loop} {isV:Value} {rest:HL} {f:FM} (hf:f.ok) (hR:f.R=R) (hw:∀ w,In F rest w→In F f.H w) :
 Sl.Can F (HS l D lp b2 b3 R isV rest) b2 0 [.pointer (some ⟨R,0,none⟩)]∧Sl.Can F (HS l D lp b2 b3 R isV rest) b3 0 [isV]∧Sl.Can F (HS l D lp b2 b3 R isV rest) R (0+0) [.slice f.sa f.sn f.sc]∧
  (∀ i,i < f.sn→∃ gb go,f.sa=some ⟨gb,go,none⟩∧Sl.Can F (HS l D lp b2 b3 R isV rest) gb (go+(i:Int).toNat * 1) [ptOf f i]):=by
 subst hR
 have hw':∀ w,In F (HS l D lp b2 b3 f.R isV rest) w→In F f.H w:=fun w h=>hw w (h.sublist (.cons _ (.cons _ (.cons _ (.cons _ (.refl _))))))
 refine ⟨Can.cut (n:=1) (.there (.there (.there (.here rfl)))),Can.cut (n:=1) (.there (.there (.here rfl))),((fl_can f).mono hw').one (i:=0) rfl,fun i hi=>?_⟩
 have hlen:=hf.len
 have hm:f.rs[i]? = some (f.rs[i]'(by omega)):=by simp
 obtain ⟨gb,go,h1,h2⟩:=fl_ptr (F:=F) hf hm
 exact ⟨gb,go,h1,by unfold ptOf; rw [hm]; exact h2.mono hw'⟩
theorem su_rec {F F':Nat→Option Obj} {l D b2 b3 R:Nat} {lp:Loop} {isV:Value} {rest:HL} {f:FM} (hw:∀ w,In F rest w→In F f.H w) (hF:∀ w,In F' [] w→In F (HS l D lp b2 b3 R isV rest) w) {i:Nat} {m:RcM} (hm:f.rs[i]? = some m):Sl.Can F' [] m.b 0 m.cells:=
 (rec_can (F:=F) hm).mono (fun w h=>hw w ((hF w h).sublist (.cons _ (.cons _ (.cons _ (.cons _ (.refl _)))))))
def turnM (q:Rc→Bool) (g:Rc→Rc) (m:RcM):RcM:=if q m.r then { m with r:=g m.r } else m
def FM.half (f:FM) (q:Rc→Bool) (g:Rc→Rc) (i:Nat):FM:={ f with rs:=(f.rs.take i).map (turnM q g)++f.rs.drop i }
theorem halfM_get {f:FM} (q:Rc→Bool) (g:Rc→Rc) {i:Nat} {m:RcM} (h:f.rs[i]? = some m):(f.half q g i).rs[i]? = some m:=by
 have hi:=(List.getElem?_eq_some_iff.1 h).1
 dsimp only [FM.half]
 rw [List.getElem?_append_right (by simp; omega)]
 simp only [List.length_map,List.length_take]
 rw [List.getElem?_drop,show i+(i - min i f.rs.length)=i by omega]
 exact h
theorem halfM_succ {f:FM} (q:Rc→Bool) (g:Rc→Rc) {i:Nat} {m:RcM} (h:f.rs[i]? = some m):f.half q g (i+1)={ f.half q g i with rs:=(f.half q g i).rs.set i (turnM q g m) }:=by
 have hi:=(List.getElem?_eq_some_iff.1 h).1
 have hd:f.rs.drop i=m::f.rs.drop (i+1):=by
  rw [List.drop_eq_getElem_cons hi]
  have:=(List.getElem?_eq_some_iff.1 h).2
  rw [this]
 unfold FM.half
 dsimp only
 congr 1
 rw [List.take_add_one,h,hd,List.map_append,List.set_append_right _ _ (by simp; omega)]
 have:i - ((f.rs.take i).map (turnM q g)).length=0:=by simp; omega
 rw [this]
 simp
theorem halfM_ok {f:FM} (hf:f.ok) (q:Rc→Bool) (g:Rc→Rc) (hg:∀ r,(g r).bs=r.bs):∀ i,i≤f.rs.length→(f.half q g i).ok
 | 0,_=>hf
 | i+1,hi=>by
   have hm:f.rs[i]? = some (f.rs[i]'(by omega)):=by simp
   have ih:=halfM_ok hf q g hg i (by omega)
   rw [halfM_succ q g hm]
   unfold turnM
   split
   · exact set_ok ih (halfM_get q g hm) (hg _)
   · have:=set_ok ih (halfM_get q g hm) (r':=(f.rs[i]'(by omega)).r) rfl
     exact this
theorem halfM_no {f:FM} (q:Rc→Bool) (g:Rc→Rc) {i:Nat} {m:RcM} (h:f.rs[i]? = some m) (hq:q m.r=false):f.half q g (i+1)=f.half q g i:=by
 rw [halfM_succ q g h]
 unfold turnM
 rw [hq,if_neg (by simp)]
 have hg:=halfM_get q g h
 have:(f.half q g i).rs.set i m=(f.half q g i).rs:=by
  refine List.ext_getElem? (fun j=>?_)
  by_cases hj:i=j
  · subst hj
    rw [List.getElem?_set_self (List.getElem?_eq_some_iff.1 hg).1,hg]
  · rw [List.getElem?_set_ne hj]
 rw [this]
theorem halfM_yes {f:FM} (q:Rc→Bool) (g:Rc→Rc) {i:Nat} {m:RcM} (h:f.rs[i]? = some m) (hq:q m.r=true):f.half q g (i+1)={ f.half q g i with rs:=(f.half q g i).rs.set i { m with r:=g m.r } }:=by
 rw [halfM_succ q g h]
 unfold turnM
 rw [hq,if_pos rfl]
theorem halfM_all (f:FM) (q:Rc→Bool) (g:Rc→Rc):(f.half q g f.rs.length).S={ f.S with L:=sel q g f.S.L }:=by
 unfold FM.half FM.S sel
 dsimp only
 rw [List.take_length,List.drop_length,List.append_nil,List.map_map,List.map_map]
 congr 1
 refine List.map_congr_left (fun m _=>?_)
 dsimp only [Function.comp,turnM]
 split <;> rfl
theorem ptOf_half (f:FM) (q:Rc→Bool) (g:Rc→Rc) {i:Nat} {m:RcM} (h:f.rs[i]? = some m):ptOf (f.half q g i) i=ptOf f i:=by
 unfold ptOf
 rw [halfM_get q g h,h]
set_option maxHeartbeats 4000000 in
theorem out_tr (F:Nat→Option Obj) (f:FM) (hf:f.ok) (hs:f.small) (p:Int):Tr Tryz.prog 53 [.pointer (some ⟨f.R,0,none⟩),.int .i64 p].toArray F f.H (fun v H=>v=.int .i64 (Flt.out f.S p)∧H=f.H):=by
 refine Tr.enterM Tryz.func53 rfl Tryz.ntmps53 rfl (fun w0=>?_)
 have hlen:=hf.len
 have hfew:=hf.few
 refine SPS ?_; repeat' (first|refine ⟨fun hc=>?_,fun hc=>?_⟩|intro)
 rename_i bn
 refine WL.e rfl (Ef.call (by exact rfl) (.nil _) (by_tr _ p)) ?_
 rintro _ _ ⟨_,⟨bp,rfl,rfl⟩,rfl⟩
 refine SPS ?_; repeat' (first|refine ⟨fun hc=>?_,fun hc=>?_⟩|intro)
 refine WL.e rfl (Ef.call (by exact rfl) (.nil _) (such_tr _ (.pointer (some ⟨f.R,0,none⟩)) (.func (.func 180) ([]:List Value).toArray [.pointer (some ⟨bp,0,none⟩)].toArray) rfl rfl)) ?_
 rintro _ _ ⟨_,⟨b2,b3,rfl,rfl⟩,rfl⟩
 refine SPS ?_; repeat' (first|refine ⟨fun hc=>?_,fun hc=>?_⟩|intro)
 refine W.rangeF (gf:=179) (fv:=[]) (cv:=[.pointer (some ⟨b2,0,none⟩),.pointer (some ⟨b3,0,none⟩)]) rfl rfl (fun l D r hr=>?_)
 obtain ⟨RE,hRE⟩:∃ RE:Nat→HL,RE=fun i=>(bp,Obj.cells [.int .i64 p].toArray 3 (0,0))::(bn,.cells [.int .i64 (sumB (byP p) ((f.rs.map (·.r)).take i):Nat)].toArray 3 (0,0))::f.H:=⟨_,rfl⟩
 have hRw:∀ i w,In F (RE i) w→In F f.H w:=fun i w h=>by rw [hRE] at h; exact h.sublist (.cons _ (.cons _ (.refl _)))
 have hcall:=such1_tr F f.R b2 b3 l 180 [.pointer (some ⟨bp,0,none⟩)] f.sn f.sc f.sa (ptOf f) (by omega) (fun i=>match f.rs[i]? with | some m=>byP p m.r | none=>false)
  (fun i H=>H=HS l D r b2 b3 f.R (.func (.func 180) ([]:List Value).toArray [.pointer (some ⟨bp,0,none⟩)].toArray) (RE i))
  (fun i H hi hH=>by
   subst hH
   obtain ⟨h1,h2,h3,h4⟩:=su_cans (F:=F) (l:=l) (D:=D) (lp:=r) (b2:=b2) (b3:=b3) (isV:=.func (.func 180) ([]:List Value).toArray [.pointer (some ⟨bp,0,none⟩)].toArray) (rest:=RE i) hf rfl (hRw i)
   exact ⟨h1,h2,h3,h4 i⟩)
  (fun i H hi hH F' hF=>by
   subst hH
   obtain ⟨m,hm⟩:∃ m,f.rs[i]? = some m:=⟨f.rs[i]'(by omega),by simp⟩
   unfold ptOf
   rw [hm]
   refine by1_tr F' m bp p (su_rec (hRw i) hF hm) ?_
   refine Can.mono (F:=F) (H:=RE i) ?_ (fun w h=>(hF w h).sublist (.cons _ (.cons _ (.cons _ (.cons _ (.refl _))))))
   rw [hRE]
   exact Can.cut (n:=1) (.here rfl))
  (fun i H hi hq hH=>by
   subst hH
   obtain ⟨m,hm⟩:∃ m,f.rs[i]? = some m:=⟨f.rs[i]'(by omega),by simp⟩
   rw [hm] at hq
   have hsn:=sumB_snoc (byP p) (L:=f.rs.map (·.r)) (i:=i) (r:=m.r) (by rw [List.getElem?_map,hm]; rfl)
   rw [show (byP p) m.r=false from hq,if_neg (by simp)] at hsn
   rw [hRE]
   dsimp only
   rw [hsn]
   rfl)
  (fun i H hi hq hH F' hF=>by
   subst hH
   obtain ⟨m,hm⟩:∃ m,f.rs[i]? = some m:=⟨f.rs[i]'(by omega),by simp⟩
   rw [hm] at hq
   have hsn:=sumB_snoc (byP p) (L:=f.rs.map (·.r)) (i:=i) (r:=m.r) (by rw [List.getElem?_map,hm]; rfl)
   rw [show (byP p) m.r=true from hq,if_pos rfl] at hsn
   have hsm:=sum_small hs (byP p) (i+1)
   have hml:=(hf.recs m (List.mem_of_getElem? hm)).len
   unfold ptOf
   rw [hm]
   rw [hRE]
   dsimp only
   rw [hsn]
   rw [hsn] at hsm
   obtain ⟨c,hc⟩:∃ c,sumB (byP p) ((f.rs.map (·.r)).take i)=c:=⟨_,rfl⟩
   rw [hc] at hsm ⊢
   refine TrY.of hr rfl (fun w h=>h.own (l,.loop r) (by simp [HS])) (fun w1=>?_)
   unfold RcM.p HS
   refine SPS ?_; repeat' (first|refine ⟨fun hc=>?_,fun hc=>?_⟩|intro)
   refine Fin.begin (Foc.here _) hr.state ?_
   refine SPS ?_; repeat' (first|refine ⟨fun hc=>?_,fun hc=>?_⟩|intro)
   refine WD.s rfl (Rd.ldC rfl ((rec_can' hm (fun _ h=>h.sublist findA)).one (i:=6) rfl)) ?_
   refine SPS ?_; repeat' (first|refine ⟨fun hc=>?_,fun hc=>?_⟩|intro)
   refine Fin.more (Foc.here _) (fun _ h=>h) ⟨rfl,?_⟩
   simp only [hr.again]
   rw [i64_id (by omega) (by omega),hml]
   rfl)
  (HS l D r b2 b3 f.R (.func (.func 180) ([]:List Value).toArray [.pointer (some ⟨bp,0,none⟩)].toArray) (RE 0)) (by rfl)
 refine Tr.mono (R:=fun _ H=>H=HS l D r b2 b3 f.R (.func (.func 180) ([]:List Value).toArray [.pointer (some ⟨bp,0,none⟩)].toArray) (RE f.sn)) ?_ ?_
 · rw [hRE] at hcall ⊢
   exact hcall
 · rintro _ _ rfl
   refine ⟨r,_,.refl _,by rw [hr.state]; simp,?_⟩
   rw [hr.pending,hRE]
   dsimp only [Cx.marked]
   rw [List.take_of_length_le (by simp; omega)]
   refine SPS ?_; repeat' (first|refine ⟨fun hc=>?_,fun hc=>?_⟩|intro)
   exact Fin.retM (D:=D) (by exact rfl) .here resA (H':=f.H) (fun _ h=>h.sublist findA) ⟨rfl,rfl⟩
set_option maxHeartbeats 4000000 in
theorem openB_tr (F:Nat→Option Obj) (f:FM) (hf:f.ok) (hs:f.small):Tr Tryz.prog 73 [.pointer (some ⟨f.R,0,none⟩)].toArray F f.H (fun v H=>v=.int .i64 (Flt.openB f.S)∧H=f.H):=by
 refine Tr.enterM Tryz.func73 rfl Tryz.ntmps73 rfl (fun w0=>?_)
 have hlen:=hf.len
 have hfew:=hf.few
 refine SPS ?_; repeat' (first|refine ⟨fun hc=>?_,fun hc=>?_⟩|intro)
 rename_i bn
 refine WL.e rfl (Ef.call (by exact rfl) (.nil _) (such_tr _ (.pointer (some ⟨f.R,0,none⟩)) (.func (.func 149) ([]:List Value).toArray ([]:List Value).toArray) rfl rfl)) ?_
 rintro _ _ ⟨_,⟨b2,b3,rfl,rfl⟩,rfl⟩
 refine SPS ?_; repeat' (first|refine ⟨fun hc=>?_,fun hc=>?_⟩|intro)
 refine W.rangeF (gf:=179) (fv:=[]) (cv:=[.pointer (some ⟨b2,0,none⟩),.pointer (some ⟨b3,0,none⟩)]) rfl rfl (fun l D r hr=>?_)
 obtain ⟨RE,hRE⟩:∃ RE:Nat→HL,RE=fun i=>(bn,.cells [.int .i64 (sumB (unack) ((f.rs.map (·.r)).take i):Nat)].toArray 3 (0,0))::f.H:=⟨_,rfl⟩
 have hRw:∀ i w,In F (RE i) w→In F f.H w:=fun i w h=>by rw [hRE] at h; exact h.sublist (.cons _ (.refl _))
 have hcall:=such1_tr F f.R b2 b3 l 149 [] f.sn f.sc f.sa (ptOf f) (by omega) (fun i=>match f.rs[i]? with | some m=>unack m.r | none=>false)
  (fun i H=>H=HS l D r b2 b3 f.R (.func (.func 149) ([]:List Value).toArray ([]:List Value).toArray) (RE i))
  (fun i H hi hH=>by
   subst hH
   obtain ⟨h1,h2,h3,h4⟩:=su_cans (F:=F) (l:=l) (D:=D) (lp:=r) (b2:=b2) (b3:=b3) (isV:=.func (.func 149) ([]:List Value).toArray ([]:List Value).toArray) (rest:=RE i) hf rfl (hRw i)
   exact ⟨h1,h2,h3,h4 i⟩)
  (fun i H hi hH F' hF=>by
   subst hH
   obtain ⟨m,hm⟩:∃ m,f.rs[i]? = some m:=⟨f.rs[i]'(by omega),by simp⟩
   unfold ptOf
   rw [hm]
   exact unack_tr F' m (su_rec (hRw i) hF hm))
  (fun i H hi hq hH=>by
   subst hH
   obtain ⟨m,hm⟩:∃ m,f.rs[i]? = some m:=⟨f.rs[i]'(by omega),by simp⟩
   rw [hm] at hq
   have hsn:=sumB_snoc (unack) (L:=f.rs.map (·.r)) (i:=i) (r:=m.r) (by rw [List.getElem?_map,hm]; rfl)
   rw [show (unack) m.r=false from hq,if_neg (by simp)] at hsn
   rw [hRE]
   dsimp only
   rw [hsn]
   rfl)
  (fun i H hi hq hH F' hF=>by
   subst hH
   obtain ⟨m,hm⟩:∃ m,f.rs[i]? = some m:=⟨f.rs[i]'(by omega),by simp⟩
   rw [hm] at hq
   have hsn:=sumB_snoc (unack) (L:=f.rs.map (·.r)) (i:=i) (r:=m.r) (by rw [List.getElem?_map,hm]; rfl)
   rw [show (unack) m.r=true from hq,if_pos rfl] at hsn
   have hsm:=sum_small hs (unack) (i+1)
   have hml:=(hf.recs m (List.mem_of_getElem? hm)).len
   unfold ptOf
   rw [hm]
   rw [hRE]
   dsimp only
   rw [hsn]
   rw [hsn] at hsm
   obtain ⟨c,hc⟩:∃ c,sumB (unack) ((f.rs.map (·.r)).take i)=c:=⟨_,rfl⟩
   rw [hc] at hsm ⊢
   refine TrY.of hr rfl (fun w h=>h.own (l,.loop r) (by simp [HS])) (fun w1=>?_)
   unfold RcM.p HS
   refine SPS ?_; repeat' (first|refine ⟨fun hc=>?_,fun hc=>?_⟩|intro)
   refine Fin.begin (Foc.here _) hr.state ?_
   refine SPS ?_; repeat' (first|refine ⟨fun hc=>?_,fun hc=>?_⟩|intro)
   refine WD.s rfl (Rd.ldC rfl ((rec_can' hm (fun _ h=>h.sublist findA)).one (i:=6) rfl)) ?_
   refine SPS ?_; repeat' (first|refine ⟨fun hc=>?_,fun hc=>?_⟩|intro)
   refine Fin.more (Foc.here _) (fun _ h=>h) ⟨rfl,?_⟩
   simp only [hr.again]
   rw [i64_id (by omega) (by omega),hml]
   rfl)
  (HS l D r b2 b3 f.R (.func (.func 149) ([]:List Value).toArray ([]:List Value).toArray) (RE 0)) (by rfl)
 refine Tr.mono (R:=fun _ H=>H=HS l D r b2 b3 f.R (.func (.func 149) ([]:List Value).toArray ([]:List Value).toArray) (RE f.sn)) ?_ ?_
 · rw [hRE] at hcall ⊢
   exact hcall
 · rintro _ _ rfl
   refine ⟨r,_,.refl _,by rw [hr.state]; simp,?_⟩
   rw [hr.pending,hRE]
   dsimp only [Cx.marked]
   rw [List.take_of_length_le (by simp; omega)]
   refine SPS ?_; repeat' (first|refine ⟨fun hc=>?_,fun hc=>?_⟩|intro)
   exact Fin.retM (D:=D) (by exact rfl) .here resA (H':=f.H) (fun _ h=>h.sublist findA) ⟨rfl,rfl⟩
set_option maxHeartbeats 4000000 in
theorem mark_tr (F:Nat→Option Obj) (f:FM) (hf:f.ok) (p:Int):Tr Tryz.prog 83 [.pointer (some ⟨f.R,0,none⟩),.int .i64 p].toArray F f.H (fun v H=>v=.int .i64 (Flt.markN f.S p)∧∃ f':FM,f'.ok∧H=f'.H∧f'.R=f.R∧f'.S=Flt.mark f.S p):=by
 refine Tr.enterM Tryz.func83 rfl Tryz.ntmps83 rfl (fun w0=>?_)
 have hlen:=hf.len
 have hfew:=hf.few
 refine SPS ?_; repeat' (first|refine ⟨fun hc=>?_,fun hc=>?_⟩|intro)
 rename_i bn
 refine WL.e rfl (Ef.call (by exact rfl) (.nil _) (by_tr _ p)) ?_
 rintro _ _ ⟨_,⟨bp,rfl,rfl⟩,rfl⟩
 refine SPS ?_; repeat' (first|refine ⟨fun hc=>?_,fun hc=>?_⟩|intro)
 refine WL.e rfl (Ef.call (by exact rfl) (.nil _) (such_tr _ (.pointer (some ⟨f.R,0,none⟩)) (.func (.func 180) ([]:List Value).toArray [.pointer (some ⟨bp,0,none⟩)].toArray) rfl rfl)) ?_
 rintro _ _ ⟨_,⟨b2,b3,rfl,rfl⟩,rfl⟩
 refine SPS ?_; repeat' (first|refine ⟨fun hc=>?_,fun hc=>?_⟩|intro)
 refine W.rangeF (gf:=179) (fv:=[]) (cv:=[.pointer (some ⟨b2,0,none⟩),.pointer (some ⟨b3,0,none⟩)]) rfl rfl (fun l D r hr=>?_)
 obtain ⟨RE,hRE⟩:∃ RE:Nat→HL,RE=fun i=>(bp,Obj.cells [.int .i64 p].toArray 3 (0,0))::(bn,.cells [.int .i64 (cntB (byP p) ((f.rs.map (·.r)).take i):Nat)].toArray 3 (0,0))::(f.half (byP p) setLost i).H:=⟨_,rfl⟩
 have hRw:∀ i w,In F (RE i) w→In F (f.half (byP p) setLost i).H w:=fun i w h=>by rw [hRE] at h; exact h.sublist (.cons _ (.cons _ (.refl _)))
 have hok:∀ i,i≤f.sn→(f.half (byP p) setLost i).ok:=fun i hi=>halfM_ok hf (byP p) setLost (fun _=>rfl) i (by omega)
 have hcall:=such1_tr F f.R b2 b3 l 180 [.pointer (some ⟨bp,0,none⟩)] f.sn f.sc f.sa (ptOf f) (by omega) (fun i=>match f.rs[i]? with | some m=>byP p m.r | none=>false)
  (fun i H=>H=HS l D r b2 b3 f.R (.func (.func 180) ([]:List Value).toArray [.pointer (some ⟨bp,0,none⟩)].toArray) (RE i))
  (fun i H hi hH=>by
   subst hH
   obtain ⟨h1,h2,h3,h4⟩:=su_cans (F:=F) (l:=l) (D:=D) (lp:=r) (b2:=b2) (b3:=b3) (isV:=.func (.func 180) ([]:List Value).toArray [.pointer (some ⟨bp,0,none⟩)].toArray) (rest:=RE i) (hok i hi) rfl (hRw i)
   refine ⟨h1,h2,h3,fun hi'=>?_⟩
   obtain ⟨m,hm⟩:∃ m,f.rs[i]? = some m:=⟨f.rs[i]'(by omega),by simp⟩
   have h5:=h4 i hi'
   rw [ptOf_half f _ _ hm] at h5
   exact h5)
  (fun i H hi hH F' hF=>by
   subst hH
   obtain ⟨m,hm⟩:∃ m,f.rs[i]? = some m:=⟨f.rs[i]'(by omega),by simp⟩
   unfold ptOf
   rw [hm]
   refine by1_tr F' m bp p (su_rec (hRw i) hF (halfM_get _ _ hm)) ?_
   refine Can.mono (F:=F) (H:=RE i) ?_ (fun w h=>(hF w h).sublist (.cons _ (.cons _ (.cons _ (.cons _ (.refl _))))))
   rw [hRE]
   exact Can.cut (n:=1) (.here rfl))
  (fun i H hi hq hH=>by
   subst hH
   obtain ⟨m,hm⟩:∃ m,f.rs[i]? = some m:=⟨f.rs[i]'(by omega),by simp⟩
   rw [hm] at hq
   have hsn:=cntB_snoc (byP p) (L:=f.rs.map (·.r)) (i:=i) (r:=m.r) (by rw [List.getElem?_map,hm]; rfl)
   rw [show (byP p) m.r=false from hq,if_neg (by simp)] at hsn
   rw [hRE]
   dsimp only
   rw [hsn,halfM_no _ _ hm hq]
   rfl)
  (fun i H hi hq hH F' hF=>by
   subst hH
   obtain ⟨m,hm⟩:∃ m,f.rs[i]? = some m:=⟨f.rs[i]'(by omega),by simp⟩
   rw [hm] at hq
   have hsn:=cntB_snoc (byP p) (L:=f.rs.map (·.r)) (i:=i) (r:=m.r) (by rw [List.getElem?_map,hm]; rfl)
   rw [show (byP p) m.r=true from hq,if_pos rfl] at hsn
   have hsm:cntB (byP p) ((f.rs.map (·.r)).take (i+1))≤2048:=Nat.le_trans (cntB_le _ _) (by simp; omega)
   have hyes:=halfM_yes (byP p) setLost hm hq
   have hmi:=halfM_get (byP p) setLost hm
   have hput:=rec_put hmi (off:=0+12) (vs:=[.bool true]) (r':=setLost m.r) rfl
   unfold ptOf
   rw [hm]
   rw [hRE]
   dsimp only
   rw [hsn,hyes]
   rw [hsn] at hsm
   obtain ⟨c,hc⟩:∃ c,cntB (byP p) ((f.rs.map (·.r)).take i)=c:=⟨_,rfl⟩
   rw [hc] at hsm ⊢
   refine TrY.of hr rfl (fun w h=>h.own (l,.loop r) (by simp [HS])) (fun w1=>?_)
   unfold RcM.p HS
   refine SPS ?_; repeat' (first|refine ⟨fun hc=>?_,fun hc=>?_⟩|intro)
   refine Fin.begin (Foc.here _) hr.state ?_
   refine SPS ?_; repeat' (first|refine ⟨fun hc=>?_,fun hc=>?_⟩|intro)
   refine WL.e0A ?_ (Ef.st rfl rfl rfl (.there (.there (.there (.there (.there (.there hput)))))))
   refine SPS ?_; repeat' (first|refine ⟨fun hc=>?_,fun hc=>?_⟩|intro)
   refine Fin.more (Foc.here _) (fun _ h=>h) ⟨rfl,?_⟩
   simp only [hr.again]
   rw [i64_succ (by omega)])
  (HS l D r b2 b3 f.R (.func (.func 180) ([]:List Value).toArray [.pointer (some ⟨bp,0,none⟩)].toArray) (RE 0)) (by rfl)
 refine Tr.mono (R:=fun _ H=>H=HS l D r b2 b3 f.R (.func (.func 180) ([]:List Value).toArray [.pointer (some ⟨bp,0,none⟩)].toArray) (RE f.sn)) ?_ ?_
 · rw [hRE] at hcall ⊢
   exact hcall
 · rintro _ _ rfl
   refine ⟨r,_,.refl _,by rw [hr.state]; simp,?_⟩
   rw [hr.pending,hRE]
   dsimp only [Cx.marked]
   rw [List.take_of_length_le (by simp; omega)]
   refine SPS ?_; repeat' (first|refine ⟨fun hc=>?_,fun hc=>?_⟩|intro)
   exact Fin.retM (D:=D) (by exact rfl) .here resA (H':=(f.half (byP p) setLost f.sn).H) (fun _ h=>h.sublist findA) ⟨rfl,(f.half (byP p) setLost f.sn),hok f.sn (Nat.le_refl _),rfl,rfl,by rw [←hlen]; exact halfM_all f _ _⟩
set_option maxHeartbeats 4000000 in
theorem abandon_tr (F:Nat→Option Obj) (f:FM) (hf:f.ok) (p:Int):Tr Tryz.prog 80 [.pointer (some ⟨f.R,0,none⟩),.int .i64 p].toArray F f.H (fun v H=>v=.int .i64 (Flt.abandonN f.S p)∧∃ f':FM,f'.ok∧H=f'.H∧f'.R=f.R∧f'.S=Flt.abandon f.S p):=by
 refine Tr.enterM Tryz.func80 rfl Tryz.ntmps80 rfl (fun w0=>?_)
 have hlen:=hf.len
 have hfew:=hf.few
 refine SPS ?_; repeat' (first|refine ⟨fun hc=>?_,fun hc=>?_⟩|intro)
 rename_i bp bn
 refine WL.e rfl (Ef.call (by exact rfl) (.nil _) (such_tr _ (.pointer (some ⟨f.R,0,none⟩)) (.func (.func 154) ([]:List Value).toArray [.pointer (some ⟨bp,0,none⟩)].toArray) rfl rfl)) ?_
 rintro _ _ ⟨_,⟨b2,b3,rfl,rfl⟩,rfl⟩
 refine SPS ?_; repeat' (first|refine ⟨fun hc=>?_,fun hc=>?_⟩|intro)
 refine W.rangeF (gf:=179) (fv:=[]) (cv:=[.pointer (some ⟨b2,0,none⟩),.pointer (some ⟨b3,0,none⟩)]) rfl rfl (fun l D r hr=>?_)
 obtain ⟨RE,hRE⟩:∃ RE:Nat→HL,RE=fun i=>(bn,.cells [.int .i64 (cntB (ofId p) ((f.rs.map (·.r)).take i):Nat)].toArray 3 (0,0))::(bp,Obj.cells [.int .i64 p].toArray 3 (0,0))::(f.half (ofId p) setGone i).H:=⟨_,rfl⟩
 have hRw:∀ i w,In F (RE i) w→In F (f.half (ofId p) setGone i).H w:=fun i w h=>by rw [hRE] at h; exact h.sublist (.cons _ (.cons _ (.refl _)))
 have hok:∀ i,i≤f.sn→(f.half (ofId p) setGone i).ok:=fun i hi=>halfM_ok hf (ofId p) setGone (fun _=>rfl) i (by omega)
 have hcall:=such1_tr F f.R b2 b3 l 154 [.pointer (some ⟨bp,0,none⟩)] f.sn f.sc f.sa (ptOf f) (by omega) (fun i=>match f.rs[i]? with | some m=>ofId p m.r | none=>false)
  (fun i H=>H=HS l D r b2 b3 f.R (.func (.func 154) ([]:List Value).toArray [.pointer (some ⟨bp,0,none⟩)].toArray) (RE i))
  (fun i H hi hH=>by
   subst hH
   obtain ⟨h1,h2,h3,h4⟩:=su_cans (F:=F) (l:=l) (D:=D) (lp:=r) (b2:=b2) (b3:=b3) (isV:=.func (.func 154) ([]:List Value).toArray [.pointer (some ⟨bp,0,none⟩)].toArray) (rest:=RE i) (hok i hi) rfl (hRw i)
   refine ⟨h1,h2,h3,fun hi'=>?_⟩
   obtain ⟨m,hm⟩:∃ m,f.rs[i]? = some m:=⟨f.rs[i]'(by omega),by simp⟩
   have h5:=h4 i hi'
   rw [ptOf_half f _ _ hm] at h5
   exact h5)
  (fun i H hi hH F' hF=>by
   subst hH
   obtain ⟨m,hm⟩:∃ m,f.rs[i]? = some m:=⟨f.rs[i]'(by omega),by simp⟩
   unfold ptOf
   rw [hm]
   refine ofId_tr F' m bp p (su_rec (hRw i) hF (halfM_get _ _ hm)) ?_
   refine Can.mono (F:=F) (H:=RE i) ?_ (fun w h=>(hF w h).sublist (.cons _ (.cons _ (.cons _ (.cons _ (.refl _))))))
   rw [hRE]
   exact Can.cut (n:=1) (.there (.here rfl)))
  (fun i H hi hq hH=>by
   subst hH
   obtain ⟨m,hm⟩:∃ m,f.rs[i]? = some m:=⟨f.rs[i]'(by omega),by simp⟩
   rw [hm] at hq
   have hsn:=cntB_snoc (ofId p) (L:=f.rs.map (·.r)) (i:=i) (r:=m.r) (by rw [List.getElem?_map,hm]; rfl)
   rw [show (ofId p) m.r=false from hq,if_neg (by simp)] at hsn
   rw [hRE]
   dsimp only
   rw [hsn,halfM_no _ _ hm hq]
   rfl)
  (fun i H hi hq hH F' hF=>by
   subst hH
   obtain ⟨m,hm⟩:∃ m,f.rs[i]? = some m:=⟨f.rs[i]'(by omega),by simp⟩
   rw [hm] at hq
   have hsn:=cntB_snoc (ofId p) (L:=f.rs.map (·.r)) (i:=i) (r:=m.r) (by rw [List.getElem?_map,hm]; rfl)
   rw [show (ofId p) m.r=true from hq,if_pos rfl] at hsn
   have hsm:cntB (ofId p) ((f.rs.map (·.r)).take (i+1))≤2048:=Nat.le_trans (cntB_le _ _) (by simp; omega)
   have hyes:=halfM_yes (ofId p) setGone hm hq
   have hmi:=halfM_get (ofId p) setGone hm
   have hput:=rec_put hmi (off:=0+13) (vs:=[.bool true]) (r':=setGone m.r) rfl
   unfold ptOf
   rw [hm]
   rw [hRE]
   dsimp only
   rw [hsn,hyes]
   rw [hsn] at hsm
   obtain ⟨c,hc⟩:∃ c,cntB (ofId p) ((f.rs.map (·.r)).take i)=c:=⟨_,rfl⟩
   rw [hc] at hsm ⊢
   refine TrY.of hr rfl (fun w h=>h.own (l,.loop r) (by simp [HS])) (fun w1=>?_)
   unfold RcM.p HS
   refine SPS ?_; repeat' (first|refine ⟨fun hc=>?_,fun hc=>?_⟩|intro)
   refine Fin.begin (Foc.here _) hr.state ?_
   refine SPS ?_; repeat' (first|refine ⟨fun hc=>?_,fun hc=>?_⟩|intro)
   refine WL.e0A ?_ (Ef.st rfl rfl rfl (.there (.there (.there (.there (.there (.there hput)))))))
   refine SPS ?_; repeat' (first|refine ⟨fun hc=>?_,fun hc=>?_⟩|intro)
   refine Fin.more (Foc.here _) (fun _ h=>h) ⟨rfl,?_⟩
   simp only [hr.again]
   rw [i64_succ (by omega)])
  (HS l D r b2 b3 f.R (.func (.func 154) ([]:List Value).toArray [.pointer (some ⟨bp,0,none⟩)].toArray) (RE 0)) (by rfl)
 refine Tr.mono (R:=fun _ H=>H=HS l D r b2 b3 f.R (.func (.func 154) ([]:List Value).toArray [.pointer (some ⟨bp,0,none⟩)].toArray) (RE f.sn)) ?_ ?_
 · rw [hRE] at hcall ⊢
   exact hcall
 · rintro _ _ rfl
   refine ⟨r,_,.refl _,by rw [hr.state]; simp,?_⟩
   rw [hr.pending,hRE]
   dsimp only [Cx.marked]
   rw [List.take_of_length_le (by simp; omega)]
   refine SPS ?_; repeat' (first|refine ⟨fun hc=>?_,fun hc=>?_⟩|intro)
   exact Fin.retM (D:=D) (by exact rfl) .here resA (H':=(f.half (ofId p) setGone f.sn).H) (fun _ h=>h.sublist findA) ⟨rfl,(f.half (ofId p) setGone f.sn),hok f.sn (Nat.le_refl _),rfl,rfl,by rw [←hlen]; exact halfM_all f _ _⟩
end Go.Proofs.YtlfpemmdehmbfaaGreat
namespace Go.Proofs.YtlfpemmdehmbfaaGreat
open Go Go.Sl Go.Flt
def LJ (l D b2 b3 bn:Nat) (r:Loop) (f:FM) (i:Nat) (H:HL):Prop:=∃ (sa:Option Addr) (sn sc:Nat) (hb:HL),OwnS 24 1 ((Flt.lostL ⟨(f.rs.map (·.r)).take i,f.c,f.paths⟩).map (Value.int .u32)) (.slice sa sn sc) hb∧
 H=HS l D r b2 b3 f.R (.func (.func 181) ([]:List Value).toArray ([]:List Value).toArray) ((bn,.cells [.slice sa sn sc].toArray 47 (0,0))::(hb++f.H))
theorem lostL_snoc {L:List Rc} {i:Nat} {r:Rc} (h:L[i]? = some r) (c p:Int):Flt.lostL ⟨L.take (i+1),c,p⟩=Flt.lostL ⟨L.take i,c,p⟩++if Flt.openR r then [r.tsn] else []:=by
 unfold Flt.lostL
 dsimp only
 rw [List.take_add_one,h,List.filter_append]
 cases hq:Flt.openR r <;> simp [hq]
theorem lostL_le (s:Flt.S):(Flt.lostL s).length≤s.L.length:=by
 unfold Flt.lostL
 rw [List.length_map]
 exact List.length_filter_le _ _
set_option maxHeartbeats 4000000 in
theorem lost_tr (F:Nat→Option Obj) (f:FM) (hf:f.ok):Tr Tryz.prog 130 [.pointer (some ⟨f.R,0,none⟩)].toArray F f.H (fun v H=>∃ (sa:Option Addr) (sn sc:Nat) (hb:HL),v=.slice sa sn sc∧OwnS 24 1 ((Flt.lostL f.S).map (Value.int .u32)) (.slice sa sn sc) hb∧H=hb++f.H):=by
 refine Tr.enterM Tryz.func130 rfl Tryz.ntmps130 rfl (fun w0=>?_)
 have hlen:=hf.len
 have hfew:=hf.few
 refine SPS ?_; repeat' (first|refine ⟨fun hc=>?_,fun hc=>?_⟩|intro)
 rename_i bn
 refine WL.e rfl (Ef.call (by exact rfl) (.nil _) (such_tr _ (.pointer (some ⟨f.R,0,none⟩)) (.func (.func 181) ([]:List Value).toArray ([]:List Value).toArray) rfl rfl)) ?_
 rintro _ _ ⟨_,⟨b2,b3,rfl,rfl⟩,rfl⟩
 refine SPS ?_; repeat' (first|refine ⟨fun hc=>?_,fun hc=>?_⟩|intro)
 refine W.rangeF (gf:=179) (fv:=[]) (cv:=[.pointer (some ⟨b2,0,none⟩),.pointer (some ⟨b3,0,none⟩)]) rfl rfl (fun l D r hr=>?_)
 have hcall:=such1_tr F f.R b2 b3 l 181 [] f.sn f.sc f.sa (ptOf f) (by omega) (fun i=>match f.rs[i]? with | some m=>Flt.openR m.r | none=>false) (LJ l D b2 b3 bn r f)
  (fun i H hi hH=>by
   obtain ⟨sa,sn,sc,hb,hown,rfl⟩:=hH
   obtain ⟨h1,h2,h3,h4⟩:=su_cans (F:=F) (l:=l) (D:=D) (lp:=r) (b2:=b2) (b3:=b3) (isV:=.func (.func 181) ([]:List Value).toArray ([]:List Value).toArray) (rest:=(bn,.cells [.slice sa sn sc].toArray 47 (0,0))::(hb++f.H)) hf rfl (fun w h=>h.sublist (.cons _ (List.sublist_append_right _ _)))
   exact ⟨h1,h2,h3,h4 i⟩)
  (fun i H hi hH F' hF=>by
   obtain ⟨sa,sn,sc,hb,hown,rfl⟩:=hH
   obtain ⟨m,hm⟩:∃ m,f.rs[i]? = some m:=⟨f.rs[i]'(by omega),by simp⟩
   unfold ptOf
   rw [hm]
   exact open_tr F' m (su_rec (fun w h=>h.sublist (.cons _ (List.sublist_append_right _ _))) hF hm))
  (fun i H hi hq hH=>by
   obtain ⟨sa,sn,sc,hb,hown,rfl⟩:=hH
   obtain ⟨m,hm⟩:∃ m,f.rs[i]? = some m:=⟨f.rs[i]'(by omega),by simp⟩
   rw [hm] at hq
   refine ⟨sa,sn,sc,hb,?_,rfl⟩
   rw [lostL_snoc (r:=m.r) (by rw [List.getElem?_map,hm]; rfl),show Flt.openR m.r=false from hq]
   simpa using hown)
  (fun i H hi hq hH F' hF=>by
   obtain ⟨sa,sn,sc,hb,hown,rfl⟩:=hH
   obtain ⟨m,hm⟩:∃ m,f.rs[i]? = some m:=⟨f.rs[i]'(by omega),by simp⟩
   rw [hm] at hq
   have hle:=lostL_le ⟨(f.rs.map (·.r)).take i,f.c,f.paths⟩
   simp only [List.length_take,List.length_map] at hle
   refine TrY.mono (R:=fun v H'=>v=.bool true∧∃ (sa:Option Addr) (sn sc:Nat) (hb:HL),OwnS 24 1 ((Flt.lostL ⟨(f.rs.map (·.r)).take i,f.c,f.paths⟩).map (Value.int .u32)++[.int .u32 m.r.tsn]) (.slice sa sn sc) hb∧H'=HS l D r b2 b3 f.R (.func (.func 181) ([]:List Value).toArray ([]:List Value).toArray) ((bn,.cells [.slice sa sn sc].toArray 47 (0,0))::(hb++f.H))) ?_ ?_
   · unfold ptOf
     rw [hm]
     have hpl:((Flt.lostL ⟨(f.rs.map (·.r)).take i,f.c,f.paths⟩).map (Value.int .u32)).length≤2048:=by rw [List.length_map]; omega
     obtain ⟨xs,hxs⟩:∃ xs,(Flt.lostL ⟨(f.rs.map (·.r)).take i,f.c,f.paths⟩).map (Value.int .u32)=xs:=⟨_,rfl⟩
     rw [hxs] at hown hpl ⊢
     refine TrY.of hr rfl (fun w h=>h.own (l,.loop r) (by simp [HS])) (fun w1=>?_)
     unfold RcM.p HS
     refine SPS ?_; repeat' (first|refine ⟨fun hc=>?_,fun hc=>?_⟩|intro)
     refine Fin.begin (Foc.here _) hr.state ?_
     refine SPS ?_; repeat' (first|refine ⟨fun hc=>?_,fun hc=>?_⟩|intro)
     refine WD.s rfl (Rd.ldC rfl ((rec_can' hm (fun _ h=>h.sublist findA)).one (i:=0) rfl)) ?_
     refine SPS ?_; repeat' (first|refine ⟨fun hc=>?_,fun hc=>?_⟩|intro)
     refine WD.e rfl (Ef.app (m:=1) (news:=[.int .u32 m.r.tsn]) (hb:=hb) (by exact rfl) (by exact rfl) rfl rfl hown (.last (.there (.there (.there (.there (.there (.there .here))))))) (Src.own (n:=1) (.here rfl)) rfl (by simp [Value.oneCell']) (by simp; omega) (by simp [maxLen]; omega)) ?_
     rintro v' _ ⟨hb',hown',rfl⟩
     refine ⟨.inl (by kernel_rfl),?_⟩
     obtain ⟨sa',sn',sc',rfl,_,_⟩:=OwnS.shape hown'
     refine SPS ?_; repeat' (first|refine ⟨fun hc=>?_,fun hc=>?_⟩|intro)
     refine Fin.more (Foc.right (.there _ (Foc.here _))) (H':=HS l D r b2 b3 f.R (.func (.func 181) ([]:List Value).toArray ([]:List Value).toArray) ((bn,.cells [.slice sa' sn' sc'].toArray 47 (0,0))::(hb'++f.H))) (fun _ h=>?_) ⟨rfl,sa',sn',sc',hb',hown',rfl⟩
     simp only [hr.again] at h
     exact In.of_sub (.pick (.right (.there .here)) (.pick (.right (.there .here)) (.pick (.right (.there .here)) (.pick (.right (.there .here)) (.pick (.right (.there .here)) (.pickL (L:=hb') .here (.last (.there .all)))))))) h
   · rintro _ _ ⟨rfl,sa,sn,sc,hb,hown,rfl⟩
     refine ⟨rfl,sa,sn,sc,hb,?_,rfl⟩
     rw [lostL_snoc (r:=m.r) (by rw [List.getElem?_map,hm]; rfl),show Flt.openR m.r=true from hq,if_pos rfl,List.map_append]
     exact hown)
  (HS l D r b2 b3 f.R (.func (.func 181) ([]:List Value).toArray ([]:List Value).toArray) ((bn,.cells [.slice none 0 0].toArray 47 (0,0))::f.H)) ⟨none,0,0,[],.inl ⟨rfl,rfl,rfl⟩,rfl⟩
 refine Tr.mono hcall ?_
 rintro _ _ ⟨sa,sn,sc,hb,hown,rfl⟩
 rw [List.take_of_length_le (by simp; omega)] at hown
 refine ⟨r,_,.refl _,by rw [hr.state]; simp,?_⟩
 rw [hr.pending]
 dsimp only [Cx.marked]
 refine SPS ?_; repeat' (first|refine ⟨fun hc=>?_,fun hc=>?_⟩|intro)
 exact Fin.retM (D:=D) (by exact rfl) .here resA (H':=hb++f.H) (fun _ h=>h.sublist findA) ⟨sa,sn,sc,hb,rfl,hown,rfl⟩
theorem cum_tr (F:Nat→Option Obj) (f:FM):Tr Tryz.prog 119 [.pointer (some ⟨f.R,0,none⟩)].toArray F f.H (fun v H=>v=.int .u32 f.c∧H=f.H):=by
 refine Tr.enter Tryz.func119 rfl Tryz.ntmps119 rfl (fun w0=>?_)
 unfold FM.H FM.B
 refine SPS ?_; repeat' (first|refine ⟨fun hc=>?_,fun hc=>?_⟩|intro)
 exact Fin.retW (by exact rfl) resA (fun _ h=>h) ⟨rfl,rfl⟩
theorem count_tr (F:Nat→Option Obj) (f:FM):Tr Tryz.prog 46 [.pointer (some ⟨f.R,0,none⟩)].toArray F f.H (fun v H=>v=.int .i64 f.sn∧H=f.H):=by
 refine Tr.enter Tryz.func46 rfl Tryz.ntmps46 rfl (fun w0=>?_)
 unfold FM.H FM.B
 refine SPS ?_; repeat' (first|refine ⟨fun hc=>?_,fun hc=>?_⟩|intro)
 exact Fin.retW (by exact rfl) resA (fun _ h=>h) ⟨rfl,rfl⟩
def FM.empty (b:Nat) (paths first:Int):FM:=⟨b,none,0,0,[],[],Spn.u32 (first - 1),paths⟩
theorem FM.empty_ok (b:Nat) (paths first:Int):(FM.empty b paths first).ok:=⟨.inl ⟨rfl,rfl,rfl⟩,fun _ h=>by (cases h),by have:=Spn.u32_eq (first - 1); dsimp only [FM.empty]; omega,Nat.zero_le _⟩
theorem new_tr (F:Nat→Option Obj) (paths first:Int):Tr Tryz.prog 24 [.int .i64 paths,.int .u32 first].toArray F [] (fun v H=>
 (¬ (1≤paths∧paths≤4)∧v=tup [.pointer none,.int .i64 1]∧H=[])∨((1≤paths∧paths≤4)∧∃ b,v=tup [.pointer (some ⟨b,0,none⟩),.int .i64 0]∧H=(FM.empty b paths first).H)):=by
 refine Tr.enter Tryz.func24 rfl Tryz.ntmps24 rfl (fun w0=>?_)
 refine SPS ?_; repeat' (first|refine ⟨fun hc=>?_,fun hc=>?_⟩|intro)
 · exact Fin.retW (by exact rfl) resA (fun _ h=>h) (.inl ⟨by simp at hc; omega,rfl,rfl⟩)
 · exact Fin.retW (by exact rfl) resA (fun _ h=>h) (.inl ⟨by simp at hc; omega,rfl,rfl⟩)
 · exact Fin.retW (by exact rfl) resA (fun _ h=>h) (.inr ⟨by simp_all,_,rfl,rfl⟩)
theorem ahead_tr (F:Nat→Option Obj) (a b:Int):Tr Tryz.prog 176 [.int .u32 a,.int .u32 b].toArray F [] (fun v H=>v=.int .u32 (Spn.u32 (b - a))∧H=[]):=by
 refine Tr.enter Tryz.func176 rfl Tryz.ntmps176 rfl (fun w0=>?_)
 refine SPS ?_; repeat' (first|refine ⟨fun hc=>?_,fun hc=>?_⟩|intro)
 exact Fin.retW (by exact rfl) resA (fun _ h=>h) ⟨rfl,rfl⟩
theorem in_tr (F:Nat→Option Obj) (y b:Int) (n:Nat) (hn:n≤1000000):Tr Tryz.prog 186 [.int .u32 y,.int .u32 b,.int .i64 n].toArray F [] (fun v H=>v=.bool (atI b n y).isSome∧H=[]):=by
 refine Tr.enter Tryz.func186 rfl Tryz.ntmps186 rfl (fun w0=>?_)
 have hf:=Spn.far_int b y
 have hl:=Spn.far_lt b y
 refine SPS ?_; repeat' (first|refine ⟨fun hc=>?_,fun hc=>?_⟩|intro)
 refine WL.e rfl (Ef.callR (by exact rfl) (.nil _) (ahead_tr _ b y)) ?_
 rintro _ _ ⟨rfl,rfl⟩
 rw [←hf]
 have e1:IntKind.u64.wrap ((Spn.far b y:Nat):Int)=Spn.far b y:=by simp [IntKind.wrap,IntKind.bits,IntKind.signed]; omega
 have e2:IntKind.u64.wrap ((n:Nat):Int)=n:=by simp [IntKind.wrap,IntKind.bits,IntKind.signed]; omega
 refine SPS ?_; repeat' (first|refine ⟨fun hc=>?_,fun hc=>?_⟩|intro)
 all_goals
  refine Fin.retW (by exact rfl) resA (fun _ h=>h) ⟨?_,rfl⟩
  unfold atI
  dsimp only [tup]
  try rw [e1,e2]
  simp at *
  try (split <;> simp <;> omega)
  try omega
theorem get_tr (F:Nat→Option Obj) (f:FM) (hf:f.ok) (t:Int):Tr Tryz.prog 182 [.pointer (some ⟨f.R,0,none⟩),.int .u32 t].toArray F f.H (fun v H=>v=(match atI f.c f.sn t with | some i=>ptOf f i | none=>.pointer none)∧H=f.H):=by
 refine Tr.enter Tryz.func182 rfl Tryz.ntmps182 rfl (fun w0=>?_)
 have hlen:=hf.len
 have hfew:=hf.few
 unfold FM.H FM.B
 refine SPS ?_; repeat' (first|refine ⟨fun hc=>?_,fun hc=>?_⟩|intro)
 refine WD.e rfl (Ef.callR (by exact rfl) (.nil _) (in_tr _ t f.c f.sn (by omega))) ?_
 rintro _ _ ⟨rfl,rfl⟩
 refine ⟨.inr (fun _ h=>h),?_⟩
 cases ha:atI f.c f.sn t with
 | none=>
   refine SPS ?_; repeat' (first|refine ⟨fun hc=>?_,fun hc=>?_⟩|intro)
   exact Fin.retW (by exact rfl) resA (fun _ h=>h) ⟨rfl,rfl⟩
 | some i=>
   have hi:Spn.far f.c t=i+1∧i < f.sn:=by
    unfold atI at ha
    split at ha
    · simp at ha; omega
    · cases ha
   have hk:=Spn.far_int f.c t
   refine SPS ?_; repeat' (first|refine ⟨fun hc=>?_,fun hc=>?_⟩|intro)
   refine WD.e rfl (Ef.callR (by exact rfl) (.nil _) (ahead_tr _ f.c t)) ?_
   rintro _ _ ⟨rfl,rfl⟩
   refine ⟨.inr (fun _ h=>h),?_⟩
   rw [←hk,hi.1]
   have hm:f.rs[i]? = some (f.rs[i]'(by omega)):=by simp
   obtain ⟨gb,go,hsa,hp⟩:=fl_ptr (F:=F) hf hm
   rw [show f.sa=some ⟨gb,go,none⟩ from hsa]
   have hw:IntKind.u32.wrap (((i+1:Nat):Int) - 1)=(i:Int):=by rw [u32_id (by omega)]; omega
   have hia:0≤IntKind.u32.wrap (((i+1:Nat):Int) - 1)∧IntKind.u32.wrap (((i+1:Nat):Int) - 1) < f.sn:=by rw [hw]; omega
   have hp':=hp
   unfold FM.H FM.B at hp'
   rw [hsa,←hw] at hp'
   refine SPS ?_; repeat' (first|refine ⟨fun hc=>?_,fun hc=>?_⟩|intro)
   exact Fin.retW (by exact rfl) resA (fun _ h=>h) ⟨by unfold ptOf; dsimp only; rw [hm]; rfl,rfl⟩
theorem clone_tr (F:Nat→Option Obj) (bs:List UInt8) (sa:Option Addr) (sn sc:Nat) (hl:Lst F [] 1 (bs.map B) sa sn sc) (hn:bs.length≤1000000000000):Tr Tryz.prog 129 [.slice sa sn sc].toArray F [] (fun v H=>∃ (sa':Option Addr) (sn' sc':Nat),v=.slice sa' sn' sc'∧OwnS 5 1 (bs.map B) (.slice sa' sn' sc') H):=by
 refine Tr.enter Tryz.func129 rfl Tryz.ntmps129 rfl (fun w0=>?_)
 have hlen:bs.length=sn:=by have:=hl.len; simp at this; exact this
 refine SPS ?_; repeat' (first|refine ⟨fun hc=>?_,fun hc=>?_⟩|intro)
 · have hs0:sa=none:=by simpa using hc
   subst hs0
   have h0:=hl.ok rfl
   rw [h0] at hlen
   have hbs:bs=[]:=List.eq_nil_of_length_eq_zero hlen
   subst hbs
   exact Fin.retW (by exact rfl) resA (fun _ h=>h) ⟨none,0,0,rfl,.inl ⟨rfl,rfl,rfl⟩⟩
 · refine WL.e rfl (Ef.app (m:=sn) (news:=bs.map B) (xs:=[]) (by exact rfl) (by exact rfl) rfl rfl (OwnS.empty _ _ _) (.all _) hl.any.src (by simp; omega) (B_one bs) (by simp; omega) (by simp [maxLen]; omega)) ?_
   rintro v' _ ⟨hb',hown',rfl⟩
   obtain ⟨sa',sn',sc',rfl,_,_⟩:=OwnS.shape hown'
   refine SPS ?_; repeat' (first|refine ⟨fun hc=>?_,fun hc=>?_⟩|intro)
   exact Fin.retW (by exact rfl) resA (H':=hb') (fun _ h=>h.left) ⟨sa',sn',sc',rfl,hown'⟩
end Go.Proofs.YtlfpemmdehmbfaaGreat
namespace Go.Proofs.YtlfpemmdehmbfaaGreat
open Go Go.Sl Go.Pth
def rtoC (r:Rto):List Value:=[.int .i64 r.value,.int .i64 r.least,.int .i64 r.most,.bool r.any,.int .i64 r.smooth,.int .i64 r.vary]
def rtoB (b:Nat) (r:Rto):HL:=[(b,.cells (rtoC r).toArray 231 (0,0))]
def winC (w:Win):List Value:=[.int .i64 w.mtu,.int .i64 w.most,.int .i64 w.size,.int .i64 w.thresh,.int .i64 w.part]
def winB (b:Nat) (w:Win):HL:=[(b,.cells (winC w).toArray 233 (0,0))]
abbrev ptr (b:Nat):Value:=.pointer (some ⟨b,0,none⟩)
theorem btw_tr (F:Nat→Option Obj) (x l m:Int):Tr Tryz.prog 150 [.int .i64 x,.int .i64 l,.int .i64 m].toArray F [] (fun v H=>v=.int .i64 (mn (mx x l) m)∧H=[]):=by
 refine Tr.enter Tryz.func150 rfl Tryz.ntmps150 rfl (fun w0=>?_)
 refine SPU ?_; repeat' (first|refine ⟨fun hc=>?_,fun hc=>?_⟩|intro)
 simp only [Go.Pth.go_mx,Go.Pth.go_mn]
 exact Fin.retW (by exact rfl) resA (fun _ h=>h) ⟨rfl,rfl⟩
theorem rtoMay_no {f l m:Int} (h:l < 1∨m > 1048576∨l > m∨f≠mn (mx f l) m):rtoMay f l m=false:=by
 rw [mn_eq,mx_eq] at h
 exact decide_eq_false (by omega)
set_option maxHeartbeats 1000000 in
theorem rnew_tr (F:Nat→Option Obj) (f l m:Int):Tr Tryz.prog 74 [.int .i64 f,.int .i64 l,.int .i64 m].toArray F [] (fun v H=>
 (rtoMay f l m=false∧v=tup [.pointer none,.int .i64 1]∧H=[])∨(rtoMay f l m=true∧∃ b,v=tup [ptr b,.int .i64 0]∧H=rtoB b (rtoNew f l m))):=by
 refine Tr.enter Tryz.func74 rfl Tryz.ntmps74 rfl (fun w0=>?_)
 refine SPU ?_; repeat' (first|refine ⟨fun hc=>?_,fun hc=>?_⟩|intro)
 · exact Fin.retW (by exact rfl) resA (fun _ h=>h) (.inl ⟨rtoMay_no (by have:=of_decide_eq_true hc; omega),rfl,rfl⟩)
 · exact Fin.retW (by exact rfl) resA (fun _ h=>h) (.inl ⟨rtoMay_no (by have:=of_decide_eq_true hc; omega),rfl,rfl⟩)
 · exact Fin.retW (by exact rfl) resA (fun _ h=>h) (.inl ⟨rtoMay_no (by have:=of_decide_eq_true hc; omega),rfl,rfl⟩)
 rename_i h1 h2
 have h1:=of_decide_eq_false h1
 have h2:=of_decide_eq_false h2
 have h3:=of_decide_eq_false hc
 clear hc
 refine WL.e rfl (Ef.callR (by exact rfl) (.nil _) (btw_tr _ f l m)) ?_
 rintro _ _ ⟨rfl,rfl⟩
 refine SPU ?_; repeat' (first|refine ⟨fun hc=>?_,fun hc=>?_⟩|intro)
 · have h4:¬ f=mn (mx f l) m:=by simpa using hc
   exact Fin.retW (by exact rfl) resA (fun _ h=>h) (.inl ⟨rtoMay_no (by omega),rfl,rfl⟩)
 · have h4:f=mn (mx f l) m:=by simpa using hc
   rw [mn_eq,mx_eq] at h4
   exact Fin.retW (by exact rfl) resA (fun _ h=>h) (.inr ⟨decide_eq_true (by omega),_,rfl,rfl⟩)
theorem rvalue_tr (F:Nat→Option Obj) (b:Nat) (r:Rto):Tr Tryz.prog 159 [ptr b].toArray F (rtoB b r) (fun v H=>v=.int .i64 r.value∧H=rtoB b r):=by
 refine Tr.enter Tryz.func159 rfl Tryz.ntmps159 rfl (fun w0=>?_)
 unfold rtoB rtoC
 refine SPU ?_; repeat' (first|refine ⟨fun hc=>?_,fun hc=>?_⟩|intro)
 exact Fin.retW (by exact rfl) resA (fun _ h=>h) ⟨rfl,rfl⟩
theorem rback_tr (F:Nat→Option Obj) (b:Nat) (r:Rto) (hr:r.Ok):Tr Tryz.prog 192 [ptr b].toArray F (rtoB b r) (fun v H=>v=.tuple #[]∧H=rtoB b (back r)):=by
 refine Tr.enter Tryz.func192 rfl Tryz.ntmps192 rfl (fun w0=>?_)
 have:=hr.least; have:=hr.lv; have:=hr.vm; have:=hr.most
 unfold rtoB rtoC
 refine SPU ?_; repeat' (first|refine ⟨fun hc=>?_,fun hc=>?_⟩|intro)
 simp (disch:=omega) only [i64_id,Int.tdiv_eq_ediv_of_nonneg,Go.Pth.go_mx,Go.Pth.go_mn]
 exact Fin.endW (by exact rfl) resA (fun _ h=>h) ⟨rfl,rfl⟩
set_option maxHeartbeats 4000000 in
theorem rsample_tr (F:Nat→Option Obj) (b:Nat) (r:Rto) (hr:r.Ok) (t:Int) (ht:0≤t):Tr Tryz.prog 160 [ptr b,.int .i64 t].toArray F (rtoB b r) (fun v H=>v=.int .i64 0∧H=rtoB b (sample r t)):=by
 refine Tr.enter Tryz.func160 rfl Tryz.ntmps160 rfl (fun w0=>?_)
 obtain ⟨value,least,most,any,smooth,vary⟩:=r
 have hs:=hr.smooth; have hv:=hr.vary; have h1:=hr.least; have h2:=hr.most; have h3:=hr.lv; have h4:=hr.vm
 dsimp only at hs hv h1 h2 h3 h4
 unfold rtoB rtoC
 dsimp only
 refine SPU ?_; repeat' (first|refine ⟨fun hc=>?_,fun hc=>?_⟩|intro)
 · exfalso
   have:=of_decide_eq_true hc
   omega
 · subst hc
   simp (disch:=omega) only [i64_id,Int.tdiv_eq_ediv_of_nonneg,Go.Pth.go_mx,Go.Pth.go_mn]
   refine WD.e rfl (Ef.callR (by exact rfl) (.nil _) (btw_tr _ _ _ _)) ?_
   rintro _ _ ⟨rfl,rfl⟩
   refine ⟨.inr (fun _ h=>h),?_⟩
   refine SPU ?_; repeat' (first|refine ⟨fun hc=>?_,fun hc=>?_⟩|intro)
   exact Fin.retW (by exact rfl) resA (fun _ h=>h) ⟨rfl,rfl⟩
 · subst hc
   simp (disch:=omega) only [i64_id,Int.tdiv_eq_ediv_of_nonneg,Go.Pth.go_mx,Go.Pth.go_mn]
   refine WD.e rfl (Ef.callR (by exact rfl) (.nil _) (btw_tr _ _ _ _)) ?_
   rintro _ _ ⟨rfl,rfl⟩
   refine ⟨.inr (fun _ h=>h),?_⟩
   refine SPU ?_; repeat' (first|refine ⟨fun hc=>?_,fun hc=>?_⟩|intro)
   exact Fin.retW (by exact rfl) resA (fun _ h=>h) ⟨rfl,rfl⟩
theorem winMay_no {m c:Int} (h:m < 128∨m > 1500∨c < 4 * m∨c > 16777216):winMay m c=false:=decide_eq_false (by omega)
theorem wnew_tr (F:Nat→Option Obj) (m c:Int):Tr Tryz.prog 75 [.int .i64 m,.int .i64 c].toArray F [] (fun v H=>
 (winMay m c=false∧v=tup [.pointer none,.int .i64 1]∧H=[])∨(winMay m c=true∧∃ b,v=tup [ptr b,.int .i64 0]∧H=winB b (winNew m c))):=by
 refine Tr.enter Tryz.func75 rfl Tryz.ntmps75 rfl (fun w0=>?_)
 refine SPU ?_; repeat' (first|refine ⟨fun hc=>?_,fun hc=>?_⟩|intro)
 · exact Fin.retW (by exact rfl) resA (fun _ h=>h) (.inl ⟨winMay_no (by have:=of_decide_eq_true hc; omega),rfl,rfl⟩)
 · exact Fin.retW (by exact rfl) resA (fun _ h=>h) (.inl ⟨winMay_no (by have:=of_decide_eq_true hc; omega),rfl,rfl⟩)
 all_goals have e1:IntKind.i64.wrap (4 * m)=4 * m:=i64_id (by simp only [decide_eq_false_iff_not] at *; omega) (by simp only [decide_eq_false_iff_not] at *; omega)
 · rw [e1] at hc
   exact Fin.retW (by exact rfl) resA (fun _ h=>h) (.inl ⟨winMay_no (by have:=of_decide_eq_true hc; omega),rfl,rfl⟩)
 · exact Fin.retW (by exact rfl) resA (fun _ h=>h) (.inl ⟨winMay_no (by have:=of_decide_eq_true hc; omega),rfl,rfl⟩)
 · rename_i h3 _
   rw [e1] at h3
   simp only [decide_eq_false_iff_not] at *
   simp (disch:=omega) only [i64_id,Int.tdiv_eq_ediv_of_nonneg,Go.Pth.go_mx,Go.Pth.go_mn]
   exact Fin.retW (by exact rfl) resA (fun _ h=>h) (.inr ⟨decide_eq_true (by omega),_,rfl,rfl⟩)
theorem wsize_tr (F:Nat→Option Obj) (b:Nat) (w:Win):Tr Tryz.prog 124 [ptr b].toArray F (winB b w) (fun v H=>v=.int .i64 w.size∧H=winB b w):=by
 refine Tr.enter Tryz.func124 rfl Tryz.ntmps124 rfl (fun w0=>?_)
 unfold winB winC
 refine SPU ?_; repeat' (first|refine ⟨fun hc=>?_,fun hc=>?_⟩|intro)
 exact Fin.retW (by exact rfl) resA (fun _ h=>h) ⟨rfl,rfl⟩
theorem wslow_tr (F:Nat→Option Obj) (b:Nat) (w:Win) (hw:w.Ok) (n:Int) (hn:1≤n) (full:Bool):Tr Tryz.prog 196 [ptr b,.int .i64 n,.bool full].toArray F (winB b w) (fun v H=>v=.tuple #[]∧H=winB b (slow w n full)):=by
 refine Tr.enter Tryz.func196 rfl Tryz.ntmps196 rfl (fun w0=>?_)
 have h1:=hw.mtu; have h2:=hw.most; have h3:=hw.size; have h4:=hw.thresh
 unfold winB winC
 cases full
 all_goals
  refine SPU ?_; repeat' (first|refine ⟨fun hc=>?_,fun hc=>?_⟩|intro)
 · exact Fin.endW (by exact rfl) resA (fun _ h=>h) ⟨rfl,rfl⟩
 · simp (disch:=omega) only [i64_id,Int.tdiv_eq_ediv_of_nonneg,Go.Pth.go_mx,Go.Pth.go_mn]
   exact Fin.endW (by exact rfl) resA (fun _ h=>h) ⟨rfl,rfl⟩
set_option maxHeartbeats 1000000 in
theorem wavoid_tr (F:Nat→Option Obj) (b:Nat) (w:Win) (hw:w.Ok) (n:Int) (hn:1≤n) (full:Bool):Tr Tryz.prog 197 [ptr b,.int .i64 n,.bool full].toArray F (winB b w) (fun v H=>v=.tuple #[]∧H=winB b (avoid w n full)):=by
 refine Tr.enter Tryz.func197 rfl Tryz.ntmps197 rfl (fun w0=>?_)
 have h1:=hw.mtu; have h2:=hw.most; have h3:=hw.size; have h4:=hw.thresh
 unfold winB winC
 cases full
 all_goals
  refine SPU ?_; repeat' (first|refine ⟨fun hc=>?_,fun hc=>?_⟩|intro)
 · simp (disch:=omega) only [i64_id,Int.tdiv_eq_ediv_of_nonneg,Go.Pth.go_mx,Go.Pth.go_mn]
   exact Fin.endW (by exact rfl) resA (fun _ h=>h) ⟨rfl,rfl⟩
 · simp (disch:=omega) only [i64_id,Go.Pth.go_mn] at hc ⊢
   refine Fin.endW (by exact rfl) resA (fun _ h=>h) ⟨rfl,?_⟩
   unfold avoid
   dsimp only
   rw [hc]
   rfl
 · simp (disch:=omega) only [i64_id,Go.Pth.go_mn] at hc ⊢
   refine Fin.endW (by exact rfl) resA (fun _ h=>h) ⟨rfl,?_⟩
   unfold avoid
   dsimp only
   rw [hc]
   rfl
theorem wlower_tr (F:Nat→Option Obj) (b:Nat) (w:Win) (hw:w.Ok):Tr Tryz.prog 191 [ptr b].toArray F (winB b w) (fun v H=>v=.tuple #[]∧H=winB b { w with thresh:=mx (w.size / 2) (4 * w.mtu),part:=0 }):=by
 refine Tr.enter Tryz.func191 rfl Tryz.ntmps191 rfl (fun w0=>?_)
 have h1:=hw.mtu; have h2:=hw.most; have h3:=hw.size; have h4:=hw.thresh
 unfold winB winC
 refine SPU ?_; repeat' (first|refine ⟨fun hc=>?_,fun hc=>?_⟩|intro)
 simp (disch:=omega) only [i64_id,Int.tdiv_eq_ediv_of_nonneg,Go.Pth.go_mx,Go.Pth.go_mn]
 exact Fin.endW (by exact rfl) resA (fun _ h=>h) ⟨rfl,rfl⟩
theorem wfast_tr (F:Nat→Option Obj) (b:Nat) (w:Win) (hw:w.Ok):Tr Tryz.prog 189 [ptr b].toArray F (winB b w) (fun v H=>v=.tuple #[]∧H=winB b (winFast w)):=by
 refine Tr.enter Tryz.func189 rfl Tryz.ntmps189 rfl (fun w0=>?_)
 refine SPU ?_; repeat' (first|refine ⟨fun hc=>?_,fun hc=>?_⟩|intro)
 refine WL.e rfl (Ef.call (by exact rfl) (.all _) (wlower_tr _ b w hw)) ?_
 rintro _ _ ⟨_,⟨rfl,rfl⟩,rfl⟩
 rw [List.append_nil]
 unfold winB winC
 refine SPU ?_; repeat' (first|refine ⟨fun hc=>?_,fun hc=>?_⟩|intro)
 simp (disch:=omega) only [i64_id,Int.tdiv_eq_ediv_of_nonneg,Go.Pth.go_mx,Go.Pth.go_mn]
 exact Fin.endW (by exact rfl) resA (fun _ h=>h) ⟨rfl,rfl⟩
theorem wlate_tr (F:Nat→Option Obj) (b:Nat) (w:Win) (hw:w.Ok):Tr Tryz.prog 156 [ptr b].toArray F (winB b w) (fun v H=>v=.tuple #[]∧H=winB b (winLate w)):=by
 refine Tr.enter Tryz.func156 rfl Tryz.ntmps156 rfl (fun w0=>?_)
 refine SPU ?_; repeat' (first|refine ⟨fun hc=>?_,fun hc=>?_⟩|intro)
 refine WL.e rfl (Ef.call (by exact rfl) (.all _) (wlower_tr _ b w hw)) ?_
 rintro _ _ ⟨_,⟨rfl,rfl⟩,rfl⟩
 rw [List.append_nil]
 unfold winB winC
 refine SPU ?_; repeat' (first|refine ⟨fun hc=>?_,fun hc=>?_⟩|intro)
 exact Fin.endW (by exact rfl) resA (fun _ h=>h) ⟨rfl,rfl⟩
set_option maxHeartbeats 1000000 in
theorem wacked_tr (F:Nat→Option Obj) (b:Nat) (w:Win) (hw:w.Ok) (n:Int) (full:Bool):Tr Tryz.prog 188 [ptr b,.int .i64 n,.bool full].toArray F (winB b w) (fun v H=>v=.tuple #[]∧H=winB b (winAcked w n full)):=by
 refine Tr.enter Tryz.func188 rfl Tryz.ntmps188 rfl (fun w0=>?_)
 have h1:=hw.mtu; have h2:=hw.most; have h3:=hw.size; have h4:=hw.thresh
 refine SPU ?_; repeat' (first|refine ⟨fun hc=>?_,fun hc=>?_⟩|intro)
 · refine Fin.retW (by exact rfl) resA (fun _ h=>h) ⟨rfl,?_⟩
   unfold winAcked
   rw [if_pos (of_decide_eq_true hc)]
 · have hn:=of_decide_eq_false ‹decide (n < 1)=false›
   refine WL.e rfl (Ef.callV (fv:=[ptr b]) (cv:=[]) (vals:=[.int .i64 n,.bool full]) rfl (by exact rfl) rfl (.all _) (wavoid_tr _ b w hw n (by omega) full)) ?_
   rintro _ _ ⟨_,⟨rfl,rfl⟩,rfl⟩
   rw [List.append_nil]
   have e:winAcked w n full=cap (avoid w n full):=by unfold winAcked; rw [if_neg hn,if_pos (of_decide_eq_true hc)]
   rw [e]
   obtain ⟨q,hq⟩:∃ q,avoid w n full=q:=⟨_,rfl⟩
   rw [hq]
   unfold winB winC
   refine SPU ?_; repeat' (first|refine ⟨fun hc=>?_,fun hc=>?_⟩|intro)
   simp (disch:=omega) only [i64_id,Int.tdiv_eq_ediv_of_nonneg,Go.Pth.go_mx,Go.Pth.go_mn]
   exact Fin.endW (by exact rfl) resA (fun _ h=>h) ⟨rfl,rfl⟩
 · have hn:=of_decide_eq_false ‹decide (n < 1)=false›
   refine WL.e rfl (Ef.callV (fv:=[ptr b]) (cv:=[]) (vals:=[.int .i64 n,.bool full]) rfl (by exact rfl) rfl (.all _) (wslow_tr _ b w hw n (by omega) full)) ?_
   rintro _ _ ⟨_,⟨rfl,rfl⟩,rfl⟩
   rw [List.append_nil]
   have e:winAcked w n full=cap (slow w n full):=by unfold winAcked; rw [if_neg hn,if_neg (of_decide_eq_false hc)]
   rw [e]
   obtain ⟨q,hq⟩:∃ q,slow w n full=q:=⟨_,rfl⟩
   rw [hq]
   unfold winB winC
   refine SPU ?_; repeat' (first|refine ⟨fun hc=>?_,fun hc=>?_⟩|intro)
   simp (disch:=omega) only [i64_id,Int.tdiv_eq_ediv_of_nonneg,Go.Pth.go_mx,Go.Pth.go_mn]
   exact Fin.endW (by exact rfl) resA (fun _ h=>h) ⟨rfl,rfl⟩
end Go.Proofs.YtlfpemmdehmbfaaGreat
