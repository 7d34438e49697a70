/- Some texts as one. The document's sender in memory. Conditions: it is well formed. The document's sender in memory: what it looks at, walked. Conditions: it is well formed. A sender's beginning, and its paths turned one by one, in plain Lean. No conditions: definitions and laws. A sender in memory: begun, a message put, timers at rest, what is owed: walked. Conditions: it is well formed. -/
import Derived.Test.YtlfpemmdehmbfaaGreatBuJ
import Derived.Test.YtlfpemmdehmbfaaGreatBuK
import Derived.Test.YtlfpemmdehmbfaaGreatBuL
import Derived.Test.YtlfpemmdehmbfaaGreatBuO
import Derived.Test.YtlfpemmdehmbfaaGreatBuD
namespace Go.Proofs.YtlfpemmdehmbfaaGreat
open Go Go.Sl Go.Pth
structure DwM where
 p:DpM
 timer:Int
 set:Bool
 mark:Int
def DwM.W (m:DwM):Snd.Way:=⟨m.p.s,m.timer,m.set,m.mark⟩
structure DsM where
 R:Nat
 q:DqM
 f:FR
 ws:List DwM
 pa:Option Addr
 pn:Nat
 pc:Nat
 pb:HL
 ta:Option Addr
 tn:Nat
 tc:Nat
 tb:HL
 sa:Option Addr
 sn:Nat
 sc:Nat
 sb:HL
 ma:Option Addr
 mn:Nat
 mc:Nat
 mb:HL
 room:Int
 first:Int
 mtu:Int
 lives:List Snd.Life
 la:Option Addr
 ln:Nat
 lc:Nat
 lb:HL
 owed:List OwM
 oa:Option Addr
 on_:Nat
 oc:Nat
 ob:HL
 told:Bool
 cum:Int
 at_:Int
 by_:Int
def DsM.cells (s:DsM):List Value:=[ptr s.q.R,ptr s.f.R,.slice s.pa s.pn s.pc,.slice s.ta s.tn s.tc,.slice s.sa s.sn s.sc,.slice s.ma s.mn s.mc,.int .i64 s.room,.int .i64 s.first,.int .i64 s.mtu,.slice s.la s.ln s.lc,.slice s.oa s.on_ s.oc,.bool s.told,.int .u32 s.cum,.int .i64 s.at_,.int .i64 s.by_]
def DsM.hd (s:DsM):Nat × Obj:=(s.R,.cells s.cells.toArray 51 (0,0))
def DsM.X (s:DsM):HL:=s.lb++(s.ob++s.owed.flatMap (·.bb))
def DsM.WH (s:DsM):HL:=s.ws.flatMap (fun m=>m.p.H)
def DsM.T (s:DsM):HL:=s.q.H++(s.f.H++(s.tb++(s.sb++(s.mb++(s.pb++(s.WH++s.X))))))
def DsM.H (s:DsM):HL:=s.hd::s.T
def DsM.S (s:DsM):Snd.S:=⟨s.q.S,s.f.S,s.ws.map DwM.W,s.room,s.first,s.mtu,s.lives,s.owed.map OwM.O,s.told,s.cum,s.at_,s.by_⟩
structure DsM.ok (n:Nat) (s:DsM):Prop where
 q:s.q.ok
 f:s.f.ok
 ways:OwnS 99 1 (s.ws.map (fun m=>ptr m.p.P)) (.slice s.pa s.pn s.pc) s.pb
 tims:OwnS 2 1 (s.ws.map (fun m=>Value.int .i64 m.timer)) (.slice s.ta s.tn s.tc) s.tb
 sets:OwnS 4 1 (s.ws.map (fun m=>Value.bool m.set)) (.slice s.sa s.sn s.sc) s.sb
 marks:OwnS 24 1 (s.ws.map (fun m=>Value.int .u32 m.mark)) (.slice s.ma s.mn s.mc) s.mb
 lives:OwnS 120 2 (s.lives.flatMap lifeC) (.slice s.la s.ln s.lc) s.lb
 owed:OwnS 192 8 (s.owed.flatMap OwM.cells) (.slice s.oa s.on_ s.oc) s.ob
 own:∀ m ∈ s.owed,OwnS 5 1 (m.d.bs.map B) (.slice m.ba m.bn m.bc) m.bb
 pl:Snd.Ok n s.S
theorem DsM.ok.pn {n:Nat} {s:DsM} (h:s.ok n):s.pn=s.ws.length:=by have:=OwnS.len h.ways; simp at this; omega
theorem DsM.ok.tn {n:Nat} {s:DsM} (h:s.ok n):s.tn=s.ws.length:=by have:=OwnS.len h.tims; simp at this; omega
theorem DsM.ok.sn {n:Nat} {s:DsM} (h:s.ok n):s.sn=s.ws.length:=by have:=OwnS.len h.sets; simp at this; omega
theorem DsM.ok.mn {n:Nat} {s:DsM} (h:s.ok n):s.mn=s.ws.length:=by have:=OwnS.len h.marks; simp at this; omega
theorem DsM.ok.nws {n:Nat} {s:DsM} (h:s.ok n):1≤s.ws.length∧s.ws.length≤4:=by have:=h.pl.nws; simpa [DsM.S] using this
theorem DsM.ok.paths {n:Nat} {s:DsM} (h:s.ok n):s.f.S.paths=s.ws.length:=by have:=h.pl.paths; simpa [DsM.S] using this
theorem DsM.ok.way {n:Nat} {s:DsM} (h:s.ok n) {k:Nat} {m:DwM} (hk:s.ws[k]? = some m):m.W.Ok:=h.pl.ws m.W (by
 have:=List.mem_of_getElem? hk
 exact List.mem_map.2 ⟨m,this,rfl⟩)
theorem DsM.ok.small {n:Nat} {s:DsM} (h:s.ok n):s.f.small:=by
 have:=h.pl.f.small (fun _=>true)
 unfold FR.small
 have e:s.S.f.L=s.f.S.L:=rfl
 rw [e] at this
 omega
theorem DsM.ok.pathOk {n:Nat} {s:DsM} (h:s.ok n):pathOk s.f.S.L:=by
 have h1:=h.pl.f.g; have h2:=h.paths; have h3:=h.nws
 intro r hr
 obtain ⟨i,hi⟩:=List.getElem?_of_mem hr
 have:=h1.path i r hi
 have e:s.S.f=s.f.S:=rfl
 rw [e] at this
 omega
theorem DsM.can {F:Nat→Option Obj} (s:DsM):Sl.Can F s.H s.R 0 s.cells:=Can.cut (n:=15) (.here rfl)
theorem DsM.cans {F:Nat→Option Obj} (s:DsM):Sl.Can F s.H s.R (0+0) [ptr s.q.R]∧Sl.Can F s.H s.R (0+1) [ptr s.f.R]∧Sl.Can F s.H s.R (0+2) [.slice s.pa s.pn s.pc]∧Sl.Can F s.H s.R (0+3) [.slice s.ta s.tn s.tc]∧Sl.Can F s.H s.R (0+4) [.slice s.sa s.sn s.sc]∧Sl.Can F s.H s.R (0+5) [.slice s.ma s.mn s.mc]∧
 Sl.Can F s.H s.R (0+6) [.int .i64 s.room]∧Sl.Can F s.H s.R (0+7) [.int .i64 s.first]∧Sl.Can F s.H s.R (0+8) [.int .i64 s.mtu]∧Sl.Can F s.H s.R (0+9) [.slice s.la s.ln s.lc]∧Sl.Can F s.H s.R (0+10) [.slice s.oa s.on_ s.oc]∧Sl.Can F s.H s.R (0+11) [.bool s.told]∧Sl.Can F s.H s.R (0+12) [.int .u32 s.cum]∧Sl.Can F s.H s.R (0+13) [.int .i64 s.at_]∧Sl.Can F s.H s.R (0+14) [.int .i64 s.by_]:=
 ⟨s.can.one (i:=0) rfl,s.can.one (i:=1) rfl,s.can.one (i:=2) rfl,s.can.one (i:=3) rfl,s.can.one (i:=4) rfl,s.can.one (i:=5) rfl,s.can.one (i:=6) rfl,s.can.one (i:=7) rfl,s.can.one (i:=8) rfl,s.can.one (i:=9) rfl,s.can.one (i:=10) rfl,s.can.one (i:=11) rfl,s.can.one (i:=12) rfl,s.can.one (i:=13) rfl,s.can.one (i:=14) rfl⟩
theorem sub_at {α:Type} {l a b c:List α} (h:l.Sublist c):l.Sublist (a++(b++c)):=h.trans ((List.sublist_append_right _ _).trans (List.sublist_append_right _ _))
theorem DsM.atT (s:DsM):s.tb.Sublist s.H:=.cons _ (sub_at (List.sublist_append_left _ _))
theorem DsM.atS (s:DsM):s.sb.Sublist s.H:=.cons _ (sub_at ((List.sublist_append_left _ _).trans (List.sublist_append_right _ _)))
theorem DsM.atM (s:DsM):s.mb.Sublist s.H:=.cons _ (sub_at (sub_at (List.sublist_append_left _ _)))
theorem DsM.atP (s:DsM):s.pb.Sublist s.H:=.cons _ (sub_at (sub_at ((List.sublist_append_left _ _).trans (List.sublist_append_right _ _))))
theorem DsM.ok.prow {n:Nat} {s:DsM} (h:s.ok n):∃ b off,s.pa=some ⟨b,off,none⟩∧∀ (F:Nat→Option Obj) (k:Nat) m,s.ws[k]? = some m→Sl.Can F s.H b (off+(k:Int).toNat * 1) [ptr m.p.P]:=by
 have h1:=h.nws
 obtain ⟨m0,hm0⟩:∃ m,s.ws[0]? = some m:=⟨s.ws[0],List.getElem?_eq_getElem (by omega)⟩
 obtain ⟨b,off,ha,_,_⟩:=own_el (v:=fun m:DwM=>ptr m.p.P) h.ways hm0
 refine ⟨b,off,ha,fun F k m hk=>?_⟩
 obtain ⟨b',off',ha',_,hc⟩:=own_el (v:=fun m:DwM=>ptr m.p.P) h.ways hk
 rw [ha] at ha'
 cases ha'
 exact (hc F).mono (fun _ hh=>hh.sublist s.atP)
theorem DsM.ok.trow {n:Nat} {s:DsM} (h:s.ok n):∃ b off,s.ta=some ⟨b,off,none⟩∧∀ (F:Nat→Option Obj) (k:Nat) m,s.ws[k]? = some m→Sl.Can F s.H b (off+(k:Int).toNat * 1) [.int .i64 m.timer]:=by
 have h1:=h.nws
 obtain ⟨m0,hm0⟩:∃ m,s.ws[0]? = some m:=⟨s.ws[0],List.getElem?_eq_getElem (by omega)⟩
 obtain ⟨b,off,ha,_,_⟩:=own_el (v:=fun m:DwM=>Value.int .i64 m.timer) h.tims hm0
 refine ⟨b,off,ha,fun F k m hk=>?_⟩
 obtain ⟨b',off',ha',_,hc⟩:=own_el (v:=fun m:DwM=>Value.int .i64 m.timer) h.tims hk
 rw [ha] at ha'
 cases ha'
 exact (hc F).mono (fun _ hh=>hh.sublist s.atT)
theorem DsM.ok.srow {n:Nat} {s:DsM} (h:s.ok n):∃ b off,s.sa=some ⟨b,off,none⟩∧∀ (F:Nat→Option Obj) (k:Nat) m,s.ws[k]? = some m→Sl.Can F s.H b (off+(k:Int).toNat * 1) [.bool m.set]:=by
 have h1:=h.nws
 obtain ⟨m0,hm0⟩:∃ m,s.ws[0]? = some m:=⟨s.ws[0],List.getElem?_eq_getElem (by omega)⟩
 obtain ⟨b,off,ha,_,_⟩:=own_el (v:=fun m:DwM=>Value.bool m.set) h.sets hm0
 refine ⟨b,off,ha,fun F k m hk=>?_⟩
 obtain ⟨b',off',ha',_,hc⟩:=own_el (v:=fun m:DwM=>Value.bool m.set) h.sets hk
 rw [ha] at ha'
 cases ha'
 exact (hc F).mono (fun _ hh=>hh.sublist s.atS)
theorem DsM.ok.mrow {n:Nat} {s:DsM} (h:s.ok n):∃ b off,s.ma=some ⟨b,off,none⟩∧∀ (F:Nat→Option Obj) (k:Nat) m,s.ws[k]? = some m→Sl.Can F s.H b (off+(k:Int).toNat * 1) [.int .u32 m.mark]:=by
 have h1:=h.nws
 obtain ⟨m0,hm0⟩:∃ m,s.ws[0]? = some m:=⟨s.ws[0],List.getElem?_eq_getElem (by omega)⟩
 obtain ⟨b,off,ha,_,_⟩:=own_el (v:=fun m:DwM=>Value.int .u32 m.mark) h.marks hm0
 refine ⟨b,off,ha,fun F k m hk=>?_⟩
 obtain ⟨b',off',ha',_,hc⟩:=own_el (v:=fun m:DwM=>Value.int .u32 m.mark) h.marks hk
 rw [ha] at ha'
 cases ha'
 exact (hc F).mono (fun _ hh=>hh.sublist s.atM)
theorem DsM.wayAt {n:Nat} {s:DsM} (h:s.ok n) {k:Nat} (hk:k < s.ws.length):∃ m,s.ws[k]? = some m∧s.S.ws[k]? = some m.W∧(0≤(k:Int)∧(k:Int) < s.pn)∧(0≤(k:Int)∧(k:Int) < s.tn)∧(0≤(k:Int)∧(k:Int) < s.sn)∧(0≤(k:Int)∧(k:Int) < s.mn):=by
 have h1:=h.pn; have h2:=h.tn; have h3:=h.sn; have h4:=h.mn
 exact ⟨s.ws[k],List.getElem?_eq_getElem hk,by unfold DsM.S; dsimp only; rw [List.getElem?_map,List.getElem?_eq_getElem hk]; rfl,by omega,by omega,by omega,by omega⟩
theorem DsM.ok.out {n:Nat} {s:DsM} (h:s.ok n) (k:Int):Flt.out s.f.S k≤3072000:=h.pl.f.small _
structure DPart (s:DsM) (c Hr:HL):Prop where
 sub:Sub c s.H Hr
def DsM.flR (s:DsM):HL:=s.hd::(s.q.H++(s.tb++(s.sb++(s.mb++(s.pb++(s.WH++s.X))))))
theorem DsM.flP (s:DsM):DPart s s.f.H s.flR:=⟨.last (.there (.right .here))⟩
theorem DsM.flE {s:DsM} {f':FR} (hR:f'.R=s.f.R):(f'.H++s.flR).Perm ({ s with f:=f' }:DsM).H:=by
 have e:({ s with f:=f' }:DsM).hd=s.hd:=by unfold DsM.hd DsM.cells; rw [←hR]
 have:=(Sub.pick (.right .here) (.pickL (L:=s.q.H) (.right .here) (.pickL (L:=f'.H) .here (.last .all)))).perm' (H:=f'.H++s.flR)
 unfold DsM.H DsM.T
 rw [e]
 rw [List.append_nil] at this
 exact this
theorem DsM.flB {s:DsM} {f':FR} (hR:f'.R=s.f.R) {F:Nat→Option Obj} {w:World} (h:In F (f'.H++s.flR) w):In F ({ s with f:=f' }:DsM).H w:=h.perm (s.flE hR)
theorem DsM.lvP (s:DsM):DPart s s.lb (s.hd::(s.q.H++(s.f.H++(s.tb++(s.sb++(s.mb++(s.pb++(s.WH++(s.ob++s.owed.flatMap (·.bb)))))))))):=⟨by
 unfold DsM.H DsM.T DsM.X
 exact .last (.there (.right (.right (.right (.right (.right (.right (.right .here))))))))⟩
def DsM.oqR (s:DsM):HL:=s.hd::(s.f.H++(s.tb++(s.sb++(s.mb++(s.pb++(s.WH++s.X))))))
theorem DsM.oqP (s:DsM):DPart s s.q.H s.oqR:=⟨.last (.there .here)⟩
theorem DsM.oqE {s:DsM} {q':DqM} (hR:q'.R=s.q.R):(q'.H++s.oqR).Perm ({ s with q:=q' }:DsM).H:=by
 have e:({ s with q:=q' }:DsM).hd=s.hd:=by unfold DsM.hd DsM.cells; rw [←hR]
 have:=(Sub.pick (.right .here) (.pickL (L:=q'.H) .here (.last .all))).perm' (H:=q'.H++s.oqR)
 unfold DsM.H DsM.T
 rw [e]
 rw [List.append_nil] at this
 exact this
theorem dws_split {l:List DwM} {i:Nat} {m:DwM} (h:l[i]? = some m) (m':DwM):(l.set i m').flatMap (fun m=>m.p.H)=(l.take i).flatMap (fun m=>m.p.H)++(m'.p.H++(l.drop (i+1)).flatMap (fun m=>m.p.H)):=by
 have hi:=(List.getElem?_eq_some_iff.1 h).1
 rw [List.set_eq_take_append_cons_drop,if_pos hi,List.flatMap_append,List.flatMap_cons]
theorem set_get_self {α:Type} {l:List α} {i:Nat} {m:α} (h:l[i]? = some m):l.set i m=l:=by
 obtain ⟨hi,he⟩:=List.getElem?_eq_some_iff.1 h
 rw [←he]
 exact List.set_getElem_self hi
def DsM.setW (s:DsM) (k:Nat) (m:DwM):DsM:={ s with ws:=s.ws.set k m }
def DsM.paR (s:DsM) (k:Nat):HL:=s.hd::(s.q.H++(s.f.H++(s.tb++(s.sb++(s.mb++(s.pb++((s.ws.take k).flatMap (fun m=>m.p.H)++((s.ws.drop (k+1)).flatMap (fun m=>m.p.H)++s.X))))))))
theorem DsM.splitS {s:DsM} {k:Nat} {m:DwM} (hk:s.ws[k]? = some m) (m':DwM):(s.setW k m').H=s.hd::(s.q.H++(s.f.H++(s.tb++(s.sb++(s.mb++(s.pb++((s.ws.take k).flatMap (fun m=>m.p.H)++(m'.p.H++((s.ws.drop (k+1)).flatMap (fun m=>m.p.H)++s.X))))))))):=by
 unfold DsM.H DsM.T DsM.setW DsM.WH
 dsimp only
 rw [dws_split hk,List.append_assoc,List.append_assoc]
 rfl
theorem DsM.setW_self {s:DsM} {k:Nat} {m:DwM} (hk:s.ws[k]? = some m):s.setW k m=s:=by
 unfold DsM.setW
 rw [set_get_self hk]
theorem DsM.paP {s:DsM} {k:Nat} {m:DwM} (hk:s.ws[k]? = some m):DPart s m.p.H (s.paR k):=⟨by
 have e:=DsM.splitS hk m
 rw [DsM.setW_self hk] at e
 rw [e]
 exact .last (.there (.right (.right (.right (.right (.right (.right (.right .here))))))))⟩
theorem DsM.paE {s:DsM} {k:Nat} {m:DwM} (hk:s.ws[k]? = some m) {m':DwM}:(m'.p.H++s.paR k).Perm (s.setW k m').H:=by
 have:=(Sub.pick (.right .here) (.pickL (L:=s.q.H) (.right .here) (.pickL (L:=s.f.H) (.right .here) (.pickL (L:=s.tb) (.right .here) (.pickL (L:=s.sb) (.right .here) (.pickL (L:=s.mb) (.right .here) (.pickL (L:=s.pb) (.right .here) (.pickL (L:=(s.ws.take k).flatMap (fun m=>m.p.H)) (.right .here) (.pickL (L:=m'.p.H) .here (.last .all)))))))))).perm' (H:=m'.p.H++s.paR k)
 rw [DsM.splitS hk]
 rw [List.append_nil] at this
 exact this
theorem DsM.paB {s:DsM} {k:Nat} {m:DwM} (hk:s.ws[k]? = some m) {m':DwM} {F:Nat→Option Obj} {w:World} (h:In F (m'.p.H++s.paR k) w):In F (s.setW k m').H w:=h.perm (DsM.paE hk)
theorem DsM.put {s s':DsM} {off:Nat} {vs:List Value} (hR:s'.R=s.R) (hT:s'.T=s.T) (hs:spliceK s.cells off vs some=some s'.cells):PutAt s.R off vs s.H s'.H:=by
 unfold DsM.H DsM.hd
 rw [hT,hR]
 exact .here hs
theorem DsM.setW_S (s:DsM) (k:Nat) (m:DwM):(s.setW k m).S={ s.S with ws:=s.S.ws.set k m.W }:=by unfold DsM.setW DsM.S; dsimp only; rw [List.map_set]
theorem DsM.ok.setF {n n':Nat} {s:DsM} (h:s.ok n) {f':FR} (hf:f'.ok) (hp:Snd.Ok n' { s.S with f:=f'.S }):({ s with f:=f' }:DsM).ok n':=⟨h.q,hf,h.ways,h.tims,h.sets,h.marks,h.lives,h.owed,h.own,hp⟩
theorem DsM.ok.setO {n n':Nat} {s:DsM} (h:s.ok n) {q':DqM} (hq:q'.ok) (hp:Snd.Ok n' { s.S with q:=q'.S }):({ s with q:=q' }:DsM).ok n':=⟨hq,h.f,h.ways,h.tims,h.sets,h.marks,h.lives,h.owed,h.own,hp⟩
theorem map_set_same {α:Type} {v:α→Value} {l:List α} {k:Nat} {m m':α} (hk:l[k]? = some m) (h:v m'=v m):(l.set k m').map v=l.map v:=by
 rw [List.map_set,h]
 exact set_get_self (by rw [List.getElem?_map,hk]; rfl)
theorem own_same {α:Type} {v:α→Value} {E:Nat} {l:List α} {k:Nat} {m m':α} {sl:Value} {hb:HL} (h:OwnS E 1 (l.map v) sl hb) (hk:l[k]? = some m) (hv:v m'=v m):OwnS E 1 ((l.set k m').map v) sl hb:=by
 rw [map_set_same hk hv]
 exact h
theorem DsM.ok.setW {n:Nat} {s:DsM} (h:s.ok n) {k:Nat} {m m':DwM} (hk:s.ws[k]? = some m) (hP:m'.p.P=m.p.P) (ht:m'.timer=m.timer) (hs:m'.set=m.set) (hm:m'.mark=m.mark) (hw:m'.W.Ok):(s.setW k m').ok n:=by
 refine ⟨h.q,h.f,?_,?_,?_,?_,h.lives,h.owed,h.own,?_⟩
 · exact own_same h.ways hk (by rw [hP])
 · exact own_same h.tims hk (by rw [ht])
 · exact own_same h.sets hk (by rw [hs])
 · exact own_same h.marks hk (by rw [hm])
 · rw [DsM.setW_S]
   exact Snd.setW_ok h.pl k hw
theorem DsM.setW_setW (s:DsM) (k:Nat) (m m':DwM):(s.setW k m).setW k m'=s.setW k m':=by unfold DsM.setW; dsimp only; rw [List.set_set]
theorem DsM.setW_get {s:DsM} {k:Nat} {m:DwM} (hk:s.ws[k]? = some m) (m':DwM):(s.setW k m').ws[k]? = some m':=List.getElem?_set_self (List.getElem?_eq_some_iff.1 hk).1
theorem own_put {α:Type} {v:α→Value} {E:Nat} {l:List α} {b off n c:Nat} {hb:HL} (h:OwnS E 1 (l.map v) (.slice (some ⟨b,off,none⟩) n c) hb) {k:Nat} (hk:k < l.length) (a:α):∃ hb',OwnS E 1 ((l.set k a).map v) (.slice (some ⟨b,off,none⟩) n c) hb'∧PutAt b (off+(k:Int).toNat * 1) [v a] hb hb':=by
 obtain ⟨hb',h1,h2⟩:=h.put k [v a] (by simp; omega)
 rw [set_row hk a] at h1
 exact ⟨hb',h1,by simpa using h2⟩
theorem DsM.ok.putT {n:Nat} {s:DsM} (h:s.ok n) {k:Nat} {m:DwM} (hk:s.ws[k]? = some m) {b off:Nat} (ha:s.ta=some ⟨b,off,none⟩) (t:Int) (hw:(DwM.W { m with timer:=t }).Ok) :
 ∃ s':DsM,s'.ok n∧PutAt b (off+(k:Int).toNat * 1) [.int .i64 t] s.H s'.H∧s'.R=s.R∧s'.q=s.q∧s'.f=s.f∧s'.ws=s.ws.set k { m with timer:=t }∧s'.cells=s.cells∧s'.S={ s.S with ws:=s.S.ws.set k (DwM.W { m with timer:=t }) }:=by
 have ht:=h.tims
 rw [ha] at ht
 obtain ⟨tb',h1,h2⟩:=own_put (v:=fun m:DwM=>Value.int .i64 m.timer) ht (List.getElem?_eq_some_iff.1 hk).1 { m with timer:=t }
 have hS:DsM.S { s with ws:=s.ws.set k { m with timer:=t },tb:=tb' }={ s.S with ws:=s.S.ws.set k (DwM.W { m with timer:=t }) }:=DsM.setW_S s k _
 refine ⟨{ s with ws:=s.ws.set k { m with timer:=t },tb:=tb' },⟨h.q,h.f,?_,by dsimp only; rw [ha]; exact h1,?_,?_,h.lives,h.owed,h.own,by rw [hS]; exact Snd.setW_ok h.pl k hw⟩,?_,rfl,rfl,rfl,rfl,rfl,hS⟩
 · exact own_same h.ways hk rfl
 · exact own_same h.sets hk rfl
 · exact own_same h.marks hk rfl
 · have e:DsM.WH { s with ws:=s.ws.set k { m with timer:=t },tb:=tb' }=s.WH:=by
    show (s.ws.set k _).flatMap _=_
    rw [dws_split hk,←dws_split hk m,set_get_self hk]
    rfl
   unfold DsM.H DsM.T
   rw [e]
   exact .there (.right (.right (.left h2)))
theorem DsM.ok.putS {n:Nat} {s:DsM} (h:s.ok n) {k:Nat} {m:DwM} (hk:s.ws[k]? = some m) {b off:Nat} (ha:s.sa=some ⟨b,off,none⟩) (t:Bool) (hw:(DwM.W { m with set:=t }).Ok) :
 ∃ s':DsM,s'.ok n∧PutAt b (off+(k:Int).toNat * 1) [.bool t] s.H s'.H∧s'.R=s.R∧s'.q=s.q∧s'.f=s.f∧s'.ws=s.ws.set k { m with set:=t }∧s'.cells=s.cells∧s'.S={ s.S with ws:=s.S.ws.set k (DwM.W { m with set:=t }) }:=by
 have ht:=h.sets
 rw [ha] at ht
 obtain ⟨tb',h1,h2⟩:=own_put (v:=fun m:DwM=>Value.bool m.set) ht (List.getElem?_eq_some_iff.1 hk).1 { m with set:=t }
 have hS:DsM.S { s with ws:=s.ws.set k { m with set:=t },sb:=tb' }={ s.S with ws:=s.S.ws.set k (DwM.W { m with set:=t }) }:=DsM.setW_S s k _
 refine ⟨{ s with ws:=s.ws.set k { m with set:=t },sb:=tb' },⟨h.q,h.f,?_,?_,by dsimp only; rw [ha]; exact h1,?_,h.lives,h.owed,h.own,by rw [hS]; exact Snd.setW_ok h.pl k hw⟩,?_,rfl,rfl,rfl,rfl,rfl,hS⟩
 · exact own_same h.ways hk rfl
 · exact own_same h.tims hk rfl
 · exact own_same h.marks hk rfl
 · have e:DsM.WH { s with ws:=s.ws.set k { m with set:=t },sb:=tb' }=s.WH:=by
    show (s.ws.set k _).flatMap _=_
    rw [dws_split hk,←dws_split hk m,set_get_self hk]
    rfl
   unfold DsM.H DsM.T
   rw [e]
   exact .there (.right (.right (.right (.left h2))))
theorem DsM.ok.putM {n:Nat} {s:DsM} (h:s.ok n) {k:Nat} {m:DwM} (hk:s.ws[k]? = some m) {b off:Nat} (ha:s.ma=some ⟨b,off,none⟩) (t:Int) (hw:(DwM.W { m with mark:=t }).Ok) :
 ∃ s':DsM,s'.ok n∧PutAt b (off+(k:Int).toNat * 1) [.int .u32 t] s.H s'.H∧s'.R=s.R∧s'.q=s.q∧s'.f=s.f∧s'.ws=s.ws.set k { m with mark:=t }∧s'.cells=s.cells∧s'.S={ s.S with ws:=s.S.ws.set k (DwM.W { m with mark:=t }) }:=by
 have ht:=h.marks
 rw [ha] at ht
 obtain ⟨tb',h1,h2⟩:=own_put (v:=fun m:DwM=>Value.int .u32 m.mark) ht (List.getElem?_eq_some_iff.1 hk).1 { m with mark:=t }
 have hS:DsM.S { s with ws:=s.ws.set k { m with mark:=t },mb:=tb' }={ s.S with ws:=s.S.ws.set k (DwM.W { m with mark:=t }) }:=DsM.setW_S s k _
 refine ⟨{ s with ws:=s.ws.set k { m with mark:=t },mb:=tb' },⟨h.q,h.f,?_,?_,?_,by dsimp only; rw [ha]; exact h1,h.lives,h.owed,h.own,by rw [hS]; exact Snd.setW_ok h.pl k hw⟩,?_,rfl,rfl,rfl,rfl,rfl,hS⟩
 · exact own_same h.ways hk rfl
 · exact own_same h.tims hk rfl
 · exact own_same h.sets hk rfl
 · have e:DsM.WH { s with ws:=s.ws.set k { m with mark:=t },mb:=tb' }=s.WH:=by
    show (s.ws.set k _).flatMap _=_
    rw [dws_split hk,←dws_split hk m,set_get_self hk]
    rfl
   unfold DsM.H DsM.T
   rw [e]
   exact .there (.right (.right (.right (.right (.left h2)))))
theorem DsM.hdSub (s:DsM):[s.hd].Sublist s.H:=.cons_cons _ (List.nil_sublist _)
theorem DsM.hdCan {F:Nat→Option Obj} (s:DsM):Sl.Can F [s.hd] s.R 0 s.cells:=Can.cut (n:=15) (.here rfl)
attribute [irreducible] DsM.H
end Go.Proofs.YtlfpemmdehmbfaaGreat
namespace Go.Proofs.YtlfpemmdehmbfaaGreat
open Go Go.Sl Go.Pth
theorem dclock_tr (F:Nat→Option Obj) (now:Int):Tr Tryz.prog 89 [.int .i64 now].toArray F [] (fun v H=>v=.int .i64 (Snd.clock now)∧H=[]):=by
 refine Tr.enter Tryz.func89 rfl Tryz.ntmps89 rfl (fun w0=>?_)
 refine SPU ?_; repeat' (first|refine ⟨fun hc=>?_,fun hc=>?_⟩|intro)
 simp only [Go.Pth.go_mx,Go.Pth.go_mn]
 exact Fin.retW (by exact rfl) resA (fun _ h=>h) ⟨rfl,rfl⟩
theorem dneed_tr (F:Nat→Option Obj) (n:Nat) (hn:n≤1000000):Tr Tryz.prog 171 [.int .i64 n].toArray F [] (fun v H=>v=.int .i64 (Snd.need n)∧H=[]):=by
 refine Tr.enter Tryz.func171 rfl Tryz.ntmps171 rfl (fun w0=>?_)
 refine SPU ?_; repeat' (first|refine ⟨fun hc=>?_,fun hc=>?_⟩|intro)
 simp (disch:=omega) only [i64_id,Int.tdiv_eq_ediv_of_nonneg]
 exact Fin.retW (by exact rfl) resA (fun _ h=>h) ⟨rfl,rfl⟩
theorem dall_tr (F:Nat→Option Obj) {n:Nat} (s:DsM) (hs:s.ok n):Tr Tryz.prog 174 [ptr s.R].toArray F s.H (fun v H=>v=.int .i64 (Snd.away s.S)∧H=s.H):=by
 refine Tr.enter Tryz.func174 rfl Tryz.ntmps174 rfl (fun w0=>?_)
 obtain ⟨c0,c1,c2,c3,c4,c5,c6,c7,c8,c9,c10,c11,c12,c13,c14⟩:=s.cans (F:=F)
 have hwn:=hs.pn
 have hnws:=hs.nws
 refine SPX ?_; repeat' (first|refine ⟨fun hc=>?_,fun hc=>?_⟩|intro)
 refine W.loop (G:=GK) (fun g=>[(0,ptr s.R),(4,.int .i64 g.i),(3,.int .i64 (((List.range g.i).map (fun k:Nat=>Flt.out s.f.S k)).sum:Nat))]) (fun _=>s.H) (fun g=>g.i≤s.pn) (fun g=>s.pn - g.i) ⟨0⟩ (Nat.zero_le _) envA (fun _ h=>h) ?_
 rintro ⟨i⟩ hi
 dsimp only at hi ⊢
 refine SPX ?_; repeat' (first|refine ⟨fun hc=>?_,fun hc=>?_⟩|intro)
 · have hi':i < s.pn:=by have:=of_decide_eq_true hc; omega
   refine WL.e rfl (Ef.callR (by exact rfl) s.flP.sub (rout_tr _ s.f hs.f hs.small i)) ?_
   rintro _ _ ⟨rfl,rfl⟩
   have h1:=hs.out i
   have h2:=Snd.sum_le (g:=fun k:Nat=>Flt.out s.f.S k) (b:=3072000) (l:=List.range i) (fun k _=>hs.out k)
   rw [List.length_range] at h2
   have e1:((List.range (i+1)).map (fun k:Nat=>Flt.out s.f.S k)).sum=((List.range i).map (fun k:Nat=>Flt.out s.f.S k)).sum+Flt.out s.f.S i:=by rw [List.range_succ,List.map_append,List.sum_append]; simp
   refine SPX ?_; repeat' (first|refine ⟨fun hc=>?_,fun hc=>?_⟩|intro)
   rw [i64_succ (by omega),i64_id (n:=((((List.range i).map (fun k:Nat=>Flt.out s.f.S k)).sum:Nat):Int)+(Flt.out s.f.S i:Int)) (by omega) (by omega)]
   exact Fin.round ⟨i+1⟩ hi' (by dsimp only; rw [e1]; push_cast; exact envA) (fun _ h=>h) (by dsimp only; omega)
 · have hi':i=s.ws.length:=by have:=of_decide_eq_false hc; omega
   subst hi'
   refine Fin.retW (by exact rfl) resA (fun _ h=>h) ⟨?_,rfl⟩
   unfold Snd.away
   rw [show s.S.ws.length=s.ws.length by simp [DsM.S]]
   rfl
theorem dmay_tr (F:Nat→Option Obj) {n:Nat} (s:DsM) (hs:s.ok n) (k:Nat) (hk:k < s.ws.length):Tr Tryz.prog 91 [ptr s.R,.int .i64 k].toArray F s.H (fun v H=>v=.bool (Snd.mayW s.S k)∧H=s.H):=by
 refine Tr.enter Tryz.func91 rfl Tryz.ntmps91 rfl (fun w0=>?_)
 obtain ⟨c0,c1,c2,c3,c4,c5,c6,c7,c8,c9,c10,c11,c12,c13,c14⟩:=s.cans (F:=F)
 obtain ⟨b,off,hpa,hel⟩:=hs.prow
 obtain ⟨m,hm,hmS,hkn,hkt,hks,hkm⟩:=DsM.wayAt hs hk
 have hcan:=hel F k m hm
 rw [hpa] at c2
 refine SPX ?_; repeat' (first|refine ⟨fun hc=>?_,fun hc=>?_⟩|intro)
 refine WD.e rfl (Ef.callR (by exact rfl) s.flP.sub (rout_tr _ s.f hs.f hs.small k)) ?_
 rintro _ _ ⟨rfl,rfl⟩
 refine ⟨.inr (fun _ h=>h),?_⟩
 refine SPX ?_; repeat' (first|refine ⟨fun hc=>?_,fun hc=>?_⟩|intro)
 refine WD.e rfl (Ef.callR (by exact rfl) (DsM.paP hm).sub (dsize_tr _ m.p)) ?_
 rintro _ _ ⟨rfl,rfl⟩
 refine ⟨.inr (fun _ h=>h),?_⟩
 refine SPX ?_; repeat' (first|refine ⟨fun hc=>?_,fun hc=>?_⟩|intro)
 refine Fin.retW (by exact rfl) resA (fun _ h=>h) ⟨?_,rfl⟩
 unfold Snd.mayW Snd.sizeW
 rw [hmS]
 rfl
theorem dlast_tr (F:Nat→Option Obj) {n:Nat} (s:DsM) (hs:s.ok n):Tr Tryz.prog 97 [ptr s.R].toArray F s.H (fun v H=>v=.int .u32 (Spn.u32 (s.f.S.c+Spn.u32 s.f.S.L.length))∧H=s.H):=by
 refine Tr.enter Tryz.func97 rfl Tryz.ntmps97 rfl (fun w0=>?_)
 obtain ⟨c0,c1,c2,c3,c4,c5,c6,c7,c8,c9,c10,c11,c12,c13,c14⟩:=s.cans (F:=F)
 refine SPX ?_; repeat' (first|refine ⟨fun hc=>?_,fun hc=>?_⟩|intro)
 refine WD.e rfl (Ef.callR (by exact rfl) s.flP.sub (rcum_tr _ s.f)) ?_
 rintro _ _ ⟨rfl,rfl⟩
 refine ⟨.inr (fun _ h=>h),?_⟩
 refine SPX ?_; repeat' (first|refine ⟨fun hc=>?_,fun hc=>?_⟩|intro)
 refine WD.e rfl (Ef.callR (by exact rfl) s.flP.sub (rcount_tr _ s.f)) ?_
 rintro _ _ ⟨rfl,rfl⟩
 refine ⟨.inr (fun _ h=>h),?_⟩
 refine SPX ?_; repeat' (first|refine ⟨fun hc=>?_,fun hc=>?_⟩|intro)
 refine Fin.retW (by exact rfl) resA (fun _ h=>h) ⟨?_,rfl⟩
 rw [fr_len hs.f]
 rfl
theorem tmod_i {a n:Nat} {i:Int} (h:i=a) (_:0 < n):i.tmod n=((a % n:Nat):Int):=by
 subst h
 rw [Int.tmod_eq_emod_of_nonneg (by omega)]
 push_cast
 rfl
theorem dnext_tr (F:Nat→Option Obj) {n:Nat} (s:DsM) (hs:s.ok n) (k:Nat) (hk:k≤1000):Tr Tryz.prog 111 [ptr s.R,.int .i64 k].toArray F s.H (fun v H=>v=.int .i64 (Snd.nextW s.S k)∧H=s.H):=by
 refine Tr.enter Tryz.func111 rfl Tryz.ntmps111 rfl (fun w0=>?_)
 obtain ⟨c0,c1,c2,c3,c4,c5,c6,c7,c8,c9,c10,c11,c12,c13,c14⟩:=s.cans (F:=F)
 obtain ⟨b,off,hpa,hel⟩:=hs.prow
 have hwn:=hs.pn
 have hnws:=hs.nws
 have hlen:s.S.ws.length=s.ws.length:=by simp [DsM.S]
 rw [hpa] at c2
 refine SPX ?_; repeat' (first|refine ⟨fun hc=>?_,fun hc=>?_⟩|intro)
 refine W.loop (G:=GK) (fun g=>[(0,ptr s.R),(1,.int .i64 k),(5,.int .i64 ((g.i+1:Nat):Int))]) (fun _=>s.H) (fun g=>g.i≤s.pn∧∀ j,j < g.i→Snd.activeW s.S (Snd.turn s.ws.length k j)=false) (fun g=>s.pn - g.i) ⟨0⟩ ⟨Nat.zero_le _,fun j hj=>absurd hj (Nat.not_lt_zero _)⟩ envA (fun _ h=>h) ?_
 rintro ⟨i⟩ ⟨hi,hno⟩
 dsimp only at hi hno ⊢
 have hn0:(s.pn:Int)≠0:=by omega
 refine SPX ?_; repeat' (first|refine ⟨fun hc=>?_,fun hc=>?_⟩|intro)
 · have hi':i < s.pn:=by have:=of_decide_eq_true hc; omega
   refine WL.p rfl (Pu.rem rfl rfl hn0) ?_
   rw [hwn,tmod_i (a:=k+1+i) (n:=s.ws.length) (by rw [i64_id (by omega) (by omega)]; omega) (by omega)]
   have hq:(k+1+i) % s.ws.length < s.ws.length:=Nat.mod_lt _ (by omega)
   obtain ⟨q,hqe⟩:∃ q,(k+1+i) % s.ws.length=q:=⟨_,rfl⟩
   have hqt:Snd.turn s.ws.length k i=q:=hqe
   rw [hqe] at hq ⊢
   obtain ⟨m,hm,hmS,hkn,hkt,hks,hkm⟩:=DsM.wayAt hs hq
   have hcan:=hel F q m hm
   have hact:Snd.activeW s.S q=Pth.active m.p.s:=by unfold Snd.activeW; rw [hmS]; rfl
   refine SPX ?_; repeat' (first|refine ⟨fun hc=>?_,fun hc=>?_⟩|intro)
   refine WL.e rfl (Ef.callR (by exact rfl) (DsM.paP hm).sub (dactive_tr _ m.p)) ?_
   rintro _ _ ⟨rfl,rfl⟩
   refine SPX ?_; repeat' (first|refine ⟨fun hc=>?_,fun hc=>?_⟩|intro)
   · refine Fin.retW (by exact rfl) resA (fun _ h=>h) ⟨?_,rfl⟩
     unfold Snd.nextW
     rw [hlen,find_first (i:=i) (by omega) (by rw [hqt,hact]; exact hc) hno]
     dsimp only
     rw [hqt]
     rfl
   · rw [i64_succ (by omega)]
     refine Fin.round ⟨i+1⟩ ⟨by dsimp only; omega,fun j hj=>?_⟩ envA (fun _ h=>h) (by dsimp only; omega)
     dsimp only at hj
     by_cases hji:j < i
     · exact hno j hji
     · rw [show j=i by omega,hqt,hact]
       exact hc
 · have hi':i=s.ws.length:=by have:=of_decide_eq_false hc; omega
   subst hi'
   refine WL.p rfl (Pu.rem rfl rfl hn0) ?_
   rw [hwn,tmod_i (a:=k+1) (n:=s.ws.length) (by rw [i64_id (by omega) (by omega)]; omega) (by omega)]
   refine SPX ?_; repeat' (first|refine ⟨fun hc=>?_,fun hc=>?_⟩|intro)
   refine Fin.retW (by exact rfl) resA (fun _ h=>h) ⟨?_,rfl⟩
   unfold Snd.nextW
   rw [hlen,find_none hno]
   rfl
theorem dany_tr (F:Nat→Option Obj) {n:Nat} (s:DsM) (hs:s.ok n):Tr Tryz.prog 109 [ptr s.R].toArray F s.H (fun v H=>v=.bool (!Snd.noneActive s.S)∧H=s.H):=by
 refine Tr.enter Tryz.func109 rfl Tryz.ntmps109 rfl (fun w0=>?_)
 obtain ⟨c0,c1,c2,c3,c4,c5,c6,c7,c8,c9,c10,c11,c12,c13,c14⟩:=s.cans (F:=F)
 obtain ⟨b,off,hpa,hel⟩:=hs.prow
 have hnws:=hs.nws
 have hlen:s.S.ws.length=s.ws.length:=by simp [DsM.S]
 rw [hpa] at c2
 refine SPX ?_; repeat' (first|refine ⟨fun hc=>?_,fun hc=>?_⟩|intro)
 refine WD.e rfl (Ef.callR (c:=s.H) (by exact rfl) (.all _) (dnext_tr _ s hs 0 (by omega))) ?_
 rintro _ _ ⟨rfl,rfl⟩
 refine ⟨.inr (fun _ h=>h),?_⟩
 have hq:Snd.nextW s.S 0 < s.ws.length:=by rw [←hlen]; exact Snd.nextW_lt (by omega) _
 obtain ⟨m,hm,hmS,hkn,hkt,hks,hkm⟩:=DsM.wayAt hs hq
 have hcan:=hel F _ m hm
 have hact:Snd.activeW s.S (Snd.nextW s.S 0)=Pth.active m.p.s:=by unfold Snd.activeW; rw [hmS]; rfl
 refine SPX ?_; repeat' (first|refine ⟨fun hc=>?_,fun hc=>?_⟩|intro)
 refine WD.e rfl (Ef.callR (by exact rfl) (DsM.paP hm).sub (dactive_tr _ m.p)) ?_
 rintro _ _ ⟨rfl,rfl⟩
 refine ⟨.inr (fun _ h=>h),?_⟩
 refine SPX ?_; repeat' (first|refine ⟨fun hc=>?_,fun hc=>?_⟩|intro)
 refine Fin.retW (by exact rfl) resA (fun _ h=>h) ⟨?_,rfl⟩
 unfold Snd.noneActive
 rw [hact,Bool.not_not]
 rfl
theorem drun_tr (F:Nat→Option Obj) {n:Nat} (s:DsM) (hs:s.ok n) (k:Nat) (hk:k < s.ws.length) (now:Int):Tr Tryz.prog 108 [ptr s.R,.int .i64 k,.int .i64 now].toArray F s.H (fun v H=>v=.tuple #[]∧∃ s':DsM,s'.ok n∧H=s'.H∧s'.R=s.R∧s'.S=Snd.run s.S k now):=by
 refine Tr.enter Tryz.func108 rfl Tryz.ntmps108 rfl (fun w0=>?_)
 obtain ⟨c0,c1,c2,c3,c4,c5,c6,c7,c8,c9,c10,c11,c12,c13,c14⟩:=s.cans (F:=F)
 obtain ⟨b,off,hpa,hel⟩:=hs.prow
 obtain ⟨tb,toff,hta,htel⟩:=hs.trow
 obtain ⟨m,hm,hmS,hkn,hkt,hks,hkm⟩:=DsM.wayAt hs hk
 have hcan:=hel F k m hm
 have hcat:=htel F k m hm
 have hv:=(hs.way hm).value
 have htm:=(hs.way hm).timer
 have hcl:=Snd.clock_rng now
 dsimp only [DwM.W] at hv htm
 rw [hpa] at c2
 rw [hta] at c3
 refine SPX ?_; repeat' (first|refine ⟨fun hc=>?_,fun hc=>?_⟩|intro)
 · have ht:m.timer=-1:=by have:=of_decide_eq_true hc; omega
   have ew:DwM.W { m with timer:=Snd.clock now+m.p.s.r.value }=Snd.runW (Snd.clock now) m.W:=by unfold Snd.runW DwM.W; dsimp only; rw [if_pos ht]
   obtain ⟨s',h1,h2,h3,_,_,_,_,h4⟩:=hs.putT hm hta (Snd.clock now+m.p.s.r.value) (by rw [ew]; exact Snd.runW_ok (hs.way hm) (Snd.clock_at now))
   refine WD.e rfl (Ef.callR (by exact rfl) (.nil _) (dclock_tr _ now)) ?_
   rintro _ _ ⟨rfl,rfl⟩
   refine ⟨.inr (fun _ h=>h),?_⟩
   refine SPX ?_; repeat' (first|refine ⟨fun hc=>?_,fun hc=>?_⟩|intro)
   refine WD.e rfl (Ef.callR (by exact rfl) (DsM.paP hm).sub (drto_tr _ m.p)) ?_
   rintro _ _ ⟨rfl,rfl⟩
   refine ⟨.inr (fun _ h=>h),?_⟩
   refine SPX ?_; repeat' (first|refine ⟨fun hc=>?_,fun hc=>?_⟩|intro)
   rw [i64_id (n:=Snd.clock now+m.p.s.r.value) (by omega) (by omega)]
   refine WD.e0 (Ef.st rfl rfl rfl h2) ?_
   rintro _ _ ⟨rfl,rfl⟩
   refine ⟨.inl (by kernel_rfl),?_⟩
   refine SPX ?_; repeat' (first|refine ⟨fun hc=>?_,fun hc=>?_⟩|intro)
   refine Fin.endW (by exact rfl) resA (fun _ h=>h) ⟨rfl,s',h1,rfl,h3,?_⟩
   rw [h4,ew]
   unfold Snd.run
   rw [hmS]
 · have ht:¬ m.timer=-1:=by have:=of_decide_eq_false hc; omega
   refine Fin.endW (by exact rfl) resA (fun _ h=>h) ⟨rfl,s,hs,rfl,rfl,?_⟩
   unfold Snd.run
   rw [hmS]
   dsimp only
   have ew:Snd.runW (Snd.clock now) m.W=m.W:=by unfold Snd.runW; exact if_neg ht
   rw [ew,set_get_self hmS]
theorem droom_tr (F:Nat→Option Obj) (s:DsM):Tr Tryz.prog 15 [ptr s.R].toArray F s.H (fun v H=>v=.int .i64 s.S.room∧H=s.H):=by
 refine Tr.enter Tryz.func15 rfl Tryz.ntmps15 rfl (fun w0=>?_)
 obtain ⟨c0,c1,c2,c3,c4,c5,c6,c7,c8,c9,c10,c11,c12,c13,c14⟩:=s.cans (F:=F)
 refine SPX ?_; repeat' (first|refine ⟨fun hc=>?_,fun hc=>?_⟩|intro)
 exact Fin.retW (by exact rfl) resA (fun _ h=>h) ⟨rfl,rfl⟩
theorem dempty_tr (F:Nat→Option Obj) {n:Nat} (s:DsM) (hs:s.ok n):Tr Tryz.prog 13 [ptr s.R].toArray F s.H (fun v H=>v=.bool (Snd.empty s.S)∧H=s.H):=by
 refine Tr.enter Tryz.func13 rfl Tryz.ntmps13 rfl (fun w0=>?_)
 obtain ⟨c0,c1,c2,c3,c4,c5,c6,c7,c8,c9,c10,c11,c12,c13,c14⟩:=s.cans (F:=F)
 have hon:s.owed.length=s.on_:=by have:=OwnS.len hs.owed; rw [flat_len' OwM.cells 8 OwM.clen] at this; omega
 have hfl:=fr_len hs.f
 have e:Snd.empty s.S=(decide (Oq.waiting s.q.S=0) && (decide (s.on_=0) && decide (s.f.ln=0))):=by
  rw [←hon,←hfl]
  unfold Snd.empty DsM.S
  dsimp only
  congr 1
  congr 1
  · simp
  · simp
 rw [e]
 refine SPX ?_; repeat' (first|refine ⟨fun hc=>?_,fun hc=>?_⟩|intro)
 refine WL.e rfl (Ef.callR (by exact rfl) s.oqP.sub (dowait_tr _ s.q hs.q)) ?_
 rintro _ _ ⟨rfl,rfl⟩
 refine SPX ?_; repeat' (first|refine ⟨fun hc=>?_,fun hc=>?_⟩|intro)
 · refine WL.e rfl (Ef.callR (by exact rfl) s.flP.sub (rcount_tr _ s.f)) ?_
   rintro _ _ ⟨rfl,rfl⟩
   refine SPX ?_; repeat' (first|refine ⟨fun hc=>?_,fun hc=>?_⟩|intro)
   refine Fin.retW (by exact rfl) resA (fun _ h=>h) ⟨?_,rfl⟩
   have h1:=beq_iff_eq.1 ‹((Oq.waiting s.q.S:Int) == 0)=true›
   have h2:=beq_iff_eq.1 ‹((s.on_:Int) == 0)=true›
   rw [decide_eq_true (show Oq.waiting s.q.S=0 by omega),decide_eq_true (show s.on_=0 by omega),beq_nat]
   rfl
 · refine Fin.retW (by exact rfl) resA (fun _ h=>h) ⟨?_,rfl⟩
   have h2:=beq_eq_false_iff_ne.1 hc
   rw [decide_eq_false (show ¬ s.on_=0 by omega),Bool.false_and,Bool.and_false]
   rfl
 · refine Fin.retW (by exact rfl) resA (fun _ h=>h) ⟨?_,rfl⟩
   have h2:=beq_eq_false_iff_ne.1 hc
   rw [decide_eq_false (show ¬ Oq.waiting s.q.S=0 by omega),Bool.false_and]
   rfl
end Go.Proofs.YtlfpemmdehmbfaaGreat
namespace Go.Snd
open Go Go.Pth
def pmap (g:Nat→Way→Way) (l:List Way) (i:Nat):List Way:=l.mapIdx (fun k w=>if k < i then g k w else w)
theorem pmap_zero (g:Nat→Way→Way) (l:List Way):pmap g l 0=l:=by
 unfold pmap
 refine List.ext_getElem? (fun j=>?_)
 rw [List.getElem?_mapIdx]
 cases l[j]? <;> simp
theorem pmap_all (g:Nat→Way→Way) (l:List Way):pmap g l l.length=l.mapIdx g:=by
 unfold pmap
 refine List.ext_getElem? (fun j=>?_)
 rw [List.getElem?_mapIdx,List.getElem?_mapIdx]
 cases h:l[j]? with
 | none=>rfl
 | some w=>
   have:=(List.getElem?_eq_some_iff.1 h).1
   simp [this]
theorem pmap_len (g:Nat→Way→Way) (l:List Way) (i:Nat):(pmap g l i).length=l.length:=by simp [pmap]
theorem pmap_get (g:Nat→Way→Way) {l:List Way} {i:Nat} {w:Way} (h:l[i]? = some w):(pmap g l i)[i]? = some w:=by
 unfold pmap
 rw [List.getElem?_mapIdx,h]
 simp
theorem pmap_succ (g:Nat→Way→Way) {l:List Way} {i:Nat} {w:Way} (h:l[i]? = some w):pmap g l (i+1)=(pmap g l i).set i (g i w):=by
 refine List.ext_getElem? (fun j=>?_)
 by_cases hj:i=j
 · subst hj
   rw [List.getElem?_set_self (by rw [pmap_len]; exact (List.getElem?_eq_some_iff.1 h).1)]
   unfold pmap
   rw [List.getElem?_mapIdx,h]
   simp
 · rw [List.getElem?_set_ne hj]
   unfold pmap
   rw [List.getElem?_mapIdx,List.getElem?_mapIdx]
   cases l[j]? with
   | none=>rfl
   | some v=>
     simp only [Option.map_some]
     congr 1
     by_cases h1:j < i
     · rw [if_pos h1,if_pos (by omega)]
     · rw [if_neg h1,if_neg (by omega)]
def roomR (rwnd:Int):Int:=mn rwnd 1048576
def way0 (p:Pth.S):Way:=⟨p,-1,false,0⟩
def newS (paths streams sroom mtu:Int) (p:Pth.S) (first rwnd:Int):S:=
 ⟨Oq.new streams sroom,⟨[],Spn.u32 (first - 1),paths⟩,List.replicate paths.toNat (way0 p),roomR rwnd,roomR rwnd,mtu,[],[],false,0,0,paths - 1⟩
theorem newS_ok {paths streams sroom mtu:Int} {p:Pth.S} {first rwnd:Int} (h1:1≤paths∧paths≤4) (h2:Oq.may streams sroom=true) (h3:128≤mtu∧mtu≤1500) (hp:Pth.Ok p) (hr:0≤rwnd):Ok 0 (newS paths streams sroom mtu p first rwnd):=by
 have hw:(way0 p).Ok:=⟨hp,by dsimp only [way0]; omega,by dsimp only [way0]; omega⟩
 have hrm:0≤roomR rwnd∧roomR rwnd≤1048576:=by unfold roomR; rw [mn_eq]; omega
 have hlen:(List.replicate paths.toNat (way0 p)).length=paths.toNat:=List.length_replicate
 refine ⟨Oq.new_ok h2,?_,?_,⟨⟨Flt.u32_mod _,h1,?_,?_,?_,?_⟩,?_,?_⟩,?_,?_,?_,hrm,hrm,h3,?_,?_,?_,?_,?_,?_,?_⟩
 all_goals try (simp [newS,Oq.new]; done)
 · show paths=(List.replicate paths.toNat (way0 p)).length
   rw [hlen]; omega
 · show 1≤(List.replicate paths.toNat (way0 p)).length∧(List.replicate paths.toNat (way0 p)).length≤4
   rw [hlen]; omega
 · intro w hwm
   rw [(List.mem_replicate.1 hwm).2]
   exact hw
 · exact atR_zero
 · show 0≤paths - 1∧paths - 1 < ((List.replicate paths.toNat (way0 p)).length:Int)
   rw [hlen]; omega
theorem Ok.up {n m:Nat} {s:S} (h:Ok n s) (hm:n≤m):Ok m s:=by
 have h1:=h.many; have h2:=h.qfew; have h3:=h.lfew; have h4:=h.ofew
 exact { h with many:=by omega,qfew:=by omega,lfew:=by omega,ofew:=by omega }
end Go.Snd
namespace Go.Proofs.YtlfpemmdehmbfaaGreat
open Go Go.Sl Go.Pth
def Cfg.sndMay (c:Cfg) (now:Int):Bool:=decide (1≤c.paths∧c.paths≤4) && (Oq.may c.streams c.sroom && c.pathMay now)
def Cfg.sndNew (c:Cfg) (first rwnd now:Int):Snd.S:=Snd.newS c.paths c.streams c.sroom c.mtu (c.pathNew now) first rwnd
structure GN where
 i:Nat
 ws:List WaM
 wa:Option Addr
 wn:Nat
 wc:Nat
 wb:HL
set_option maxHeartbeats 4000000 in
theorem snew_tr (F:Nat→Option Obj) (c:Cfg) (first rwnd now:Int) (hr:0≤rwnd):Tr Tryz.prog 6 [.agg c.cells.toArray,.int .u32 first,.int .u32 rwnd,.int .i64 now].toArray F [] (fun v H=>
 (c.sndMay now=false∧v=tup [.pointer none,.int .i64 1]∧H=[])∨(c.sndMay now=true∧∃ s:SdM,s.ok 0∧v=tup [ptr s.R,.int .i64 0]∧H=s.H∧s.S=c.sndNew first rwnd now)):=by
 refine Tr.enter Tryz.func6 rfl Tryz.ntmps6 rfl (fun w0=>?_)
 unfold Cfg.cells
 refine SPU ?_; repeat' (first|refine ⟨fun hc=>?_,fun hc=>?_⟩|intro)
 rename_i b4
 refine WL.e rfl (Ef.call (by exact rfl) (.nil _) (new_tr _ c.paths first)) ?_
 rintro _ _ ⟨_,(⟨hno,rfl,rfl⟩ | ⟨h1,bf,rfl,rfl⟩),rfl⟩
 · dsimp only [tup]
   refine SPU ?_; repeat' (first|refine ⟨fun hc=>?_,fun hc=>?_⟩|intro)
   exact Fin.retW (by exact rfl) resA (H':=[]) (fun _ h=>h.sublist (List.nil_sublist _)) (.inl ⟨by unfold Cfg.sndMay; rw [decide_eq_false hno]; rfl,rfl,rfl⟩)
 dsimp only [tup]
 refine SPU ?_; repeat' (first|refine ⟨fun hc=>?_,fun hc=>?_⟩|intro)
 refine WL.e rfl (Ef.call (by exact rfl) (.nil _) (onew_tr _ c.streams c.sroom)) ?_
 rintro _ _ ⟨_,(⟨hno,rfl,rfl⟩ | ⟨h2,o,ho,rfl,rfl,hoS⟩),rfl⟩
 · dsimp only [tup]
   refine SPU ?_; repeat' (first|refine ⟨fun hc=>?_,fun hc=>?_⟩|intro)
   exact Fin.retW (by exact rfl) resA (H':=[]) (fun _ h=>h.sublist (List.nil_sublist _)) (.inl ⟨by unfold Cfg.sndMay; rw [hno,Bool.false_and,Bool.and_false],rfl,rfl⟩)
 dsimp only [tup]
 refine SPU ?_; repeat' (first|refine ⟨fun hc=>?_,fun hc=>?_⟩|intro)
 rename_i bs
 have hrm:(if 1048576 < rwnd then (1048576:Int) else rwnd)=Snd.roomR rwnd:=by rw [Go.Pth.go_mn]; rfl
 rw [hrm]
 have hrr:0≤Snd.roomR rwnd∧Snd.roomR rwnd≤1048576:=by unfold Snd.roomR; rw [mn_eq]; omega
 rw [i64_id (n:=Snd.roomR rwnd) (by omega) (by omega),i64_id (n:=c.paths - 1) (by omega) (by omega)]
 refine W.loop (G:=GN) (fun g=>[(3,.int .i64 now),(4,ptr b4),(13,ptr bs),(57,.int .i64 c.paths),(58,.int .i64 g.i)])
  (fun g=>(b4,.cells c.cells.toArray 23 (0,0))::((bs,.cells [ptr o.R,ptr bf,.slice g.wa g.wn g.wc,.int .i64 (Snd.roomR rwnd),.int .i64 (Snd.roomR rwnd),.int .i64 c.mtu,.slice none 0 0,.slice none 0 0,.bool false,.int .u32 0,.int .i64 0,.int .i64 (c.paths - 1)].toArray 88 (0,0))::(o.H++((FM.empty bf c.paths first).H++(g.wb++g.ws.flatMap WaM.H)))))
  (fun g=>(g.i:Int)≤c.paths∧g.ws.length=g.i∧OwnS 92 1 (g.ws.map (fun m=>ptr m.b)) (.slice g.wa g.wn g.wc) g.wb∧∀ m ∈ g.ws,c.pathMay now=true∧m.W=Snd.way0 (c.pathNew now)) (fun g=>c.paths.toNat - g.i) ⟨0,[],none,0,0,[]⟩ ⟨by dsimp only; omega,rfl,.inl ⟨rfl,rfl,rfl⟩,fun m hm=>by cases hm⟩ envA (fun _ h=>?_) ?_
 · unfold Cfg.cells
   exact In.of_sub (.pick (.there (.right (.right .here))) (.pick .here (.pickL (L:=o.H) .here (.last (L:=(FM.empty bf c.paths first).H) .here)))) h
 rintro ⟨i,ws,wa,wn,wc,wb⟩ ⟨hi,hwl,hown,hws⟩
 dsimp only at hi hwl hown hws ⊢
 unfold Cfg.cells
 refine SPU ?_; repeat' (first|refine ⟨fun hc=>?_,fun hc=>?_⟩|intro)
 · have hi':(i:Int) < c.paths:=of_decide_eq_true hc
   refine WL.e rfl (Ef.call (by exact rfl) (.nil _) (pnew_tr _ c now)) ?_
   rintro _ _ ⟨_,(⟨hno,rfl,rfl⟩ | ⟨h3,m,rfl,rfl,hmS⟩),rfl⟩
   · dsimp only [tup]
     refine SPU ?_; repeat' (first|refine ⟨fun hc=>?_,fun hc=>?_⟩|intro)
     exact Fin.retW (by exact rfl) resA (H':=[]) (fun _ h=>h.sublist (List.nil_sublist _)) (.inl ⟨by unfold Cfg.sndMay; rw [hno,Bool.and_false,Bool.and_false],rfl,rfl⟩)
   dsimp only [tup]
   refine SPU ?_; repeat' (first|refine ⟨fun hc=>?_,fun hc=>?_⟩|intro)
   rename_i bw bl
   refine WL.e rfl (Ef.app (m:=1) (news:=[ptr bw]) (hb:=wb) (by exact rfl) (by exact rfl) rfl rfl hown (.last (.there (.there (.right (.there (.there (.right (.right .here)))))))) (Src.own (n:=1) (.here rfl)) rfl (by simp [Value.oneCell']) (by simp; omega) (by simp [maxLen]; omega)) ?_
   rintro v' _ ⟨hb',hown',rfl⟩
   obtain ⟨ja,jn,jc,rfl,_,_⟩:=OwnS.shape hown'
   refine SPU ?_; repeat' (first|refine ⟨fun hc=>?_,fun hc=>?_⟩|intro)
   rw [i64_succ (by omega)]
   refine Fin.round ⟨i+1,ws++[⟨bw,m,-1,false,0⟩],ja,jn,jc,hb'⟩ ⟨by dsimp only; omega,by simp [hwl],by dsimp only; rw [List.map_append]; exact hown',fun q hq=>?_⟩ envA (fun _ h=>?_) (by dsimp only; omega)
   · rcases List.mem_append.1 hq with hq | hq
     · exact hws q hq
     · rw [List.mem_singleton.1 hq]
       refine ⟨h3,?_⟩
       unfold WaM.W Snd.way0
       dsimp only
       rw [hmS]
   · dsimp only
     rw [List.flatMap_append,List.flatMap_cons,List.flatMap_nil,List.append_nil]
     exact In.of_sub (.pick (.right (.there (.there (.right .here)))) (.pick (.right (.there (.there (.right .here)))) (.pickL (L:=o.H) (.right (.there (.there (.right .here)))) (.pickL (L:=(FM.empty bf c.paths first).H) (.right (.there (.there (.right .here)))) (.pickL (L:=hb') .here (.pickL (L:=ws.flatMap WaM.H) (.there (.there (.right .all))) (.pick (.there .here) (.last (L:=m.H) (.there .here))))))))) h
 · have hi':(i:Int)=c.paths:=by have:=of_decide_eq_false hc; omega
   have h3:c.pathMay now=true:=by
    obtain ⟨m,hm⟩:∃ m,m ∈ ws:=List.exists_mem_of_length_pos (by omega)
    exact (hws m hm).1
   have hwW:ws.map WaM.W=List.replicate c.paths.toNat (Snd.way0 (c.pathNew now)):=by
    rw [List.eq_replicate_iff]
    refine ⟨by simp; omega,fun w hw=>?_⟩
    obtain ⟨m,hm,rfl⟩:=List.mem_map.1 hw
    exact (hws m hm).2
   have hS:SdM.S ⟨bs,o,FM.empty bf c.paths first,ws,wa,wn,wc,wb,Snd.roomR rwnd,Snd.roomR rwnd,c.mtu,[],none,0,0,[],[],none,0,0,[],false,0,0,c.paths - 1⟩=c.sndNew first rwnd now:=by
    unfold SdM.S Cfg.sndNew Snd.newS
    dsimp only
    rw [hoS,hwW]
    rfl
   have h3':=h3
   unfold Cfg.pathMay may at h3'
   rw [Bool.and_eq_true,Bool.and_eq_true] at h3'
   have hmtu:=of_decide_eq_true h3'.2.1
   refine Fin.retW (by exact rfl) resA (H':=SdM.H ⟨bs,o,FM.empty bf c.paths first,ws,wa,wn,wc,wb,Snd.roomR rwnd,Snd.roomR rwnd,c.mtu,[],none,0,0,[],[],none,0,0,[],false,0,0,c.paths - 1⟩) (fun _ h=>?_) (.inr ⟨by unfold Cfg.sndMay; rw [decide_eq_true h1,h2,h3]; rfl,_,⟨ho,FM.empty_ok bf c.paths first,hown,.inl ⟨rfl,rfl,rfl⟩,.inl ⟨rfl,rfl,rfl⟩,fun m hm=>by (cases hm),?_⟩,rfl,rfl,hS⟩)
   · unfold SdM.H SdM.T SdM.X
     exact In.of_sub (.pick (.there .here) (.pickL (L:=o.H) (.there .here) (.pickL (L:=(FM.empty bf c.paths first).H) (.there .here) (.pickL (L:=wb) (.there .here) (.pickL (L:=ws.flatMap WaM.H) (.there .all) (.nil _)))))) h
   · rw [hS]
     exact Snd.newS_ok h1 h2 ⟨hmtu.1,hmtu.2.1⟩ (Pth.new_ok h3) hr
theorem untilOf_pos {lasts now:Int} (h:lasts > 0):Snd.clock now+min lasts 2305843009213693952=Snd.untilOf lasts now∧Snd.untilOf lasts now > 0:=by
 have:=Snd.clock_rng now
 unfold Snd.untilOf
 rw [if_pos h,mn_eq]
 omega
theorem untilOf_zero {lasts now:Int} (h:¬ lasts > 0):Snd.untilOf lasts now=0:=by
 unfold Snd.untilOf
 rw [if_neg h]
set_option maxHeartbeats 4000000 in
theorem sput_tr (F:Nat→Option Obj) {n:Nat} (s:SdM) (hs:s.ok n) (hn:n < 1000000) (stream:Int) (hst:0≤stream∧stream < 65536) (ord:Bool) (bs:List UInt8) (ba:Option Addr) (bn bc:Nat) (hsrc:Lst F [] 1 (bs.map B) ba bn bc) (lasts now:Int) :
 Tr Tryz.prog 21 [ptr s.R,.agg [.int .u16 stream,.bool ord,.slice ba bn bc].toArray,.int .i64 lasts,.int .i64 now].toArray F s.H (fun v H=>v=.int .i64 (Snd.putE s.S stream bs.length lasts now)∧∃ s':SdM,s'.ok (n+1)∧H=s'.H∧s'.R=s.R∧s'.S=Snd.put s.S stream ord bs lasts now):=by
 refine Tr.enter Tryz.func21 rfl Tryz.ntmps21 rfl (fun w0=>?_)
 obtain ⟨c0,c1,c2,c3,c4,c5,c6,c7,c8,c9,c10,c11⟩:=s.cans (F:=F)
 have hbn:bn=bs.length:=by have:=hsrc.len; simp at this; omega
 have hup:=Snd.put_ok hs.pl hst.1 ord bs lasts now
 have hmany:0≤s.o.many∧s.o.many < 1000000000:=by have:=hs.pl.many; dsimp only [SdM.S,OqM.S] at this; omega
 have hqf:s.o.is.length≤n:=by have:=hs.pl.qfew; simpa [SdM.S,OqM.S] using this
 have hfirst:=hs.pl.first
 have hcl:=Snd.clock_rng now
 refine SPX ?_; repeat' (first|refine ⟨fun hc=>?_,fun hc=>?_⟩|intro)
 · have h1:=of_decide_eq_true hc
   exact Fin.retW (by exact rfl) resA (H':=s.H) (fun _ h=>h.sublist findA) ⟨by unfold Snd.putE; rw [if_pos h1]; rfl,s,⟨hs.o,hs.f,hs.ways,hs.lives,hs.owed,hs.own,hs.pl.up (Nat.le_succ n)⟩,rfl,rfl,by unfold Snd.put Snd.putE; rw [if_pos h1]; rfl⟩
 · have hl0:=of_decide_eq_false ‹decide (lasts < 0)=false›
   have h1:=of_decide_eq_true hc
   have h2:s.S.first < (bs.length:Int):=by show s.first < _; omega
   exact Fin.retW (by exact rfl) resA (H':=s.H) (fun _ h=>h.sublist findA) ⟨by unfold Snd.putE; rw [if_neg hl0,if_pos h2]; rfl,s,⟨hs.o,hs.f,hs.ways,hs.lives,hs.owed,hs.own,hs.pl.up (Nat.le_succ n)⟩,rfl,rfl,by unfold Snd.put Snd.putE; rw [if_neg hl0,if_pos h2]; rfl⟩
 all_goals
  rename_i b5 _ _
  have hl0:=of_decide_eq_false ‹decide (lasts < 0)=false›
  have hf0:=of_decide_eq_false ‹decide ((bn:Int) > s.first)=false›
 · have hl1:=of_decide_eq_true hc
   refine WL.e rfl (Ef.callR (by exact rfl) (.nil _) (clock_tr _ now)) ?_
   rintro _ _ ⟨rfl,rfl⟩
   refine SPY ?_; repeat' (first|refine ⟨fun hc=>?_,fun hc=>?_⟩|intro)
   obtain ⟨hue,hup0⟩:=untilOf_pos (now:=now) hl1
   have hur:=Snd.untilOf_rng lasts now
   simp only [Go.Pth.go_mn]
   rw [hue,i64_id (n:=Snd.untilOf lasts now) (by omega) (by omega)]
   refine W.drawA ?_
   refine SPX ?_; repeat' (first|refine ⟨fun hc=>?_,fun hc=>?_⟩|intro)
   have hu0:Snd.untilOf lasts now=Snd.untilOf lasts now:=rfl
   refine WD.e rfl (Ef.callF (c:=s.o.H) (by exact rfl) (.skip _ s.oqP.sub) (fun hd=>oput_tr _ s.o hs.o hmany (by omega) stream hst ord bs ba bn bc (hsrc.mono (fun _ h=>addF_in hd h)) _)) ?_
   rintro _ _ ⟨_,⟨rfl,o',ho',rfl,hR',hS'⟩,rfl⟩
   refine ⟨.inl (by kernel_rfl),?_⟩
   refine WD.weak (H':=(b5,.cells [.int .u16 stream,.bool ord,.slice ba bn bc].toArray 38 (0,0))::({ s with o:=o' }:SdM).H) (fun _ h=>In.front1 (s.oqE hR') h) ?_
   dsimp only [tup]
   obtain ⟨E,hE⟩:∃ E,Oq.putE s.o.S stream bs.length (Snd.untilOf lasts now)=E:=⟨_,rfl⟩
   have hputE:Snd.putE s.S stream bs.length lasts now=E:=by
    unfold Snd.putE
    rw [if_neg hl0,if_neg (by show ¬ s.first < (bs.length:Int); omega)]
    exact hE
   have hput0:E≠0→Snd.put s.S stream ord bs lasts now=s.S:=fun h0=>by unfold Snd.put; rw [if_neg (by rw [hputE]; exact h0)]
   have hput1:E=0→Snd.put s.S stream ord bs lasts now={ s.S with q:=Oq.put s.S.q stream ord bs (Snd.untilOf lasts now),lives:=if Snd.untilOf lasts now > 0 then s.lives++[⟨s.o.many,Snd.untilOf lasts now⟩] else s.lives }:=fun h0=>by unfold Snd.put; rw [if_pos (by rw [hputE]; exact h0)]; rfl
   have hq0:E≠0→o'.S=s.o.S:=fun h0=>by rw [hS']; unfold Oq.put; rw [if_neg]; rw [hu0] at hE; rw [hE]; exact h0
   have hq1:o'.S=Oq.put s.S.q stream ord bs (Snd.untilOf lasts now):=by rw [hu0]; exact hS'
   rw [hu0] at hE
   rw [hE,hputE]
   clear c0 c1 c2 c3 c4 c5 c6 c7 c8 c9 c10 c11
   obtain ⟨c0,c1,c2,c3,c4,c5,c6,c7,c8,c9,c10,c11⟩:=SdM.cans (F:=F) { s with o:=o' }
   dsimp only at c0 c1 c2 c3 c4 c5 c6 c7 c8 c9 c10 c11
   refine SPX ?_; repeat' (first|refine ⟨fun hc=>?_,fun hc=>?_⟩|intro)
   · have e0:E=0:=by simpa using ‹(E == 0)=true›
     rw [if_pos e0]
     have hlf:=hs.pl.lfew
     refine WL.e rfl (Ef.app (m:=1) (news:=[.int .i64 s.o.many,.int .i64 (Snd.untilOf lasts now)]) (hb:=s.lb) (by exact rfl) (by exact rfl) rfl rfl hs.lives (.skip _ (.skip _ (SdM.lvP { s with o:=o' }).sub)) (Src.own (n:=2) (.here rfl)) rfl (by simp [Value.oneCell']) (by rw [flat_len' lifeC 2 lifeC_len]; dsimp only [SdM.S] at hlf; simp; omega) (by rw [flat_len' lifeC 2 lifeC_len]; dsimp only [SdM.S] at hlf; simp [maxLen]; omega)) ?_
     rintro v' _ ⟨hb',hown',rfl⟩
     obtain ⟨ja,jn,jc,rfl,_,_⟩:=OwnS.shape hown'
     refine SPX ?_; repeat' (first|refine ⟨fun hc=>?_,fun hc=>?_⟩|intro)
     refine Fin.retW (by exact rfl) resA (H':=({ s with o:=o',lives:=s.lives++[⟨s.o.many,Snd.untilOf lasts now⟩],la:=ja,ln:=jn,lc:=jc,lb:=hb' }:SdM).H) (fun _ h=>?_) ⟨rfl,{ s with o:=o',lives:=s.lives++[⟨s.o.many,Snd.untilOf lasts now⟩],la:=ja,ln:=jn,lc:=jc,lb:=hb' },⟨ho',hs.f,hs.ways,by dsimp only; rw [List.flatMap_append]; exact hown',hs.owed,hs.own,?_⟩,rfl,rfl,?_⟩
     · unfold SdM.H SdM.T SdM.X
       exact In.of_sub (.pick (.right (.there (.there .here))) (.pickL (L:=o'.H) (.right (.there (.there .here))) (.pickL (L:=s.f.H) (.right (.there (.there .here))) (.pickL (L:=s.wb) (.right (.there (.there .here))) (.pickL (L:=s.ws.flatMap WaM.H) (.right (.there (.there .here))) (.pickL (L:=hb') .here (.last (.there (.there .all))))))))) h
     · have hup:=hup
       rw [hput1 e0,if_pos hup0,←hq1] at hup
       exact hup
     · rw [hput1 e0,if_pos hup0,←hq1]
       rfl
   · have hul:=of_decide_eq_false hc
     exact absurd hup0 hul
   · have e0:E≠0:=by simpa using hc
     refine Fin.retW (by exact rfl) resA (H':=({ s with o:=o' }:SdM).H) (fun _ h=>h.sublist findA) ⟨rfl,{ s with o:=o' },?_,rfl,rfl,?_⟩
     · refine hs.setO ho' ?_
       rw [hq0 e0]
       exact hs.pl.up (Nat.le_succ n)
     · rw [hput0 e0]
       show ({ s.S with q:=o'.S }:Snd.S)=_
       rw [hq0 e0]
       rfl
 · have hl1:=of_decide_eq_false hc
   have hu0:=untilOf_zero (now:=now) hl1
   have hul:¬ Snd.untilOf lasts now > 0:=by rw [hu0]; omega
   refine WD.e rfl (Ef.callF (c:=s.o.H) (by exact rfl) (.skip _ s.oqP.sub) (fun hd=>oput_tr _ s.o hs.o hmany (by omega) stream hst ord bs ba bn bc (hsrc.mono (fun _ h=>addF_in hd h)) _)) ?_
   rintro _ _ ⟨_,⟨rfl,o',ho',rfl,hR',hS'⟩,rfl⟩
   refine ⟨.inl (by kernel_rfl),?_⟩
   refine WD.weak (H':=(b5,.cells [.int .u16 stream,.bool ord,.slice ba bn bc].toArray 38 (0,0))::({ s with o:=o' }:SdM).H) (fun _ h=>In.front1 (s.oqE hR') h) ?_
   dsimp only [tup]
   obtain ⟨E,hE⟩:∃ E,Oq.putE s.o.S stream bs.length (Snd.untilOf lasts now)=E:=⟨_,rfl⟩
   have hputE:Snd.putE s.S stream bs.length lasts now=E:=by
    unfold Snd.putE
    rw [if_neg hl0,if_neg (by show ¬ s.first < (bs.length:Int); omega)]
    exact hE
   have hput0:E≠0→Snd.put s.S stream ord bs lasts now=s.S:=fun h0=>by unfold Snd.put; rw [if_neg (by rw [hputE]; exact h0)]
   have hput1:E=0→Snd.put s.S stream ord bs lasts now={ s.S with q:=Oq.put s.S.q stream ord bs (Snd.untilOf lasts now),lives:=if Snd.untilOf lasts now > 0 then s.lives++[⟨s.o.many,Snd.untilOf lasts now⟩] else s.lives }:=fun h0=>by unfold Snd.put; rw [if_pos (by rw [hputE]; exact h0)]; rfl
   have hq0:E≠0→o'.S=s.o.S:=fun h0=>by rw [hS']; unfold Oq.put; rw [if_neg]; rw [hu0] at hE; rw [hE]; exact h0
   have hq1:o'.S=Oq.put s.S.q stream ord bs (Snd.untilOf lasts now):=by rw [hu0]; exact hS'
   rw [hu0] at hE
   rw [hE,hputE]
   clear c0 c1 c2 c3 c4 c5 c6 c7 c8 c9 c10 c11
   obtain ⟨c0,c1,c2,c3,c4,c5,c6,c7,c8,c9,c10,c11⟩:=SdM.cans (F:=F) { s with o:=o' }
   dsimp only at c0 c1 c2 c3 c4 c5 c6 c7 c8 c9 c10 c11
   refine SPX ?_; repeat' (first|refine ⟨fun hc=>?_,fun hc=>?_⟩|intro)
   · refine Fin.retW (by exact rfl) resA (H':=({ s with o:=o' }:SdM).H) (fun _ h=>h.sublist findA) ⟨rfl,{ s with o:=o' },?_,rfl,rfl,?_⟩
     · refine hs.setO ho' ?_
       have e0:E=0:=by simpa using ‹(E == 0)=true›
       have hup:=hup
       rw [hput1 e0,if_neg hul,←hq1] at hup
       exact hup
     · have e0:E=0:=by simpa using ‹(E == 0)=true›
       rw [hput1 e0,if_neg hul,←hq1]
       rfl
   · have e0:E≠0:=by simpa using hc
     refine Fin.retW (by exact rfl) resA (H':=({ s with o:=o' }:SdM).H) (fun _ h=>h.sublist findA) ⟨rfl,{ s with o:=o' },?_,rfl,rfl,?_⟩
     · refine hs.setO ho' ?_
       rw [hq0 e0]
       exact hs.pl.up (Nat.le_succ n)
     · rw [hput0 e0]
       show ({ s.S with q:=o'.S }:Snd.S)=_
       rw [hq0 e0]
       rfl
structure GS where
 i:Nat
 s:SdM
set_option maxHeartbeats 2000000 in
theorem srest_tr (F:Nat→Option Obj) {n:Nat} (s:SdM) (hs:s.ok n):Tr Tryz.prog 70 [ptr s.R].toArray F s.H (fun v H=>v=.tuple #[]∧∃ s':SdM,s'.ok n∧H=s'.H∧s'.R=s.R∧s'.S=Snd.restAll s.S):=by
 refine Tr.enter Tryz.func70 rfl Tryz.ntmps70 rfl (fun w0=>?_)
 obtain ⟨c0,c1,c2,c3,c4,c5,c6,c7,c8,c9,c10,c11⟩:=s.cans (F:=F)
 obtain ⟨b,off,hwa,hel⟩:=hs.wrow
 have hwn:=hs.wn
 have hnws:=hs.nws
 rw [hwa] at c2
 refine SPX ?_; repeat' (first|refine ⟨fun hc=>?_,fun hc=>?_⟩|intro)
 clear c0 c1 c2 c3 c4 c5 c6 c7 c8 c9 c10 c11 hel
 refine W.loop (G:=GS) (fun g=>[(0,ptr s.R),(7,.slice (some ⟨b,off,none⟩) s.wn s.wc),(8,.int .i64 s.wn),(9,.int .i64 g.i)]) (fun g=>g.s.H) (fun g=>g.i≤s.wn∧g.s.ok n∧g.s.R=s.R∧g.s.wa=s.wa∧g.s.wn=s.wn∧g.s.S={ s.S with ws:=Snd.pmap (Snd.restW s.f.S) s.S.ws g.i }) (fun g=>s.wn - g.i) ⟨0,s⟩ ⟨Nat.zero_le _,hs,rfl,rfl,rfl,by dsimp only; rw [Snd.pmap_zero]⟩ envA (fun _ h=>h) ?_
 rintro ⟨i,t⟩ ⟨hi,ht,hR,hta,htn,htS⟩
 dsimp only at hi ht hR hta htn htS ⊢
 obtain ⟨c0,c1,c2,c3,c4,c5,c6,c7,c8,c9,c10,c11⟩:=t.cans (F:=F)
 rw [hR] at c0 c1 c2 c3 c4 c5 c6 c7 c8 c9 c10 c11
 have hlen:t.ws.length=s.ws.length:=by have:=congrArg (fun x:Snd.S=>x.ws.length) htS; simpa [SdM.S,Snd.pmap] using this
 refine SPX ?_; repeat' (first|refine ⟨fun hc=>?_,fun hc=>?_⟩|intro)
 · have hi':i < s.wn:=by have:=of_decide_eq_true hc; omega
   obtain ⟨b',off',hta',hel⟩:=ht.wrow
   rw [hta,hwa] at hta'
   cases hta'
   obtain ⟨m,hm,hmS,hkn⟩:=SdM.wayAt ht (k:=i) (by omega)
   rw [htn] at hkn
   have hcan:=hel F i m hm
   refine SPX ?_; repeat' (first|refine ⟨fun hc=>?_,fun hc=>?_⟩|intro)
   have htf:t.f.S=s.f.S:=congrArg Snd.S.f htS
   have hms:s.S.ws[i]? = some m.W:=by
    have h1:t.S.ws[i]? = some m.W:=hmS
    rw [htS] at h1
    obtain ⟨w,hw⟩:∃ w,s.S.ws[i]? = some w:=⟨s.S.ws[i]'(by simp [SdM.S]; omega),List.getElem?_eq_getElem _⟩
    have h2:=Snd.pmap_get (Snd.restW s.f.S) hw
    dsimp only at h1
    rw [h2] at h1
    rw [hw,←h1]
   refine WL.e rfl (Ef.callR (by exact rfl) t.flP.sub (out_tr _ t.f ht.f ht.small i)) ?_
   rintro _ _ ⟨rfl,rfl⟩
   refine SPX ?_; repeat' (first|refine ⟨fun hc=>?_,fun hc=>?_⟩|intro)
   · have h0:Flt.out s.f.S i=0:=by rw [←htf]; simpa using hc
     refine WL.e0 (Ef.st rfl rfl rfl (SdM.wayPut (m':={ m with timer:=-1 }) hm rfl rfl (off:=0+1) rfl)) ?_
     rintro _ _ ⟨rfl,rfl⟩
     refine SPX ?_; repeat' (first|refine ⟨fun hc=>?_,fun hc=>?_⟩|intro)
     have ew:WaM.W { m with timer:=-1 }=Snd.restW s.f.S i m.W:=by unfold Snd.restW WaM.W; rw [if_pos h0]
     rw [i64_succ (by omega)]
     refine Fin.round ⟨i+1,t.setW i { m with timer:=-1 }⟩ ⟨hi',ht.setW hm rfl (by rw [ew]; exact Snd.restW_ok (ht.way hm)),hR,hta,htn,?_⟩ envA (fun _ h=>h) (by dsimp only; omega)
     rw [SdM.setW_S,htS,ew,Snd.pmap_succ _ hms]
   · have h0:¬ Flt.out s.f.S i=0:=by rw [←htf]; simpa using hc
     have ew:m.W=Snd.restW s.f.S i m.W:=by unfold Snd.restW; rw [if_neg h0]
     rw [i64_succ (by omega)]
     refine Fin.round ⟨i+1,t⟩ ⟨hi',ht,hR,hta,htn,?_⟩ envA (fun _ h=>h) (by dsimp only; omega)
     rw [htS,Snd.pmap_succ _ hms,←ew]
     congr 1
     have h3:=Snd.pmap_get (Snd.restW s.f.S) hms
     obtain ⟨hlt,he⟩:=List.getElem?_eq_some_iff.1 h3
     rw [←he]
     exact (List.set_getElem_self hlt).symm
 · have hi':i=s.S.ws.length:=by have:=of_decide_eq_false hc; simp [SdM.S]; omega
   subst hi'
   refine Fin.endW (by exact rfl) resA (fun _ h=>h) ⟨rfl,t,ht,rfl,hR,?_⟩
   rw [htS,Snd.pmap_all]
   rfl
end Go.Proofs.YtlfpemmdehmbfaaGreat
