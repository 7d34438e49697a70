/- Some texts as one. The logic's further rules: slices against nil, bytes and strings, make, parts of slices, results that lie in memory. No conditions: laws only. The logic's last rules: what can be read, owned or not: some cells from a place on; a slice of which all can be read; a call that may read all that its caller may. No conditions: laws only. The logic's rules for writing into a slice that is owned. No conditions: laws only. The logic's rules for function values and for a range over a function: closures are made and called; a loop's record, its rounds, its end; what such a function leaves behind. No conditions: laws only. The logic's rules for the stepping: each with the way in which its side conditions are mostly met. No conditions: laws only. The logic's rules for a map's length, arrays' places, and the greater of two. No conditions: laws only. -/
import Derived.Test.YtlfpemmdehmbfaaGreatBuB
import Derived.Laws.BytesString
import Derived.Laws.MakeOwn
import Derived.Lib.SlBytesConst
import Derived.RangeFuncRecord
import Derived.KernelRfl
namespace Go.Sl
open Go
section
variable {x:Cx} {env:Env} {H:HL} {dst:Option Tmp} {ty:TypeId} {pos:String} {aft:Array Edge} {gd:Option (Nat × Bool)}
theorem run_equal_snil {P:Program} {T e:TypeId} (h:P.underlying T=some (.slice e)) (m:Option Addr) (n c n' c':Nat) (w:World):(Op.equal T (.slice m n c) (.slice none n' c')).run P w=.ok m.isNone w:=by
 show (Op.equalIn (9999+1) T (.slice m n c) (.slice none n' c')).run P w=_
 rw [Op.equalIn,Sem.run_bind,run_underlying h]
 cases m <;> rfl
theorem Pu.eqSN {T T':TypeId} {e sz by_:Nat} {p q:Operand} {m:Option Addr} {n c n' c':Nat} [st:SliceT x.P T e sz by_] (hp:ev env p=some (.slice m n c)) (hq:ev env q=some (.slice none n' c')) :
 Pu x env ⟨dst,.binOp .eql T p q T',ty,pos,aft,gd⟩ (.bool m.isNone):=⟨fun a he w=>by
 simp [execOp,he.eval hp,he.eval hq,eqGuard,binOp,run_equal_snil st.h]⟩
theorem Pu.neSN {T T':TypeId} {e sz by_:Nat} {p q:Operand} {m:Option Addr} {n c n' c':Nat} [st:SliceT x.P T e sz by_] (hp:ev env p=some (.slice m n c)) (hq:ev env q=some (.slice none n' c')) :
 Pu x env ⟨dst,.binOp .neq T p q T',ty,pos,aft,gd⟩ (.bool (!m.isNone)):=⟨fun a he w=>by
 simp [execOp,he.eval hp,he.eval hq,eqGuard,binOp,run_equal_snil st.h]⟩
theorem info_sl {P:Program} {T e sz by_:Nat} (st:SliceT P T e sz by_):∃ i,P.info? e=some i∧i.size=sz∧i.bytes=by_:=by
 have hi:=st.i
 cases hq:P.info? e with
 | none=>simp [hq] at hi
 | some i=>simp [hq] at hi; exact ⟨i,rfl,hi.1,hi.2⟩
theorem Pu.slLo {T e sz by_:Nat} {p q:Operand} {ad:Option Addr} {n c:Nat} {k:IntKind} {lo:Int} [st:SliceT x.P T e sz by_] (hp:ev env p=some (.slice ad n c)) (hq:ev env q=some (.int k lo)) (h:0≤lo∧lo≤n) :
 Pu x env ⟨dst,.slice T p (some q) none none,ty,pos,aft,gd⟩ (.slice (if c=lo.toNat then ad else ad.map (·.add (lo.toNat * sz))) (n - lo.toNat) (c - lo.toNat)):=⟨fun a he w=>by
 obtain ⟨i,hi,hs,_⟩:=info_sl st
 simp [execOp,he.eval hp,he.eval hq,Instr.sliceAt,run_underlying st.h,Instr.slice,Instr.sliceBounds,Instr.sliceBound,asIntOf,h,sizeOf,typeInfo,hi,hs]⟩
theorem Pu.slHi {T e sz by_:Nat} {p q:Operand} {ad:Option Addr} {n c:Nat} {k:IntKind} {up:Int} [st:SliceT x.P T e sz by_] (hp:ev env p=some (.slice ad n c)) (hq:ev env q=some (.int k up)) (h:0≤up∧up≤c) :
 Pu x env ⟨dst,.slice T p none (some q) none,ty,pos,aft,gd⟩ (.slice ad up.toNat c):=⟨fun a he w=>by
 obtain ⟨i,hi,hs,_⟩:=info_sl st
 have e1:∀ b:Addr,b.add 0=b:=fun b=>rfl
 cases ad <;> simp [execOp,he.eval hp,he.eval hq,Instr.sliceAt,run_underlying st.h,Instr.slice,Instr.sliceBounds,Instr.sliceBound,asIntOf,h,sizeOf,typeInfo,hi,e1]⟩
theorem Pu.slLH {T e sz by_:Nat} {p q r:Operand} {ad:Option Addr} {n c:Nat} {k k':IntKind} {lo up:Int} [st:SliceT x.P T e sz by_] (hp:ev env p=some (.slice ad n c)) (hq:ev env q=some (.int k lo)) (hr:ev env r=some (.int k' up)) (h:0≤up∧up≤c) (h0:0≤lo∧lo≤up) :
 Pu x env ⟨dst,.slice T p (some q) (some r) none,ty,pos,aft,gd⟩ (.slice (if c=lo.toNat then ad else ad.map (·.add (lo.toNat * sz))) (up.toNat - lo.toNat) (c - lo.toNat)):=⟨fun a he w=>by
 obtain ⟨i,hi,hs,_⟩:=info_sl st
 obtain ⟨u,rfl⟩:∃ u:Nat,up=u:=⟨up.toNat,by omega⟩
 have h1:u≤c:=by omega
 simp [execOp,he.eval hp,he.eval hq,he.eval hr,Instr.sliceAt,run_underlying st.h,Instr.slice,Instr.sliceBounds,Instr.sliceBound,asIntOf,h1,h0,sizeOf,typeInfo,hi,hs]⟩
def strB (bs:List UInt8):ByteArray:=⟨bs.toArray⟩
def B (b:UInt8):Value:=.int .u8 b.toNat
theorem foldl_B (bs:List UInt8):∀ s:ByteArray,(bs.map (fun b=>(b.toNat:Int))).foldl (fun r n=>r.push (UInt8.ofNat n.toNat)) s=⟨s.data++bs.toArray⟩:=by
 induction bs with
 | nil=>intro s; simp
 | cons b bs ih=>
   intro s
   rw [List.map_cons,List.foldl_cons,ih]
   have:UInt8.ofNat (b.toNat:Int).toNat=b:=by simp
   rw [this]
   have hp:s.push b=⟨s.data.push b⟩:=by cases s; rfl
   rw [hp]
   congr 1
   simp
theorem Rd.cvBS {S T e sz by_:Nat} {p:Operand} {v:Value} {m:Nat} {bs:List UInt8} [st:SliceT x.P S e sz by_] [bt:IntT x.P e .u8] [sr:StrT x.P T] (hp:ev env p=some v) (hs:Src x.F H v m (bs.map B)) (hm:bs.length=m) :
 Rd x env H ⟨dst,.convert S T p,ty,pos,aft,gd⟩ (.string (strB bs)):=⟨fun a w he hi=>by
 rcases hs with ⟨c,rfl,rfl,hn⟩ | ⟨ad,c,rfl,hr⟩
 · have:bs=[]:=List.eq_nil_of_length_eq_zero hm
   subst this
   have hc:=run_convert_bytes_string (P:=x.P) w S T e none 0 c st.h bt.h sr.h
   simp only [execOp,he.eval hp,Sem.run_bind,hc]
   simp [Conv.bytesToString,strB]
   rfl
 · have hl:=run_loadCells_list (P:=x.P) w ad (bs.map B) (hr w hi)
   have hmap:bs.map B=(bs.map (fun b=>(b.toNat:Int))).map (Value.int .u8):=by simp [B]
   rw [hmap] at hl
   simp only [List.length_map] at hl
   rw [hm] at hl
   have hb:=run_bytesToString (P:=x.P) w ad m c (bs.map (fun b=>(b.toNat:Int))) hl
   have hc:=run_convert_bytes_string (P:=x.P) w S T e (some ad) m c st.h bt.h sr.h
   rw [foldl_B] at hb
   simp only [execOp,he.eval hp,Sem.run_bind,hc,hb,Result.andThen_ok,Sem.run_pure]
   simp [strB]⟩
def mkCells (z:List Value):Nat→List Value
 | 0=>[]
 | n+1=>z++mkCells z n
theorem length_mkCells (z:List Value) (n:Nat):(mkCells z n).length=n * z.length:=by
 induction n with
 | zero=>simp [mkCells]
 | succ n ih=>simp [mkCells,ih,Nat.add_mul]; omega
theorem getElem_mkCells (z:List Value) (hz:0 < z.length):∀ (n j:Nat),j < n * z.length→(mkCells z n)[j]? = z[j % z.length]?
 | 0,j,h=>by omega
 | n+1,j,h=>by
   rw [mkCells]
   by_cases hj:j < z.length
   · rw [List.getElem?_append_left hj,Nat.mod_eq_of_lt hj]
   · rw [List.getElem?_append_right (by omega),getElem_mkCells z hz n (j - z.length) (by rw [Nat.add_mul] at h; omega)]
     congr 1
     exact (Nat.mod_eq_sub_mod (by omega)).symm
theorem madeCells_eq (z:List Value) (hz:0 < z.length) (n:Nat):madeCells z.toArray (n * z.length)=(mkCells z n).toArray:=by
 apply Array.ext'
 apply List.ext_getElem?
 intro j
 unfold madeCells
 by_cases hj:j < n * z.length
 · have hm:j % z.length < z.length:=Nat.mod_lt _ hz
   simp only [Array.toList_map,Array.toList_range,List.getElem?_map]
   rw [getElem_mkCells z hz n j hj]
   simp [hj,hm]
 · rw [List.getElem?_eq_none (by simp; omega),List.getElem?_eq_none (by simp [length_mkCells]; omega)]
theorem Ef.mkS {T e sz by_:Nat} {z:List Value} {p q:Operand} {k k':IntKind} {n:Nat} [st:SliceT x.P T e sz by_] [zt:ZeroT x.P e z] (hz:z.length=sz) (hsz:Nat.blt 0 sz=true) (hp:ev env p=some (.int k n)) (hq:ev env q=some (.int k' n)) (hb:by_ * n≤281474976710656) (h63:n≤9223372036854775807) :
 Ef x env H ⟨dst,.makeSlice T p q,ty,pos,aft,gd⟩ (fun v H'=>∃ b,v=.slice (some ⟨b,0,none⟩) n n∧H'=(b,.cells (mkCells z n).toArray e (0,0))::H):=⟨fun a w he hi=>by
 obtain ⟨i,hinf,hs,hbb⟩:=info_sl st
 have hzt:=zt.h
 cases hzz:i.zero with
 | none=>simp [hinf,hzz] at hzt
 | some zv=>
 have hzc:zv.cells=z.toArray:=by simpa [hinf,hzz] using hzt
 have hb':((by_ * n:Nat):Int)≤281474976710656:=by omega
 rw [Int.natCast_mul,←hbb] at hb'
 have hrun:=run_make (P:=x.P) w T e i zv st.h hinf hzz k k' n n (by omega) (by omega) hb' (by omega)
 rw [hzc,hs,←hz] at hrun
 simp only [Int.toNat_natCast] at hrun
 rw [madeCells_eq z (by rw [hz]; exact Nat.le_of_ble_eq_true hsz)] at hrun
 refine yields_of_run (v:=.slice (some ⟨w.heap.size,0,none⟩) n n) (w':=w.alloc (.cells (mkCells z n).toArray e)) ?_ ⟨_,⟨_,rfl,rfl⟩,hi.alloc _,Same.alloc w _⟩
 simp only [execOp,he.eval hp,he.eval hq,Sem.run_bind,hrun,Result.andThen_ok,Sem.run_pure]⟩
end
def tup:List Value→Value
 | [v]=>v
 | vs=>.tuple vs.toArray
inductive Res (x:Cx) (env:Env) (H:HL):List ResultVar→List Value→Prop
 | nil:Res x env H [] []
 | tmp {t:Nat} {v:Value} {rs:List ResultVar} {vs:List Value}:look env t=some v→Res x env H rs vs→Res x env H (.tmp t::rs) (v::vs)
 | cell {t T b off:Nat} {v:Value} {rs:List ResultVar} {vs:List Value}:scalB x.P T=true→look env t=some (.pointer (some ⟨b,off,none⟩))→CellAt b off v H→Res x env H rs vs→Res x env H (.cell t T::rs) (v::vs)
 | agg {t T n b off:Nat} {r:List Value} {rs:List ResultVar} {vs:List Value}:aggS x.P T=some n→look env t=some (.pointer (some ⟨b,off,none⟩))→CutAt b off n r H→Res x env H rs vs→Res x env H (.cell t T::rs) (.agg r.toArray::vs)
theorem Res.cell' {x:Cx} {env:Env} {H:HL} {t T b off:Nat} {v:Value} {rs:List ResultVar} {vs:List Value} [sc:ScalT x.P T] (h1:look env t=some (.pointer (some ⟨b,off,none⟩))) (h2:CellAt b off v H) (h:Res x env H rs vs):Res x env H (.cell t T::rs) (v::vs):=.cell sc.h h1 h2 h
theorem Res.agg' {x:Cx} {env:Env} {H:HL} {t T n b off:Nat} {r:List Value} {rs:List ResultVar} {vs:List Value} [ag:AggT x.P T n] (h1:look env t=some (.pointer (some ⟨b,off,none⟩))) (h2:CutAt b off n r H) (h:Res x env H rs vs):Res x env H (.cell t T::rs) (.agg r.toArray::vs):=.agg ag.h h1 h2 h
theorem run_asAddr {P:Program} (ad:Addr) (w:World):(asAddr (.pointer (some ad))).run P w=.ok ad w:=rfl
theorem Res.run {x:Cx} {env:Env} {H:HL} {a:Act} {w:World} (s:St x env H a w) {rs:List ResultVar} {vs:List Value} (h:Res x env H rs vs) :
 (rs.mapM (fun r=>match r with | .tmp t=>pure (a.tmps.getD t undef) | .cell p t=>(do loadVar t (←asAddr (a.tmps.getD p undef)):Sem Value)):Sem (List Value)).run x.P w=.ok vs w:=by
 induction h with
 | nil=>rfl
 | @tmp t v rs vs h1 _ ih=>
   have hg:a.tmps.getD t undef=v:=by simp [s.ev.env t v h1]
   simp only [List.mapM_cons,Sem.run_bind,Sem.run_pure,Result.andThen_ok,hg,ih]
 | @cell t T b off v rs vs hs h1 h2 _ ih=>
   have hg:a.tmps.getD t undef=.pointer (some ⟨b,off,none⟩):=by simp [s.ev.env t _ h1]
   obtain ⟨l,T',fr,k,hf,hv⟩:=h2.foc
   simp only [List.mapM_cons,Sem.run_bind,Sem.run_pure,Result.andThen_ok,hg,ih,run_asAddr,run_loadVar_scal hs (cell_foc (hf.heap s.hin) hv)]
 | @agg t T n b off r rs vs hs h1 h2 _ ih=>
   have hg:a.tmps.getD t undef=.pointer (some ⟨b,off,none⟩):=by simp [s.ev.env t _ h1]
   obtain ⟨l,T',fr,k,hf,hv⟩:=h2.foc
   simp only [List.mapM_cons,Sem.run_bind,Sem.run_pure,Result.andThen_ok,hg,ih,run_asAddr,run_loadVar_agg hs (hf.heap s.hin) hv]
theorem results_run {x:Cx} {env:Env} {H:HL} {a:Act} {w:World} (s:St x env H a w) {fn:Func} {rs:List ResultVar} {vs:List Value} (hr:fn.results=rs.toArray) (h:Res x env H rs vs):(results fn a.tmps).run x.P w=.ok (tup vs) w:=by
 have hrun:=h.run s
 unfold results
 rw [hr,List.mapM_toArray,Sem.run_bind,Sem.run_map]
 generalize hg:Sem.run x.P (List.mapM (m:=Sem) _ rs) w=r
 obtain rfl:r=.ok vs w:=hg.symm.trans hrun
 simp only [Result.andThen_ok,Sem.run_pure]
 match vs with
 | []=>rfl
 | [v]=>rfl
 | v::u::vs=>simp [tup]
theorem Fin.retW {x:Cx} {fn:Func} {R:Value→HL→Prop} {env:Env} {H H':HL} {rs:List ResultVar} {vs:List Value} (hr:fn.results=rs.toArray) (h:Res x env H rs vs) (hH:∀ w,In x.F H w→In x.F H' w) (hR:R (tup vs) H') (hd:x.df=[]:=by rfl):Fin x (bodyPost x.P fn (RR x.F x.w0 R)) .ret env H:=
 ⟨fun _a w s=>⟨s.ev.defers.trans hd,tup vs,results_run s hr h,tup vs,H',rfl,hR,hH w s.hin,s.same⟩⟩
theorem Fin.endW {x:Cx} {fn:Func} {R:Value→HL→Prop} {env:Env} {H H':HL} {rs:List ResultVar} {vs:List Value} (hr:fn.results=rs.toArray) (h:Res x env H rs vs) (hH:∀ w,In x.F H w→In x.F H' w) (hR:R (tup vs) H') (hd:x.df=[]:=by rfl):Fin x (bodyPost x.P fn (RR x.F x.w0 R)) .normal env H:=
 ⟨fun _a w s=>⟨s.ev.defers.trans hd,tup vs,results_run s hr h,tup vs,H',rfl,hR,hH w s.hin,s.same⟩⟩
theorem Fin.weakH {x:Cx} {K:Post} {e:Exit} {env:Env} {H H':HL} (hH:∀ w,In x.F H w→In x.F H' w) (h:Fin x K e env H'):Fin x K e env H:=⟨fun a w s=>h.run a w ⟨s.ev,hH w s.hin,s.same⟩⟩
end Go.Sl
namespace Go.Sl
open Go
def Can (F:Nat→Option Obj) (H:HL) (b off:Nat) (vs:List Value):Prop:=∀ w,In F H w→∀ j u,vs[j]? = some u→w.cell? ⟨b,off+j,none⟩=some u
theorem Can.mono {F F':Nat→Option Obj} {H H':HL} {b off:Nat} {vs:List Value} (h:Can F H b off vs) (hw:∀ w,In F' H' w→In F H w):Can F' H' b off vs:=fun w hi=>h w (hw w hi)
theorem Can.fr {F:Nat→Option Obj} {H:HL} {b off:Nat} {vs:List Value} {c:Array Value} {T:TypeId} {fr:Nat × Nat} (hf:F b=some (.cells c T fr)) (h:∀ j u,vs[j]? = some u→c[off+j]? = some u):Can F H b off vs:=fun w hi j u hu=>by
 rw [cell_of_row w b _ c T fr (hi.fr b _ hf)]
 exact h j u hu
theorem Can.cut {F:Nat→Option Obj} {H:HL} {b off n:Nat} {vs:List Value} (h:CutAt b off n vs H):Can F H b off vs:=fun w hi j u hu=>by
 obtain ⟨l,T',fr,k,hf,hv⟩:=h.foc
 obtain ⟨hr,hle⟩:=cut_eq hv
 rw [cell_of_row w b _ _ T' fr (hf.heap hi)]
 rw [hr,List.getElem?_take] at hu
 split at hu
 · simpa using hu
 · cases hu
theorem Can.sub {F:Nat→Option Obj} {H:HL} {b off:Nat} {vs:List Value} (h:Can F H b off vs) (i n:Nat):Can F H b (off+i) ((vs.drop i).take n):=fun w hi j u hu=>by
 rw [List.getElem?_take] at hu
 split at hu
 · rw [List.getElem?_drop] at hu
   rw [Nat.add_assoc]
   exact h w hi _ u hu
 · cases hu
theorem Can.one {F:Nat→Option Obj} {H:HL} {b off:Nat} {vs:List Value} (h:Can F H b off vs) {i:Nat} {v:Value} (hv:vs[i]? = some v):Can F H b (off+i) [v]:=fun w hi j u hu=>by
 cases j with
 | zero=>simp at hu; subst hu; exact h w hi i v hv
 | succ j=>simp at hu
structure Lst (F:Nat→Option Obj) (H:HL) (sz:Nat) (xs:List Value) (sa:Option Addr) (n c:Nat):Prop where
 len:xs.length=n * sz
 cap:n≤c
 can:0 < n→∃ b off,sa=some ⟨b,off,none⟩∧Can F H b off xs
 ok:sa=none→n=0
theorem Lst.mono {F F':Nat→Option Obj} {H H':HL} {sz:Nat} {xs:List Value} {sa:Option Addr} {n c:Nat} (h:Lst F H sz xs sa n c) (hw:∀ w,In F' H' w→In F H w):Lst F' H' sz xs sa n c:=
 ⟨h.len,h.cap,fun h0=>let ⟨b,off,h1,h2⟩:=h.can h0; ⟨b,off,h1,h2.mono hw⟩,h.ok⟩
theorem Lst.nil {F:Nat→Option Obj} {H:HL} {sz:Nat} {sa:Option Addr} {c:Nat}:Lst F H sz [] sa 0 c:=⟨by simp,Nat.zero_le _,fun h=>by omega,fun _=>rfl⟩
theorem Lst.src {F:Nat→Option Obj} {H:HL} {sz:Nat} {xs:List Value} {sa:Option Addr} {n c:Nat} (h:Lst F H sz xs sa n c):Src F H (.slice sa n c) n xs:=by
 rcases Nat.eq_zero_or_pos n with h0 | h0
 · subst h0
   have hx:xs=[]:=List.eq_nil_of_length_eq_zero (by rw [h.len]; simp)
   subst hx
   cases sa with
   | none=>exact .inl ⟨c,rfl,rfl,rfl⟩
   | some a=>exact .inr ⟨a,c,rfl,fun w hi j u hu=>by simp at hu⟩
 · obtain ⟨b,off,rfl,hc⟩:=h.can h0
   exact .inr ⟨_,c,rfl,fun w hi j u hu=>by rw [add_lit]; exact hc w hi j u hu⟩
theorem Lst.own {F:Nat→Option Obj} {H:HL} {E sz:Nat} {xs:List Value} {sa:Option Addr} {n c:Nat} {hb:HL} (h:OwnS E sz xs (.slice sa n c) hb) (hw:∀ w,In F H w→In F hb w):Lst F H sz xs sa n c:=by
 rcases h with ⟨he,rfl,_⟩ | ⟨g,n',cap,pre,spare,post,he,rfl,hl,hc,hsp,hm⟩
 · cases he; exact .nil
 · cases he
   refine ⟨hl,hc,fun _=>⟨g,pre.length,rfl,fun w hi j u hu=>?_⟩,fun h=>by cases h⟩
   have hj:j < xs.length:=(List.getElem?_eq_some_iff.1 hu).1
   have hg:=(hw w hi).own _ (List.mem_cons_self ..)
   rw [cell_of_row w g _ _ E _ hg]
   simp only [List.getElem?_toArray,List.append_assoc]
   rw [List.getElem?_append_right (by omega),Nat.add_sub_cancel_left,List.getElem?_append_left hj]
   exact hu
section
variable {x:Cx} {env:Env} {H:HL} {dst:Option Tmp} {ty:TypeId} {pos:String} {aft:Array Edge} {gd:Option (Nat × Bool)}
theorem Rd.ldC {T:TypeId} {p:Operand} {b off:Nat} {v:Value} [sc:ScalT x.P T] (hp:ev env p=some (.pointer (some ⟨b,off,none⟩))) (hc:Can x.F H b off [v]):Rd x env H ⟨dst,.load T p,ty,pos,aft,gd⟩ v:=⟨fun a w he hi=>by
 have hcell:w.cell? ⟨b,off,none⟩=some v:=by have:=hc w hi 0 v rfl; simpa using this
 simp [execOp,he.eval hp,Instr.loadAt,Instr.sureAddr,run_loadVar_scal sc.h hcell]⟩
theorem Rd.ldaC {T n:TypeId} {p:Operand} {b off:Nat} {r:List Value} [ag:AggT x.P T n] (hp:ev env p=some (.pointer (some ⟨b,off,none⟩))) (hl:r.length=n) (hc:Can x.F H b off r):Rd x env H ⟨dst,.load T p,ty,pos,aft,gd⟩ (.agg r.toArray):=⟨fun a w he hi=>by
 have hload:(loadVar T ⟨b,off,none⟩).run x.P w=.ok (.agg r.toArray) w:=by
  obtain ⟨i,hi2,hs⟩:=aggS_info ag.h
  have hl2:=run_loadCells_list (P:=x.P) w ⟨b,off,none⟩ r (fun j v hv=>by rw [add_lit]; exact hc w hi j v hv)
  rw [hl] at hl2
  unfold loadVar
  simp [run_isAgg_agg ag.h w,sizeOf,typeInfo,hi2,hs,hl2]
 simp [execOp,he.eval hp,Instr.loadAt,Instr.sureAddr,hload]⟩
theorem addF_in {F:Nat→Option Obj} {Hr:HL} (hd:∀ p ∈ Hr,F p.1=none) {w:World} (h:In (addF F Hr) [] w):In F [] w:=
 ⟨by simp,(fun _ h=>by cases h),fun b o hb=>h.fr b o (addF_ro hd hb),(fun _ h=>by cases h)⟩
theorem Ef.callF {f:FuncId} {args:List Operand} {tys:Array TypeId} {vals:List Value} {c Hr:HL} {R:Value→HL→Prop} [bd:Body x.P f] (hargs:args.map (ev env)=vals.map some) (hs:Sub c H Hr)
 (tr:(∀ p ∈ Hr,x.F p.1=none)→Tr x.P f vals.toArray (addF x.F Hr) c R):Ef x env H ⟨dst,.call ⟨.value (.func f),args.toArray,tys⟩,ty,pos,aft,gd⟩ (fun v H'=>∃ H1,R v H1∧H'=H1++Hr):=⟨fun a w he hi=>
 (Ef.call (dst:=dst) (tys:=tys) (ty:=ty) (pos:=pos) (aft:=aft) (gd:=gd) hargs hs (tr (fun p hp=>hi.dj p (hs.perm'.mem_iff.2 (List.mem_append_right _ hp))))).run a w he hi⟩
theorem Ef.callFR {f:FuncId} {args:List Operand} {tys:Array TypeId} {vals:List Value} {c Hr:HL} {R:Value→Prop} [bd:Body x.P f] (hargs:args.map (ev env)=vals.map some) (hs:Sub c H Hr)
 (tr:(∀ p ∈ Hr,x.F p.1=none)→Tr x.P f vals.toArray (addF x.F Hr) c (fun v H'=>R v∧H'=c)):Ef x env H ⟨dst,.call ⟨.value (.func f),args.toArray,tys⟩,ty,pos,aft,gd⟩ (fun v H'=>R v∧H'=H):=⟨fun a w he hi=>
 (Ef.callR (dst:=dst) (tys:=tys) (ty:=ty) (pos:=pos) (aft:=aft) (gd:=gd) hargs hs (tr (fun p hp=>hi.dj p (hs.perm'.mem_iff.2 (List.mem_append_right _ hp))))).run a w he hi⟩
end
end Go.Sl
namespace Go.Sl
open Go
theorem OwnS.addr {E sz:Nat} {xs:List Value} {sa:Option Addr} {n c:Nat} {hb:HL} (h:OwnS E sz xs (.slice sa n c) hb) (h0:0 < n):∃ g o,sa=some ⟨g,o,none⟩:=by
 rcases h with ⟨he,_⟩ | ⟨g',n',cap,pre,spare,post,he,rfl,hl,hc,hsp,hm⟩
 · cases he; omega
 · cases he; exact ⟨_,_,rfl⟩
theorem OwnS.put {E sz:Nat} {xs:List Value} {g o n c:Nat} {hb:HL} (h:OwnS E sz xs (.slice (some ⟨g,o,none⟩) n c) hb) (k:Nat) (vs:List Value) (hk:k+vs.length≤xs.length) :
 ∃ hb',OwnS E sz (xs.take k++vs++xs.drop (k+vs.length)) (.slice (some ⟨g,o,none⟩) n c) hb'∧PutAt g (o+k) vs hb hb':=by
 rcases h with ⟨he,_⟩ | ⟨g',n',cap,pre,spare,post,he,rfl,hl,hc,hsp,hm⟩
 · cases he
 · cases he
   refine ⟨[(g,.cells (pre++(xs.take k++vs++xs.drop (k+vs.length))++spare++post).toArray E (0,0))],.inr ⟨g,n,c,pre,spare,post,rfl,rfl,?_,hc,hsp,hm⟩,.here ?_⟩
   · simp only [List.length_append,List.length_take,List.length_drop]; omega
   · rw [spliceK_eq,if_pos (by simp only [List.length_append]; omega)]
     have e1:(pre++xs++spare++post).take (pre.length+k)=pre++xs.take k:=by
      rw [List.append_assoc,List.append_assoc,List.take_length_add_append,List.take_append_of_le_length (by omega)]
     have e2:(pre++xs++spare++post).drop (pre.length+k+vs.length)=xs.drop (k+vs.length)++spare++post:=by
      rw [List.append_assoc,List.append_assoc,Nat.add_assoc,List.drop_length_add_append,List.drop_append_of_le_length (by omega),List.append_assoc]
     rw [e1,e2]
     simp
theorem OwnS.len {E sz:Nat} {xs:List Value} {sa:Option Addr} {n c:Nat} {hb:HL} (h:OwnS E sz xs (.slice sa n c) hb):xs.length=n * sz:=by
 rcases h with ⟨he,rfl,_⟩ | ⟨g',n',cap,pre,spare,post,he,rfl,hl,hc,hsp,hm⟩
 · cases he; simp
 · cases he; exact hl
theorem OwnS.cell {E sz:Nat} {xs:List Value} {g o n c:Nat} {hb:HL} (h:OwnS E sz xs (.slice (some ⟨g,o,none⟩) n c) hb) {k:Nat} {v:Value} (hv:xs[k]? = some v):CellAt g (o+k) v hb:=by
 rcases h with ⟨he,_⟩ | ⟨g',n',cap,pre,spare,post,he,rfl,hl,hc,hsp,hm⟩
 · cases he
 · cases he
   refine .here ?_
   have hk:k < xs.length:=(List.getElem?_eq_some_iff.1 hv).1
   rw [List.append_assoc,List.append_assoc,List.getElem?_append_right (by omega),Nat.add_sub_cancel_left,List.getElem?_append_left hk]
   exact hv
theorem OwnS.cut {E sz:Nat} {xs:List Value} {g o n c:Nat} {hb:HL} (h:OwnS E sz xs (.slice (some ⟨g,o,none⟩) n c) hb) {k m:Nat} {vs:List Value} (hv:(xs.drop k).take m=vs) (hk:k+m≤xs.length):CutAt g (o+k) m vs hb:=by
 rcases h with ⟨he,_⟩ | ⟨g',n',cap,pre,spare,post,he,rfl,hl,hc,hsp,hm⟩
 · cases he
 · cases he
   refine .here ?_
   unfold Sl.cut
   rw [dropK_eq,if_pos (by simp only [List.length_append]; omega),takeK_eq,if_pos (by simp only [List.length_append,List.length_drop]; omega)]
   rw [List.append_assoc,List.append_assoc,List.drop_length_add_append,List.drop_append_of_le_length (by omega),List.take_append_of_le_length (by simp; omega),hv]
section
variable {x:Cx} {env:Env} {H:HL} {dst:Option Tmp} {ty:TypeId} {pos:String} {aft:Array Edge} {gd:Option (Nat × Bool)}
theorem Can.any {F:Nat→Option Obj} {H:HL} {b off:Nat} {vs:List Value} (h:Can F [] b off vs):Can F H b off vs:=h.mono (fun _ h=>h.sublist (List.nil_sublist _))
theorem Lst.any {F:Nat→Option Obj} {H:HL} {sz:Nat} {xs:List Value} {sa:Option Addr} {n c:Nat} (h:Lst F [] sz xs sa n c):Lst F H sz xs sa n c:=h.mono (fun _ h=>h.sublist (List.nil_sublist _))
theorem Rd.ldC0 {T:TypeId} {p:Operand} {b off:Nat} {v:Value} [sc:ScalT x.P T] (hp:ev env p=some (.pointer (some ⟨b,off,none⟩))) (hc:Can x.F [] b off [v]):Rd x env H ⟨dst,.load T p,ty,pos,aft,gd⟩ v:=Rd.ldC hp hc.any
theorem Rd.ldaC0 {T n:TypeId} {p:Operand} {b off:Nat} {r:List Value} [ag:AggT x.P T n] (hp:ev env p=some (.pointer (some ⟨b,off,none⟩))) (hc:Can x.F [] b off r) (hl:r.length=n):Rd x env H ⟨dst,.load T p,ty,pos,aft,gd⟩ (.agg r.toArray):=Rd.ldaC hp hl hc.any
end
theorem Lst.el {F:Nat→Option Obj} {H:HL} {sz:Nat} {α:Type} {cells:α→List Value} {l:List α} {sa:Option Addr} {n c:Nat} (h:Lst F H sz (l.flatMap cells) sa n c) (hc:∀ a,(cells a).length=sz) {i:Nat} {a:α} (ha:l[i]? = some a) (h0:0 < n) :
 ∃ b off,sa=some ⟨b,off,none⟩∧Can F H b (off+(i:Int).toNat * sz) (cells a):=by
 obtain ⟨b,off,rfl,hcan⟩:=h.can h0
 refine ⟨b,off,rfl,?_⟩
 have hs:=hcan.sub (i * sz) sz
 have:((l.flatMap cells).drop (i * sz)).take sz=cells a:=by
  clear hs hcan h h0
  induction l generalizing i with
  | nil=>simp at ha
  | cons x l ih=>
    cases i with
    | zero=>simp at ha; subst ha; simp [hc]
    | succ i=>
      simp at ha
      rw [List.flatMap_cons,Nat.succ_mul,Nat.add_comm,←hc x,List.drop_length_add_append,hc x]
      exact ih ha
 rw [this] at hs
 simpa using hs
end Go.Sl
namespace Go.Sl
open Go
section
variable {x:Cx} {env:Env} {H:HL} {dst:Option Tmp} {ty:TypeId} {pos:String} {aft:Array Edge} {gd:Option (Nat × Bool)}
def evL (env:Env):List Operand→Option (List Value)
 | []=>some []
 | o::r=>match ev env o,evL env r with
   | some v,some l=>some (v::l)
   | _,_=>none
theorem evL_map {env:Env}:∀ {l:List Operand} {vs:List Value},evL env l=some vs→l.map (ev env)=vs.map some
 | [],vs,h=>by cases h; rfl
 | o::r,vs,h=>by
   rw [evL] at h
   cases h1:ev env o with
   | none=>rw [h1] at h; cases h
   | some v=>
     cases h2:evL env r with
     | none=>rw [h1,h2] at h; cases h
     | some l=>
       rw [h1,h2] at h
       cases h
       rw [List.map_cons,List.map_cons,h1,evL_map h2]
theorem Pu.mkF {fn:Fn} {first cap:List Operand} {fv cv:List Value} (e1:evL env first=some fv) (e2:evL env cap=some cv) :
 Pu x env ⟨dst,.makeFunc fn first.toArray cap.toArray,ty,pos,aft,gd⟩ (.func fn fv.toArray cv.toArray):=⟨fun a he w=>by
 have h1:=evL_map e1
 have h2:=evL_map e2
 simp [execOp,Instr.makeFunc,args_eval he first fv h1,args_eval he cap cv h2]⟩
theorem Ef.callV {p:Operand} {f:FuncId} {args:List Operand} {tys:Array TypeId} {fv cv vals all:List Value} {c Hr:HL} {R:Value→HL→Prop} [bd:Body x.P f] (hp:ev env p=some (.func (.func f) fv.toArray cv.toArray)) (hargs:args.map (ev env)=vals.map some)
 (hall:fv++vals++cv=all) (hs:Sub c H Hr) (tr:Tr x.P f all.toArray (addF x.F Hr) c R):Ef x env H ⟨dst,.call ⟨.value p,args.toArray,tys⟩,ty,pos,aft,gd⟩ (fun v H'=>∃ H1,R v H1∧H'=H1++Hr):=⟨fun a w he hi=>by
 subst hall
 have hbb:=bd.h
 unfold bodyB at hbb
 cases hf:x.P.funcs[f]? with
 | none=>simp [hf] at hbb
 | some fn=>
 rw [hf] at hbb
 simp only [Bool.and_eq_true,Bool.not_eq_true'] at hbb
 obtain ⟨hname,hbody⟩:=hbb
 have hin:In x.F (c++Hr) w:=hi.perm hs.perm'
 have hrun:(execOp a.eval ⟨dst,.call ⟨.value p,args.toArray,tys⟩,ty,pos,aft,gd⟩).run x.P w=.ok (.enter f (fv++vals++cv).toArray) w:=by
  have hb:∃ c,fn.body=some c:=by cases hb2:fn.body with | none=>simp [hb2] at hbody | some c=>exact ⟨c,rfl⟩
  obtain ⟨c,hc⟩:=hb
  have hne:¬ fn.name = "runtime.NumGoroutine":=by simpa using hname
  simp [execOp,resolve,he.eval hp,Deferred.ofValue,invoke,callFunc,hf,hne,hc,args_eval he args vals hargs]
 unfold yields
 rw [hrun]
 refine (tr.frame hin).mono ?_
 rintro e w' ⟨v,H',rfl,hR,hi',hsm⟩
 exact ⟨v,rfl,H'++Hr,⟨H',hR,rfl⟩,hi',hsm⟩⟩
theorem Ef.callVR {p:Operand} {f:FuncId} {args:List Operand} {tys:Array TypeId} {fv cv vals all:List Value} {c Hr:HL} {R:Value→Prop} [bd:Body x.P f] (hp:ev env p=some (.func (.func f) fv.toArray cv.toArray)) (hargs:args.map (ev env)=vals.map some)
 (hall:fv++vals++cv=all) (hs:Sub c H Hr) (tr:Tr x.P f all.toArray (addF x.F Hr) c (fun v H'=>R v∧H'=c)):Ef x env H ⟨dst,.call ⟨.value p,args.toArray,tys⟩,ty,pos,aft,gd⟩ (fun v H'=>R v∧H'=H):=⟨fun a w he hi=>by
 refine Yr.mono ?_ ((Ef.callV (dst:=dst) (tys:=tys) (ty:=ty) (pos:=pos) (aft:=aft) (gd:=gd) hp hargs hall hs tr).run a w he hi)
 rintro v w' ⟨H',⟨H1,⟨hR,rfl⟩,rfl⟩,hi',hsm⟩
 exact ⟨H,⟨hR,rfl⟩,hi'.perm hs.perm'.symm,hsm⟩⟩
theorem Ef.lookV {p:Operand} {f:FuncId} {args:List Operand} {tys:Array TypeId} {fv cv vals all:List Value} {R:Value→Prop} [bd:Body x.P f] (hp:ev env p=some (.func (.func f) fv.toArray cv.toArray)) (hargs:args.map (ev env)=vals.map some)
 (hall:fv++vals++cv=all) (tr:∀ F',(∀ w,In F' [] w→In x.F H w)→Tr x.P f all.toArray F' [] (fun v H'=>R v∧H'=[])):Ef x env H ⟨dst,.call ⟨.value p,args.toArray,tys⟩,ty,pos,aft,gd⟩ (fun v H'=>R v∧H'=H):=⟨fun a w he hi=>
 (Ef.callVR (dst:=dst) (tys:=tys) (ty:=ty) (pos:=pos) (aft:=aft) (gd:=gd) hp hargs hall (.nil H) (tr (addF x.F H) (fun _ h=>In.unfocus (H:=[]) hi h))).run a w he hi⟩
def TrY (P:Program) (l:Nat) (vals:List Value) (F:Nat→Option Obj) (H:HL) (R:Value→HL→Prop):Prop:=
 ∀ w,In F H w→∃ fn tmps assign body,(Instr.yield l vals.toArray).run P w=.ok (.round l fn tmps assign body) w∧RoundIn Fence.wide 0 P l fn tmps assign body w (RR F w R)
theorem TrY.mono {P:Program} {l:Nat} {vals:List Value} {F:Nat→Option Obj} {H:HL} {R R':Value→HL→Prop} (h:TrY P l vals F H R) (hr:∀ v H',R v H'→R' v H'):TrY P l vals F H R':=fun w hw=>by
 obtain ⟨fn,tmps,as,bd,h1,h2⟩:=h w hw
 exact ⟨fn,tmps,as,bd,h1,h2.mono fun _ _ ⟨v,H',he,hR,hi,hs⟩=>⟨v,H',he,hr v H' hR,hi,hs⟩⟩
theorem Ef.callY {p:Operand} {l:Nat} {args:List Operand} {tys:Array TypeId} {vals:List Value} {c Hr:HL} {R:Value→HL→Prop} (hp:ev env p=some (.func (.yield l) #[] #[])) (hargs:args.map (ev env)=vals.map some)
 (hs:Sub c H Hr) (tr:(∀ p ∈ Hr,x.F p.1=none)→TrY x.P l vals (addF x.F Hr) c R):Ef x env H ⟨dst,.call ⟨.value p,args.toArray,tys⟩,ty,pos,aft,gd⟩ (fun v H'=>∃ H1,R v H1∧H'=H1++Hr):=⟨fun a w he hi=>by
 have hin:In x.F (c++Hr) w:=hi.perm hs.perm'
 obtain ⟨fn,tmps,as,bd,h1,h2⟩:=tr (fun p hp=>hin.dj p (List.mem_append_right _ hp)) w hin.focus
 have hrun:(execOp a.eval ⟨dst,.call ⟨.value p,args.toArray,tys⟩,ty,pos,aft,gd⟩).run x.P w=.ok (.round l fn tmps as bd) w:=by
  simp [execOp,resolve,he.eval hp,Deferred.ofValue,invoke,args_eval he args vals hargs,h1]
 unfold yields
 rw [hrun]
 refine RoundIn.mono h2 ?_
 rintro e w' ⟨v,H',rfl,hR,hi',hsm⟩
 exact ⟨v,rfl,H'++Hr,⟨H',hR,rfl⟩,hin.unfocus hi',hsm⟩⟩
end
theorem Upd.putObj {w:World} {b:Nat} {o o':Obj} (h:w.heap[b]? = some o):Upd w (w.putObj b o') b o':=by
 have hlt:=(Array.getElem?_eq_some_iff.1 h).1
 exact ⟨⟨rfl,rfl,rfl,by simp,.of (Nat.le_refl _)⟩,World.putObj_heap_same hlt,fun k hk=>World.putObj_heap_other hk⟩
structure LoopOk (r:Loop) (n:Nat) (env:Env) (t:Nat) (assign body:Code):Prop where
 size:r.tmps.size=n
 env:∀ t v,look env t=some v→r.tmps[t]? = some v
 params:r.params = #[t]
 assign:r.assign=assign
 body:r.body=body
 state:r.state=.ready
 pending:r.pending=none
theorem LoopOk.ready {r:Loop} {n:Nat} {env:Env} {t:Nat} {assign body:Code} (h:LoopOk r n env t assign body):({ r with state:=if (none:Option Code).isNone then .ready else .done,pending:=none }:Loop)=r:=by
 cases r; have:=h.state; have:=h.pending; simp_all
theorem LoopOk.again {r:Loop} {n:Nat} {env:Env} {t:Nat} {assign body:Code} (h:LoopOk r n env t assign body):({ state:=.ready,pending:=none,fn:=r.fn,tmps:=r.tmps,params:=r.params,assign:=r.assign,body:=r.body,defers:=r.defers }:Loop)=r:=by
 cases r; have:=h.state; have:=h.pending; simp_all
def AsgK (x:Cx) (l:Nat) (body:Code) (R:Value→HL→Prop):Post:=
 Exit.then (fun a₁ w₁=>∃ w₂,(Instr.beginRound l).run x.P w₁=.ok () w₂∧body.wpIn x.fc 0 x.P (roundPost x.P l (RR x.F x.w0 R)) a₁ w₂) (fun _ _ _=>False)
theorem TrY.of {P:Program} {l:Nat} {v:Value} {F:Nat→Option Obj} {H:HL} {R:Value→HL→Prop} {r:Loop} {n:Nat} {env:Env} {t:Nat} {assign body:Code} (hr:LoopOk r n env t assign body) (ht:Nat.blt t n=true) (hl:∀ w,In F H w→w.heap[l]? = some (.loop r))
 (h:∀ w0,W ⟨P,n,w0,F,some l,[]⟩ (AsgK ⟨P,n,w0,F,some l,[]⟩ l body R) assign ((t,v)::env) H):TrY P l [v] F H R:=fun w hw=>by
 have e:((#[t]:Array Tmp).zip #[v]) = #[(t,v)]:=by simp
 have e2:=run_yield (P:=P) (args:=#[v]) (hl w hw) (by rw [hr.params]; rfl)
 rw [hr.params,e] at e2
 refine ⟨r.fn,r.tmps.setIfInBounds t v,r.assign,r.body,by simpa using e2,?_⟩
 rw [hr.assign,hr.body]
 refine roundIn_of_wpIn trivial ?_
 have hst:St ⟨P,n,w,F,some l,[]⟩ ((t,v)::env) H { tmps:=r.tmps.setIfInBounds t v,defers:=[] } w:=by
  refine ⟨⟨by simp [hr.size],rfl,fun u z hu=>?_⟩,hw,Same.refl w⟩
  · show (r.tmps.setIfInBounds t v)[u]? = some z
    rw [look_cons] at hu
    by_cases hk:t=u
    · subst hk
      simp at hu
      subst hu
      have:t < r.tmps.size:=by rw [hr.size]; exact Nat.le_of_ble_eq_true ht
      simp [this]
    · simp only [if_neg hk] at hu
      rw [Array.getElem?_setIfInBounds_ne hk]
      exact hr.env u z hu
 exact (h w).run _ w hst
section
variable {x:Cx} {K:Post} {env:Env} {H:HL}
theorem Fin.begin {l:Nat} {body:Code} {R:Value→HL→Prop} {r:Loop} {k:Obj→HL} (hf:Foc l (.loop r) H k) (hr:r.state=.ready) (h:W x (roundPost x.P l (RR x.F x.w0 R)) body env (k (.loop { r with state:=.busy }))):Fin x (AsgK x l body R) .normal env H:=
 ⟨fun a _w s=>⟨_,run_beginRound (hf.heap s.hin) hr,h.run a _ ⟨s.ev,s.hin.upd hf (Upd.putObj (hf.heap s.hin)),s.same.trans (Upd.putObj (o':=.loop { r with state:=.busy }) (hf.heap s.hin)).same⟩⟩⟩
theorem Fin.more {l:Nat} {R:Value→HL→Prop} {r:Loop} {k:Obj→HL} {H':HL} (hf:Foc l (.loop r) H k) (hH:∀ w,In x.F (k (.loop { r with state:=.ready,pending:=none })) w→In x.F H' w) (hR:R (.bool true) H'):Fin x (roundPost x.P l (RR x.F x.w0 R)) .normal env H:=
 ⟨fun _ _w s=>⟨_,_,run_endRound none (hf.heap s.hin),_,H',rfl,hR,hH _ (s.hin.upd hf (Upd.putObj (hf.heap s.hin))),s.same.trans (Upd.putObj (o':=.loop { r with state:=.ready,pending:=none }) (hf.heap s.hin)).same⟩⟩
theorem Fin.leaves {l:Nat} {R:Value→HL→Prop} {r:Loop} {k:Obj→HL} {H':HL} (hf:Foc l (.loop r) H k) (hH:∀ w,In x.F (k (.loop { r with state:=.done,pending:=some .ret })) w→In x.F H' w) (hR:R (.bool false) H'):Fin x (roundPost x.P l (RR x.F x.w0 R)) .ret env H:=
 ⟨fun _ _w s=>⟨_,_,run_endRound (some .ret) (hf.heap s.hin),_,H',rfl,hR,hH _ (s.hin.upd hf (Upd.putObj (hf.heap s.hin))),s.same.trans (Upd.putObj (o':=.loop { r with state:=.done,pending:=some .ret }) (hf.heap s.hin)).same⟩⟩
def markD (D:Nat):Deferred:={ target:=.collected D,args:=#[] }
def Cx.marked (x:Cx) (D:Nat):Cx:={ x with df:=markD D::x.df }
def LeftK (x:Cx) (K:Post) (env:Env) (l D:Nat) (H':HL):Prop:=
 ∃ (r:Loop) (Hn:HL),H'.Perm ((l,.loop r)::(D,.deferred (some []))::Hn)∧r.state≠.busy∧
  (match r.pending with
   | none=>Fin (x.marked D) K .normal env ((D,.deferred (some []))::Hn)
   | some c=>W (x.marked D) K c env ((D,.deferred (some []))::Hn))
theorem W.rangeF {g:Operand} {t:Nat} {assign body:Code} {gf:FuncId} {fv cv:List Value} [bd:Body x.P gf] (hrd:x.rd=none) (hg:ev env g=some (.func (.func gf) fv.toArray cv.toArray))
 (call:∀ (l D:Nat) (r:Loop),LoopOk r x.n env t assign body→Tr x.P gf (fv++[Value.func (.yield l) #[] #[]]++cv).toArray x.F ((l,.loop r)::(D,.deferred (some []))::H) (fun _ H'=>LeftK x K env l D H')):W x K (.rangeFunc g #[t] assign body) env H:=⟨fun a w s=>by
 refine wpIn_rangeFunc fun fn _=>?_
 have hro:x.fc.round=none:=hrd
 have hbb:=bd.h
 unfold bodyB at hbb
 cases hf:x.P.funcs[gf]? with
 | none=>simp [hf] at hbb
 | some fn'=>
 rw [hf] at hbb
 simp only [Bool.and_eq_true,Bool.not_eq_true'] at hbb
 obtain ⟨hname,hbody⟩:=hbb
 obtain ⟨c,hc⟩:∃ c,fn'.body=some c:=by cases hb2:fn'.body with | none=>simp [hb2] at hbody | some c=>exact ⟨c,rfl⟩
 have hne:¬ fn'.name = "runtime.NumGoroutine":=by simpa using hname
 let r:Loop:={ state:=.ready,pending:=none,fn:=fn,tmps:=a.tmps,params:=#[t],assign:=assign,body:=body,defers:=w.heap.size }
 let w₁:World:=(w.alloc (.deferred (some []))).alloc (.loop r)
 have hin:In x.F ((w.heap.size+1,.loop r)::(w.heap.size,.deferred (some []))::H) w₁:=by
  have h1:=s.hin.alloc (.deferred (some []))
  have h2:=h1.alloc (.loop r)
  rw [World.size_alloc] at h2
  exact h2
 have hsm:Same w w₁:=(Same.alloc w (.deferred (some []))).trans (Same.alloc _ (.loop r))
 have hr:LoopOk r x.n env t assign body:=⟨s.ev.size,s.ev.env,rfl,rfl,rfl,rfl,rfl⟩
 refine ⟨w.heap.size+1,[markD w.heap.size],w₁,{ target:=.fn (.func gf) cv.toArray,args:=fv.toArray++#[Value.func (.yield (w.heap.size+1)) #[] #[]] },w₁,gf,(fv++[Value.func (.yield (w.heap.size+1)) #[] #[]]++cv).toArray,w₁,?_,?_,fun _ _=>trivial,?_,(fun h=>by cases h),?_⟩
 · rw [hro]; exact run_enterLoop_outer fn a.tmps #[t] assign body
 · show (Deferred.ofValue (a.eval g) _).run x.P w₁=_
   rw [s.ev.eval hg]
   simp [Deferred.ofValue,Act.eval]
 · simp [invoke,callFunc,hf,hne,hc]
 · refine (callsIn_wide (n:=0 - 1)).2 ((call (w.heap.size+1) w.heap.size r hr w₁ hin).mono ?_)
   rintro e w₃ ⟨v,H',rfl,⟨r',Hn,hp,hb,hk⟩,hi,hs⟩
   have hi':=hi.perm hp
   have hl:w₃.heap[w.heap.size+1]? = some (.loop r'):=hi'.own (w.heap.size+1,.loop r') (by simp)
   refine ⟨r'.pending,w₃.putObj (w.heap.size+1) (.loop { r' with state:=.exhausted }),run_endLoop hl hb,?_⟩
   have hfoc:Foc (w.heap.size+1) (.loop r') (((w.heap.size+1),.loop r')::(w.heap.size,.deferred (some []))::Hn) (fun o=>((w.heap.size+1),o)::(w.heap.size,.deferred (some []))::Hn):=Foc.here _
   have hu:=hi'.upd hfoc (Upd.putObj (o':=.loop { r' with state:=.exhausted }) hl)
   have hst:St (x.marked w.heap.size) env ((w.heap.size,.deferred (some []))::Hn) { a with defers:=[markD w.heap.size]++a.defers } (w₃.putObj (w.heap.size+1) (.loop { r' with state:=.exhausted })):=
    ⟨⟨s.ev.size,by show [markD w.heap.size]++a.defers=markD w.heap.size::x.df; rw [s.ev.defers]; rfl,s.ev.env⟩,hu.sublist (List.sublist_cons_self _ _),(s.same.trans hsm).trans (hs.trans (Upd.putObj (o':=.loop { r' with state:=.exhausted }) hl).same)⟩
   generalize (w₃.putObj (w.heap.size+1) (.loop { r' with state:=.exhausted }))=w₄ at hst ⊢
   cases hpd:r'.pending with
   | none=>rw [hpd] at hk; exact hk.run _ _ hst
   | some c=>rw [hpd] at hk; exact hk.run _ _ hst⟩
end
theorem Tr.enterM {P:Program} {f:FuncId} {fn:Func} {c:Code} {n:Nat} {vals:List Value} {F:Nat→Option Obj} {H:HL} {R:Value→HL→Prop}
 (hf:P.funcs[f]? = some fn) (hb:fn.body=some c) (hn:fn.ntmps=n) (hl:Nat.ble vals.length n=true)
 (h:∀ w0,W ⟨P,n,w0,F,none,[]⟩ (bodyPostM Fence.wide 0 P fn (RR F w0 R)) c (argsEnv vals 0) H):Tr P f vals.toArray F H R:=by
 intro w hw
 refine (callsIn_wide (n:=0)).1 (callsIn_of_wp_marks hf hb trivial ((h w).run _ w ⟨⟨?_,rfl,fun t v hv=>?_⟩,hw,Same.refl w⟩))
 · have:=Nat.le_of_ble_eq_true hl
   simp [hn]; omega
 · obtain ⟨_,h2⟩:=look_argsEnv vals 0 t v hv
   simp only [Nat.sub_zero] at h2
   have hlt:t < vals.length:=(List.getElem?_eq_some_iff.1 h2).1
   rw [Array.getElem?_append_left (by simpa using hlt)]
   simpa using h2
theorem Fin.retM0 {x:Cx} {fn:Func} {R:Value→HL→Prop} {env:Env} {H H':HL} {rs:List ResultVar} {vs:List Value} (hr:fn.results=rs.toArray) (h:Res x env H rs vs) (hH:∀ w,In x.F H w→In x.F H' w) (hR:R (tup vs) H') (hd:x.df=[]:=by rfl) :
 Fin x (bodyPostM Fence.wide 0 x.P fn (RR x.F x.w0 R)) .ret env H:=
 ⟨fun a w s=>by
  show LeavesInM Fence.wide 0 x.P fn a.tmps _ a.defers .returning w
  rw [s.ev.defers.trans hd]
  exact ⟨tup vs,results_run s hr h,tup vs,H',rfl,hR,hH w s.hin,s.same⟩⟩
theorem Fin.retM {x:Cx} {fn:Func} {R:Value→HL→Prop} {env:Env} {D:Nat} {H H' Hr:HL} {rs:List ResultVar} {vs:List Value} (hr:fn.results=rs.toArray) (hs:Ext1 (D,.deferred (some [])) H Hr) (h:Res x env Hr rs vs) (hH:∀ w,In x.F Hr w→In x.F H' w) (hR:R (tup vs) H')
 (hd:x.df=[markD D]:=by rfl):Fin x (bodyPostM Fence.wide 0 x.P fn (RR x.F x.w0 R)) .ret env H:=
 ⟨fun a w s=>by
  show LeavesInM Fence.wide 0 x.P fn a.tmps _ a.defers .returning w
  rw [s.ev.defers.trans hd]
  have hi:=s.hin.perm hs.perm
  have hD:w.heap[D]? = some (.deferred (some [])):=hi.own (D,.deferred (some [])) (by simp)
  have hu:=hi.upd (Foc.here _) (Upd.putObj (o':=.deferred none) hD)
  have s':St x env Hr a (w.putObj D (.deferred none)):=⟨s.ev,hu.sublist (List.sublist_cons_self _ _),s.same.trans (Upd.putObj (o':=.deferred none) hD).same⟩
  exact ⟨by simp,.inl ⟨D,_,rfl,run_takeDeferred hD,tup vs,results_run s' hr h,tup vs,H',rfl,hR,hH _ s'.hin,s'.same⟩⟩⟩
theorem Tr.beside {P:Program} {f:FuncId} {args:Array Value} {F:Nat→Option Obj} {c H Hr:HL} {R:Value→HL→Prop} (hs:Sub c H Hr) (h:(∀ p ∈ Hr,F p.1=none)→Tr P f args (addF F Hr) c R):Tr P f args F H (fun v H'=>∃ H1,R v H1∧H'=H1++Hr):=fun w hw=>by
 have hin:=hw.perm hs.perm'
 exact ((h (fun p hp=>hin.dj p (List.mem_append_right _ hp))).frame hin).mono fun _ _ ⟨v,H',he,hR,hi,hsm⟩=>⟨v,H'++Hr,he,⟨H',hR,rfl⟩,hi,hsm⟩
end Go.Sl
namespace Go.Sl
open Go
section
variable {x:Cx} {K:Post} {env:Env} {H Hc:HL} {ops:Array Oper}
theorem WL.pA {rest:List Oper} {d:Nat} {op:Op} {ty:TypeId} {pos:String} {aft:Array Edge} {v:Value} (next:WL x K ops rest ((d,v)::env) H) (hn:Nat.blt d x.n=true:=by exact rfl) (h:Pu x env ⟨some d,op,ty,pos,aft,none⟩ v:=by first | exact Pu.mv rfl | exact Pu.asg rfl | exact Pu.fa rfl | exact Pu.bin rfl rfl rfl | exact Pu.ext rfl rfl | exact Pu.nilCk rfl | exact Pu.notB rfl | exact Pu.pick_t rfl rfl | exact Pu.pick_f rfl rfl | exact Pu.cvI rfl | exact Pu.lenS rfl | exact Pu.fv rfl rfl | exact Pu.fva rfl rfl | exact Pu.eqB rfl rfl | exact Pu.eqN rfl rfl | exact Pu.neN rfl rfl | exact Pu.neB rfl rfl | exact Pu.eqSN rfl rfl | exact Pu.neSN rfl rfl | exact Pu.bld rfl rfl | exact Pu.min2 rfl rfl | exact Pu.xorU rfl | exact Pu.shr rfl rfl (by decide) | exact Pu.ia rfl rfl (by assumption) | exact Pu.mkF rfl rfl):WL x K ops (⟨some d,op,ty,pos,aft,none⟩::rest) env H:=WL.p hn h next
theorem WD.pA {rest:List Tg} {i:Nat} {nc:Bool} {d:Nat} {op:Op} {ty:TypeId} {pos:String} {aft:Array Edge} {v:Value} (next:WD x Hc K ops rest ((d,v)::env) H) (hn:Nat.blt d x.n=true:=by exact rfl) (h:Pu x env ⟨some d,op,ty,pos,aft,none⟩ v:=by first | exact Pu.mv rfl | exact Pu.asg rfl | exact Pu.fa rfl | exact Pu.bin rfl rfl rfl | exact Pu.ext rfl rfl | exact Pu.nilCk rfl | exact Pu.notB rfl | exact Pu.pick_t rfl rfl | exact Pu.pick_f rfl rfl | exact Pu.cvI rfl | exact Pu.lenS rfl | exact Pu.fv rfl rfl | exact Pu.fva rfl rfl | exact Pu.eqB rfl rfl | exact Pu.eqN rfl rfl | exact Pu.neN rfl rfl | exact Pu.neB rfl rfl | exact Pu.eqSN rfl rfl | exact Pu.neSN rfl rfl | exact Pu.bld rfl rfl | exact Pu.min2 rfl rfl | exact Pu.xorU rfl | exact Pu.shr rfl rfl (by decide) | exact Pu.ia rfl rfl (by assumption) | exact Pu.mkF rfl rfl):WD x Hc K ops (⟨.p,i,⟨some d,op,ty,pos,aft,none⟩,nc⟩::rest) env H:=WD.p hn h next
theorem WL.sA {rest:List Oper} {d:Nat} {op:Op} {ty:TypeId} {pos:String} {aft:Array Edge} {v:Value} (next:WL x K ops rest ((d,v)::env) H) (hn:Nat.blt d x.n=true:=by exact rfl) (h:Rd x env H ⟨some d,op,ty,pos,aft,none⟩ v:=by first | exact Rd.ld rfl (by (repeat (first | exact CellAt.here rfl | exact CellAt.here (by assumption) | apply CellAt.there | apply CellAt.right)); first | done | fail) | exact Rd.lda rfl (by (repeat (first | exact CutAt.here rfl | apply CutAt.there | apply CutAt.right)); first | done | fail) | exact Rd.ldC rfl (by assumption) | exact Rd.ldaC rfl rfl (by assumption) | exact Rd.ldC0 rfl (by assumption) | exact Rd.ldaC0 rfl (by assumption) (by exact rfl) | exact Pu.rd (Pu.cvI rfl) | exact Pu.rd (Pu.lenS rfl)):WL x K ops (⟨some d,op,ty,pos,aft,none⟩::rest) env H:=WL.s hn h next
theorem WD.sA {rest:List Tg} {i:Nat} {nc:Bool} {d:Nat} {op:Op} {ty:TypeId} {pos:String} {aft:Array Edge} {v:Value} (next:WD x Hc K ops rest ((d,v)::env) H) (hn:Nat.blt d x.n=true:=by exact rfl) (h:Rd x env Hc ⟨some d,op,ty,pos,aft,none⟩ v:=by first | exact Rd.ld rfl (by (repeat (first | exact CellAt.here rfl | exact CellAt.here (by assumption) | apply CellAt.there | apply CellAt.right)); first | done | fail) | exact Rd.lda rfl (by (repeat (first | exact CutAt.here rfl | apply CutAt.there | apply CutAt.right)); first | done | fail) | exact Rd.ldC rfl (by assumption) | exact Rd.ldaC rfl rfl (by assumption) | exact Rd.ldC0 rfl (by assumption) | exact Rd.ldaC0 rfl (by assumption) (by exact rfl) | exact Pu.rd (Pu.cvI rfl) | exact Pu.rd (Pu.lenS rfl)):WD x Hc K ops (⟨.s,i,⟨some d,op,ty,pos,aft,none⟩,nc⟩::rest) env H:=WD.s hn h next
theorem WL.aA {rest:List Oper} {d:Nat} {op:Op} {ty:TypeId} {pos:String} {aft:Array Edge} {V:Nat→Value} {G:Nat→HL} (next:∀ b,WL x K ops rest ((d,V b)::env) (G b)) (hn:Nat.blt d x.n=true:=by exact rfl) (h:Ef x env H ⟨some d,op,ty,pos,aft,none⟩ (fun v H'=>∃ b,v=V b∧H'=G b):=by first | exact Ef.al | exact Ef.bxa rfl | exact Ef.bx rfl rfl | exact Ef.bs0 | exact Ef.bs1 rfl rfl (by exact rfl) (by exact rfl) (by exact rfl) (by exact rfl) | exact Ef.mkMap):WL x K ops (⟨some d,op,ty,pos,aft,none⟩::rest) env H:=
 WL.e hn h (fun _ _ ⟨b,h1,h2⟩=>by subst h1 h2; exact next b)
theorem WD.aA {rest:List Tg} {i:Nat} {nc:Bool} {d:Nat} {op:Op} {ty:TypeId} {pos:String} {aft:Array Edge} {V:Nat→Value} {G:Nat→HL} (next:∀ b,WD x Hc K ops rest ((d,V b)::env) (G b)) (hn:Nat.blt d x.n=true:=by exact rfl) (h:Ef x env H ⟨some d,op,ty,pos,aft,none⟩ (fun v H'=>∃ b,v=V b∧H'=G b):=by first | exact Ef.al | exact Ef.bxa rfl | exact Ef.bx rfl rfl | exact Ef.bs0 | exact Ef.bs1 rfl rfl (by exact rfl) (by exact rfl) (by exact rfl) (by exact rfl) | exact Ef.mkMap)
 (hk:∀ b,nc=false∨∀ w,In x.F (G b) w→In x.F Hc w:=by intro b; first | (refine Or.inr (fun _ h=>h.sublist ?_); (repeat (first | exact List.Sublist.refl _ | refine List.Sublist.cons_cons _ ?_ | refine List.Sublist.cons _ ?_)); first | done | fail) | exact Or.inl (by kernel_rfl)):WD x Hc K ops (⟨.e,i,⟨some d,op,ty,pos,aft,none⟩,nc⟩::rest) env H:=
 WD.e hn h (fun _ _ ⟨b,h1,h2⟩=>by subst h1 h2; exact ⟨hk b,next b⟩)
theorem WL.e0A {rest:List Oper} {op:Op} {ty:TypeId} {pos:String} {aft:Array Edge} {H1:HL} (next:WL x K ops rest env H1) (h:Ef x env H ⟨none,op,ty,pos,aft,none⟩ (fun v H'=>v=undef∧H'=H1):=by first | exact Ef.st rfl rfl rfl (by (repeat (first | exact PutAt.here rfl | exact PutAt.here (by assumption) | apply PutAt.there | apply PutAt.right)); first | done | fail) | exact Ef.sta rfl rfl rfl rfl (by (repeat (first | exact PutAt.here rfl | exact PutAt.here (by assumption) | apply PutAt.there | apply PutAt.right)); first | done | fail)):WL x K ops (⟨none,op,ty,pos,aft,none⟩::rest) env H:=
 WL.e0 h (fun _ _ ⟨_,h2⟩=>by subst h2; exact next)
theorem WD.e0A {rest:List Tg} {i:Nat} {nc:Bool} {op:Op} {ty:TypeId} {pos:String} {aft:Array Edge} {H1:HL} (next:WD x Hc K ops rest env H1) (h:Ef x env H ⟨none,op,ty,pos,aft,none⟩ (fun v H'=>v=undef∧H'=H1):=by first | exact Ef.st rfl rfl rfl (by (repeat (first | exact PutAt.here rfl | exact PutAt.here (by assumption) | apply PutAt.there | apply PutAt.right)); first | done | fail) | exact Ef.sta rfl rfl rfl rfl (by (repeat (first | exact PutAt.here rfl | exact PutAt.here (by assumption) | apply PutAt.there | apply PutAt.right)); first | done | fail))
 (hk:nc=false∨∀ w,In x.F H1 w→In x.F Hc w:=by first | (refine Or.inr (fun _ h=>h.sublist ?_); (repeat (first | exact List.Sublist.refl _ | refine List.Sublist.cons_cons _ ?_ | refine List.Sublist.cons _ ?_)); first | done | fail) | exact Or.inl (by kernel_rfl)):WD x Hc K ops (⟨.e,i,⟨none,op,ty,pos,aft,none⟩,nc⟩::rest) env H:=
 WD.e0 h (fun _ _ ⟨_,h2⟩=>by subst h2; exact ⟨hk,next⟩)
theorem W.drawA {id:Nat} {l:List Oper} (h:WD x H K l.toArray (tags l) env H) (hm:x.P.follows .mixedOrders=true:=by kernel_rfl) (hB:mixB l=true:=by kernel_rfl):W x K (.region id l.toArray true) env H:=W.draw H hm hB (fun _ h=>h) h
end
theorem S1 {g n:Prop} (h:n) (s:n→g:=by first
 | exact W.seq | exact W.region | exact W.block | exact W.skip | exact W.exit | exact W.ret | exact W.cond_t rfl | exact W.cond_f rfl | exact WL.nil | exact WD.nil | exact Fin.next | exact Fin.seq_exit | exact Fin.seq_ret | exact Fin.then_exit | exact Fin.then_ret | exact Fin.block_normal | exact Fin.block_ret | exact Fin.block_exit | exact Fin.block_other rfl
 | exact fun h=>WL.pA h | exact fun h=>WD.pA h | exact fun h=>WL.sA h | exact fun h=>WD.sA h | exact WL.g_yes rfl rfl | exact WL.g_no rfl rfl rfl rfl | exact WL.g_undef rfl rfl rfl | exact WD.g_yes rfl rfl | exact WD.g_no rfl rfl rfl rfl | exact WD.g_undef rfl rfl rfl
 | exact fun h=>WL.e0A h | exact fun h=>WD.e0A h):g:=s h
theorem SA {g:Prop} {n:Nat→Prop} (h:∀ b,n b) (s:(∀ b,n b)→g:=by first | exact fun h=>WL.aA h | exact fun h=>WD.aA h):g:=s h
theorem envA {small big:Env} (h:subEnv small big:=by repeat (first | exact subEnv.nil | refine subEnv.cons rfl ?_)):∀ t v,look small t=some v→look big t=some v:=sub_of h
theorem findA {α:Type} {l m:List α} (h:l.Sublist m:=by repeat (first | exact List.Sublist.refl _ | exact List.sublist_append_left _ _ | refine List.Sublist.cons _ ?_ | refine List.Sublist.trans ?_ (List.sublist_append_right _ _))):l.Sublist m:=h
theorem subA {c H Hr:HL} (h:Sub c H Hr:=by repeat' (first | exact Sub.nil _ | exact Ext1.here | exact ExtL.here | apply Sub.pick | apply Sub.pickL | apply Sub.last | apply Ext1.there | apply ExtL.there | apply Ext1.right | apply ExtL.right | exact ExtL.all)):Sub c H Hr:=h
theorem resA {x:Cx} {env:Env} {H:HL} {rs:List ResultVar} {vs:List Value} (h:Res x env H rs vs:=by repeat' (first | exact Res.nil | exact rfl | exact CutAt.here rfl | exact CellAt.here rfl | apply CutAt.there | apply CellAt.there | apply CutAt.right | apply CellAt.right | apply Res.tmp | apply Res.agg' | apply Res.cell')):Res x env H rs vs:=h
theorem weakA {F:Nat→Option Obj} {H H':HL} (h:H'.Sublist H:=by repeat (first | exact List.Sublist.refl _ | refine List.Sublist.cons_cons _ ?_ | refine List.Sublist.cons _ ?_)):∀ w,In F H w→In F H' w:=fun _ hi=>hi.sublist h
end Go.Sl
namespace Go.Sl
open Go
section
variable {x:Cx} {env:Env} {H:HL} {dst:Option Tmp} {ty:TypeId} {pos:String} {aft:Array Edge} {gd:Option (Nat × Bool)}
theorem Pu.iaA {T:TypeId} {n e sz:Nat} {p q:Operand} {b off:Nat} {k:IntKind} {i:Int} [at_:ArrT x.P T n e sz] (hp:ev env p=some (.pointer (some ⟨b,off,none⟩))) (hq:ev env q=some (.int k i)) (h0:0≤i∧i < n) :
 Pu x env ⟨dst,.indexAddr T p q,ty,pos,aft,gd⟩ (.pointer (some ⟨b,off+i.toNat * sz,none⟩)):=⟨fun a he w=>by
 have hi:=at_.i
 cases hq2:x.P.info? e with
 | none=>simp [hq2] at hi
 | some inf=>
   have hs:inf.size=sz:=by have:=hi; simp [hq2] at this; exact this
   have hadd:(⟨b,off,none⟩:Addr).add (i.toNat * sz)=⟨b,off+i.toNat * sz,none⟩:=by
    unfold Addr.add; split <;> simp_all
   simp [execOp,he.eval hp,he.eval hq,Instr.indexAt,asIntOf,run_underlying at_.h,h0,sizeOf,typeInfo,hq2,hs,hadd,Instr.sureAddr]⟩
theorem Pu.max2 {T T':TypeId} {p q:Operand} {k:IntKind} {m n:Int} (hp:ev env p=some (.int k m)) (hq:ev env q=some (.int k n)) :
 Pu x env ⟨dst,.call ⟨.builtin .max,#[p,q],#[T,T']⟩,ty,pos,aft,gd⟩ (.int k (if n > m then n else m)):=⟨fun a he w=>by
 simp [execOp,resolve,invoke,builtin,he.eval hp,he.eval hq,Builtin.max_,Builtin.max2]⟩
end
section
variable {x:Cx} {env:Env} {H:HL} {dst:Option Tmp} {ty:TypeId} {pos:String} {aft:Array Edge} {gd:Option (Nat × Bool)}
theorem Ef.look {f:FuncId} {args:List Operand} {tys:Array TypeId} {vals:List Value} {R:Value→HL→Prop} [bd:Body x.P f] (hargs:args.map (ev env)=vals.map some)
 (tr:∀ F',(∀ w,In F' [] w→In x.F H w)→Tr x.P f vals.toArray F' [] R):Ef x env H ⟨dst,.call ⟨.value (.func f),args.toArray,tys⟩,ty,pos,aft,gd⟩ (fun v H'=>∃ H1,R v H1∧H'=H1++H):=⟨fun a w he hi=>
 (Ef.call (dst:=dst) (tys:=tys) (ty:=ty) (pos:=pos) (aft:=aft) (gd:=gd) hargs (.nil H) (tr (addF x.F H) (fun _ h=>In.unfocus (H:=[]) hi h))).run a w he hi⟩
theorem Ef.lookR {f:FuncId} {args:List Operand} {tys:Array TypeId} {vals:List Value} {R:Value→Prop} [bd:Body x.P f] (hargs:args.map (ev env)=vals.map some)
 (tr:∀ F',(∀ w,In F' [] w→In x.F H w)→Tr x.P f vals.toArray F' [] (fun v H'=>R v∧H'=[])):Ef x env H ⟨dst,.call ⟨.value (.func f),args.toArray,tys⟩,ty,pos,aft,gd⟩ (fun v H'=>R v∧H'=H):=⟨fun a w he hi=>
 (Ef.callR (dst:=dst) (tys:=tys) (ty:=ty) (pos:=pos) (aft:=aft) (gd:=gd) hargs (.nil H) (tr (addF x.F H) (fun _ h=>In.unfocus (H:=[]) hi h))).run a w he hi⟩
end
theorem OwnS.empty (E sz b:Nat):OwnS E sz [] (.slice (some ⟨b,0,none⟩) 0 0) [(b,.cells ([]:List Value).toArray E (0,0))]:=
 .inr ⟨b,0,0,[],[],[],rfl,rfl,by simp,Nat.le_refl _,by simp,by decide⟩
theorem OwnS.shape {E sz:Nat} {xs:List Value} {v:Value} {hb:HL} (h:OwnS E sz xs v hb):∃ sa sn sc,v=.slice sa sn sc∧xs.length=sn * sz∧sn≤sc:=by
 rcases h with ⟨rfl,rfl,_⟩ | ⟨g,n,cap,pre,spare,post,rfl,_,hl,hc,_⟩
 · exact ⟨none,0,0,rfl,by simp,Nat.le_refl _⟩
 · exact ⟨_,n,cap,rfl,hl,hc⟩
theorem Src.mono {F F':Nat→Option Obj} {H H':HL} {v:Value} {m:Nat} {news:List Value} (hs:Src F H v m news) (hw:∀ w,In F' H' w→In F H w):Src F' H' v m news:=
 hs.imp id fun ⟨a,c,h1,h2⟩=>⟨a,c,h1,fun w hi=>h2 w (hw w hi)⟩
theorem B_one (bs:List UInt8):∀ u ∈ bs.map B,u.oneCell'=true:=fun u hu=>by
 obtain ⟨b,_,rfl⟩:=List.mem_map.1 hu; rfl
theorem OwnS.tail {E sz:Nat} {x xs:List Value} {ra:Option Addr} {rn rc:Nat} {hb:HL} (hx:x.length=sz) (hsz:0 < sz) (h:OwnS E sz (x++xs) (.slice ra rn rc) hb) :
 OwnS E sz xs (.slice (if rc=(1:Int).toNat then ra else ra.map (·.add ((1:Int).toNat * sz))) (rn - (1:Int).toNat) (rc - (1:Int).toNat)) hb:=by
 rcases h with ⟨he,hn,_⟩ | ⟨g,n,cap,pre,spare,post,he,rfl,hl,hc,hsp,hm⟩
 · simp at hn; rw [hn.1] at hx; simp at hx; omega
 · cases he
   have hn1:1≤rn:=by
    rcases Nat.eq_zero_or_pos rn with h0 | h0
    · subst h0; rw [Nat.zero_mul,List.length_append] at hl; omega
    · exact h0
   have hxs:xs.length=(rn - 1) * sz:=by
    rw [Nat.sub_mul,←hl]; simp; omega
   have e1:(1:Int).toNat=1:=rfl
   simp only [e1,Nat.one_mul]
   by_cases h1:rc=1
   · have hr1:rn=1:=by omega
     rw [if_pos h1]
     subst h1 hr1
     have hx0:xs=[]:=List.eq_nil_of_length_eq_zero (by simpa using hxs)
     have hs0:spare=[]:=List.eq_nil_of_length_eq_zero (by simpa using hsp)
     subst hx0 hs0
     exact .inr ⟨g,0,0,pre,[],x++post,rfl,by simp,by simp,Nat.le_refl _,by simp,by unfold maxLen; omega⟩
   · rw [if_neg h1]
     refine .inr ⟨g,rn - 1,rc - 1,pre++x,spare,post,?_,by simp,hxs,by omega,?_,by omega⟩
     · simp [add_lit,hx]
     · rw [hsp]; congr 1; omega
theorem OwnS.src {E sz:Nat} {F:Nat→Option Obj} {H:HL} {xs:List Value} {sa:Option Addr} {sn sc:Nat} {hb:HL} (h:OwnS E sz xs (.slice sa sn sc) hb) (hw:∀ w,In F H w→In F hb w):Src F H (.slice sa sn sc) sn xs:=by
 rcases h with ⟨he,rfl,_⟩ | ⟨g,n,cap,pre,spare,post,he,rfl,hl,hc,hsp,hm⟩
 · cases he; exact .inl ⟨0,rfl,rfl,rfl⟩
 · cases he
   refine .inr ⟨_,_,rfl,fun w hi j u hu=>?_⟩
   have hj:j < xs.length:=(List.getElem?_eq_some_iff.1 hu).1
   have hg:=(hw w hi).own _ (List.mem_cons_self ..)
   rw [add_lit,cell_of_row w g _ _ E _ hg]
   simp only [List.getElem?_toArray,List.append_assoc]
   rw [List.getElem?_append_right (by omega),Nat.add_sub_cancel_left,List.getElem?_append_left hj]
   exact hu
theorem i64_id {n:Int} (h1:-9223372036854775808≤n) (h2:n≤9223372036854775807):IntKind.i64.wrap n=n:=by
 simp only [IntKind.wrap,IntKind.bits,IntKind.signed]
 simp
 omega
theorem flat_at {α:Type} (f:α→List Value) (sz:Nat) (hf:∀ a,(f a).length=sz):∀ (l:List α) (i:Nat) (a:α),l[i]? = some a→((l.flatMap f).drop (i * sz)).take sz=f a
 | [],_,_,h=>by simp at h
 | b::l,0,a,h=>by
   simp at h; subst h
   rw [List.flatMap_cons,Nat.zero_mul,List.drop_zero,←hf b,List.take_left']
   rfl
 | b::l,i+1,a,h=>by
   rw [List.getElem?_cons_succ] at h
   rw [List.flatMap_cons,List.drop_append,List.drop_eq_nil_of_le (by rw [hf,Nat.succ_mul]; omega),List.nil_append,hf,Nat.succ_mul,Nat.add_sub_cancel,flat_at f sz hf l i a h]
theorem flat_len' {α:Type} (f:α→List Value) (sz:Nat) (hf:∀ a,(f a).length=sz) (l:List α):(l.flatMap f).length=l.length * sz:=by
 induction l with
 | nil=>simp
 | cons a l ih=>rw [List.flatMap_cons,List.length_append,hf,ih,List.length_cons,Nat.succ_mul]; omega
theorem i64_succ {i:Nat} (h:i≤1000000000000):IntKind.i64.wrap ((i:Int)+1)=((i+1:Nat):Int):=by rw [i64_id (by omega) (by omega)]; omega
theorem fill_W {place:Nat→Option (Nat × Nat)} {pl:List (Nat × Nat)} (hpl:∀ i q,pl[i]? = some q→place i=some q):∀ (parts:List (Nat × Value)) (cells r:List Value),fillK pl parts cells=some r→Instr.fill place cells.toArray parts=some r.toArray
 | [],cells,r,h=>by simp [fillK] at h; subst h; rfl
 | (i,v)::rest,cells,r,h=>by
   rw [fillK] at h
   cases hp:pl[i]? with
   | none=>simp [hp] at h
   | some q=>
     obtain ⟨off,size⟩:=q
     simp only [hp] at h
     cases hb:Nat.beq v.cells.size size with
     | false=>simp [hb] at h
     | true=>
       simp only [hb] at h
       cases hs:spliceK cells off v.cells.toList some with
       | none=>simp [hs] at h
       | some r'=>
         simp only [hs] at h
         rw [fill_one (hpl i _ hp) (Nat.eq_of_beq_eq_true hb) hs]
         exact fill_W hpl rest r' r h
section
variable {x:Cx} {env:Env} {H:HL} {dst:Option Tmp} {ty:TypeId} {pos:String} {aft:Array Edge} {gd:Option (Nat × Bool)}
theorem Ef.bsN {T E sz by_ n:Nat} {z:List Value} {parts:List (Nat × Operand)} {vals:List (Nat × Value)} {r:List Value} [st:SliceT x.P T E sz by_] [zt:ZeroT x.P E z] (hz:z.length=sz) (hsz:Nat.blt 0 sz=true) (hn:Nat.blt 0 n=true) (hsm:Nat.ble (n * sz) 16777216=true)
 (hv:evalP env parts=some vals) (hr:fillK ((List.range n).map (fun i=>(i * sz,sz))) vals (mkCells z n)=some r) :
 Ef x env H ⟨dst,.buildSlice T n parts.toArray,ty,pos,aft,gd⟩ (fun v H'=>∃ b,v=.slice (some ⟨b,0,none⟩) n n∧H'=(b,.cells r.toArray E (0,0))::H):=⟨fun a w he hi=>by
 have hst:=st.i
 have hzt:=zt.h
 cases hinf:x.P.info? E with
 | none=>simp [hinf] at hst
 | some i=>
 simp only [hinf,Option.map_some,Option.some.injEq,Prod.mk.injEq] at hst
 cases hzz:i.zero with
 | none=>simp [hinf,hzz] at hzt
 | some zv=>
 have hzc:zv.cells=z.toArray:=by simpa [hinf,hzz] using hzt
 have h0:=Nat.le_of_ble_eq_true hsz
 have h1:=Nat.le_of_ble_eq_true hn
 have hpos:n * sz≠0:=Nat.mul_ne_zero (by omega) (by omega)
 have hbig:¬ 16777216 < n * sz:=by have:=Nat.le_of_ble_eq_true hsm; omega
 refine yields_of_run (v:=.slice (some ⟨w.heap.size,0,none⟩) n n) (w':=w.alloc (.cells r.toArray E)) ?_ ⟨_,⟨_,rfl,rfl⟩,hi.alloc _,Same.alloc w _⟩
 have hpe:=parts_eval he parts vals hv
 have hparts:(parts.toArray.map fun (p:Nat × Operand)=>(p.1,a.eval p.2)).toList=vals:=by simpa using hpe
 have hfill:=fill_W (place:=fun i=>some (i * sz,sz)) (fun i q h=>by
  rw [List.getElem?_map] at h
  by_cases hi:i < n
  · rw [List.getElem?_range hi] at h; simpa using h
  · rw [List.getElem?_eq_none (by simpa using hi)] at h; cases h) vals (mkCells z n) r hr
 have hmade:=madeCells_eq z (by omega) n
 unfold madeCells at hmade
 rw [hz] at hmade
 simp only [execOp,Instr.buildSlice,Sem.run_bind,run_underlying st.h,Result.andThen_ok,sizeOf,typeInfo,run_program,hinf,Sem.run_pure,hst.1]
 rw [if_neg (by simpa using hbig)]
 simp only [Sem.run_pure,Result.andThen_ok,if_neg hpos,zeroValue,typeInfo,Sem.run_bind,run_program,hinf,hzz,hzc]
 rw [hmade,hparts,hfill]
 simp [newRow]⟩
end
end Go.Sl
