/- Some texts as one. A sender's state that is well formed, in plain Lean: what is done keeps it so. No conditions: definitions and laws. What is forwarded over: the skips of streams, in plain Lean. No conditions: laws only. What is forwarded over: Make and Cut, walked. Conditions: what they are handed can be read. The document's Make and Cut of what is forwarded over, walked: they answer as the plain functions do. Conditions: what they are handed can be read. -/
import Derived.Test.YtlfpemmdehmbfaaGreatBuJ
import Derived.Test.YtlfpemmdehmbfaaGreatBuD
import Derived.Test.YtlfpemmdehmbfaaGreatBuH
import Derived.Test.YtlfpemmdehmbfaaGreatBuI
namespace Go.Snd
open Go Go.Pth
def atR (a:Int):Prop:=0≤a∧a≤2305843009213693952
theorem clock_at (now:Int):atR (clock now):=clock_rng now
def atT (t:Flt.Tld):Prop:=atR t.p0.at_∧atR t.p1.at_∧atR t.p2.at_∧atR t.p3.at_
theorem atR_zero:atR 0:=⟨by omega,by omega⟩
theorem upd_at {t:Flt.Tld} (h:atT t) {p:Int} {f:Flt.PT→Flt.PT} (hf:∀ q,atR q.at_→atR (f q).at_):atT (t.upd p f):=by
 obtain ⟨h0,h1,h2,h3⟩:=h
 unfold Flt.Tld.upd
 split
 · exact ⟨hf _ h0,h1,h2,h3⟩
 · split
   · exact ⟨h0,hf _ h1,h2,h3⟩
   · split
     · exact ⟨h0,h1,hf _ h2,h3⟩
     · exact ⟨h0,h1,h2,hf _ h3⟩
def AtK (L:List Flt.Rc) (t:Flt.Tld):Prop:=(∀ r ∈ L,atR r.at_)∧atT t
theorem ack1_at {low:Flt.Q4 (Option Nat)} {k:Flt.AK} (h:AtK k.L k.t) (i:Nat):AtK (Flt.ack1 low k i).L (Flt.ack1 low k i).t:=by
 unfold Flt.ack1
 split
 · exact h
 · rename_i r hr
   split
   · exact h
   · refine ⟨fun q hq=>?_,upd_at h.2 (fun q hq=>?_)⟩
     · rcases List.mem_or_eq_of_mem_set hq with hq | rfl
       · exact h.1 q hq
       · exact h.1 r (List.mem_of_getElem? hr)
     · unfold Flt.takeP
       dsimp only
       split
       · exact hq
       · exact h.1 r (List.mem_of_getElem? hr)
theorem ackR_at {low:Flt.Q4 (Option Nat)} (a:Nat):∀ (n:Nat) {k:Flt.AK},AtK k.L k.t→AtK (Flt.ackR low k a n).L (Flt.ackR low k a n).t
 | 0,_,h=>h
 | n+1,k,h=>by rw [Flt.ackR_succ]; exact ack1_at (ackR_at a n h) _
theorem ackAll_at {low:Flt.Q4 (Option Nat)}:∀ (sp:List (Nat × Nat)) {k:Flt.AK},AtK k.L k.t→AtK (Flt.ackAll low k sp).L (Flt.ackAll low k sp).t
 | [],_,h=>h
 | g::sp,k,h=>by
   show AtK (Flt.ackAll low (Flt.ackR low k g.1 (g.2 - g.1)) sp).L _
   exact ackAll_at sp (ackR_at _ _ h)
theorem miss1_at (high:Flt.Q4 Int) {x:List Flt.Rc × Flt.Tld} (h:AtK x.1 x.2) (i:Nat):AtK (Flt.miss1 high x i).1 (Flt.miss1 high x i).2:=by
 unfold Flt.miss1
 split
 · exact h
 · rename_i r hr
   split
   · refine ⟨fun q hq=>?_,?_⟩
     · rcases List.mem_or_eq_of_mem_set hq with hq | rfl
       · exact h.1 q hq
       · have:=h.1 r (List.mem_of_getElem? hr)
         unfold Flt.missR
         split <;> exact this
     · dsimp only
       split
       · exact upd_at h.2 (fun q hq=>hq)
       · exact h.2
   · exact h
theorem missF_at (high:Flt.Q4 Int) {x:List Flt.Rc × Flt.Tld} (h:AtK x.1 x.2):∀ n,AtK ((List.range n).foldl (Flt.miss1 high) x).1 ((List.range n).foldl (Flt.miss1 high) x).2
 | 0=>h
 | n+1=>by rw [Flt.miss_snoc]; exact miss1_at high (missF_at high h n) n
structure FOk (f:Flt.S):Prop where
 g:Flt.Good f
 ats:∀ r ∈ f.L,atR r.at_
 bytes:∀ r ∈ f.L,r.bs.length≤1500
theorem sum_le {α:Type} {g:α→Nat} {b:Nat}:∀ {l:List α},(∀ a ∈ l,g a≤b)→(l.map g).sum≤b * l.length
 | [],_=>by simp
 | a::l,h=>by
   have h1:=h a List.mem_cons_self
   have h2:=sum_le (l:=l) (fun x hx=>h x (List.mem_cons_of_mem _ hx))
   rw [List.map_cons,List.sum_cons,List.length_cons,Nat.mul_succ]
   omega
theorem FOk.small {f:Flt.S} (h:FOk f) (q:Flt.Rc→Bool):Flt.sumB q f.L≤3072000:=by
 unfold Flt.sumB
 have h1:=sum_le (g:=fun r:Flt.Rc=>r.bs.length) (b:=1500) (l:=f.L.filter q) (fun r hr=>h.bytes r (List.mem_filter.1 hr).1)
 have h2:=List.length_filter_le q f.L
 have h3:=h.g.few
 omega
theorem bytes_k {L M:List Flt.Rc} (h:L.map Flt.Rc.k=M.map Flt.Rc.k) {b:Nat} (hm:∀ r ∈ M,r.bs.length≤b):∀ r ∈ L,r.bs.length≤b:=fun r hr=>by
 obtain ⟨i,hi⟩:=List.getElem?_of_mem hr
 obtain ⟨q,hq,h1,_⟩:=Flt.k_get h hi
 have:=hm q (List.mem_of_getElem? hq)
 rw [show r.bs=q.bs from congrArg Flt.Dt.bs h1]
 exact this
theorem FOk.sack {f f':Flt.S} (h:FOk f) {y:Int} (hy:0≤y∧y < 4294967296) {gs:List (Nat × Nat)} {t:Flt.Tld} (hs:Flt.sack f y gs=some (f',t)):FOk f'∧atT t∧t.nn∧f'.paths=f.paths∧f'.c=y:=by
 have g:=h.g.sack hy hs
 have hn:=(Flt.sack_pot (by have:=h.small Flt.low1; omega) hs).1
 obtain ⟨M,hM,rfl,_⟩:=Flt.sack_L hs
 obtain ⟨sp,_,h1,h2⟩:=Flt.sack_some hs
 have k0:AtK f.L Flt.Tld.zero:=⟨h.ats,atR_zero,atR_zero,atR_zero,atR_zero⟩
 have k1:=ackAll_at (low:=Flt.lowQ f.L) sp (k:=⟨f.L,Flt.Tld.zero,⟨-1,-1,-1,-1⟩⟩) k0
 have k2:=missF_at (Flt.ackAll (Flt.lowQ f.L) ⟨f.L,Flt.Tld.zero,⟨-1,-1,-1,-1⟩⟩ sp).high (x:=(_,_)) k1 ((Flt.ackAll (Flt.lowQ f.L) ⟨f.L,Flt.Tld.zero,⟨-1,-1,-1,-1⟩⟩ sp).L,(Flt.ackAll (Flt.lowQ f.L) ⟨f.L,Flt.Tld.zero,⟨-1,-1,-1,-1⟩⟩ sp).t).1.length
 refine ⟨⟨g,fun r hr=>?_,fun r hr=>bytes_k hM h.bytes r (List.mem_of_mem_drop hr)⟩,by rw [h2]; exact k2.2,hn,rfl,rfl⟩
 have hL:=congrArg Flt.S.L h1
 dsimp only at hL
 rw [hL] at hr
 exact k2.1 r (List.mem_of_mem_drop hr)
theorem FOk.sel {f:Flt.S} (h:FOk f) (q:Flt.Rc→Bool) (g:Flt.Rc→Flt.Rc) (hk:∀ r,(g r).k=r.k) (ha:∀ r,(g r).at_=r.at_):FOk { f with L:=Flt.sel q g f.L }:=by
 have hs:=Flt.sel_k q g hk f.L
 refine ⟨h.g.like hs,fun r hr=>?_,bytes_k hs h.bytes⟩
 obtain ⟨r0,hr0,rfl⟩:=List.mem_map.1 hr
 have:=h.ats r0 hr0
 split
 · rw [ha]; exact this
 · exact this
theorem FOk.mark {f:Flt.S} (h:FOk f) (p:Int):FOk (Flt.mark f p):=h.sel _ _ (fun _=>rfl) (fun _=>rfl)
theorem FOk.abandon {f:Flt.S} (h:FOk f) (i:Int):FOk (Flt.abandon f i):=h.sel _ _ (fun _=>rfl) (fun _=>rfl)
theorem FOk.add {f:Flt.S} (h:FOk f) {d:Flt.Dt} (hd:d.bs.length≤1500) (path:Int) {now:Int} (hn:atR now) (id:Int):FOk (Flt.add f d path now id):=by
 refine ⟨h.g.add d path now id,?_,?_⟩
 all_goals
  unfold Flt.add
  split
  · intro r hr
    rcases List.mem_append.1 hr with hr | hr
    · first | exact h.ats r hr | exact h.bytes r hr
    · rw [List.mem_singleton.1 hr]
      first | exact hn | exact hd
  · first | exact h.ats | exact h.bytes
theorem FOk.again {f:Flt.S} (h:FOk f) (t path:Int) {now:Int} (hn:atR now):FOk (Flt.again f t path now).1:=by
 refine ⟨h.g.again t path now,?_,?_⟩
 all_goals
  unfold Flt.again
  split
  · first | exact h.ats | exact h.bytes
  · split
    · first | exact h.ats | exact h.bytes
    · split
      · first | exact h.ats | exact h.bytes
      · rename_i i _ r0 hr0
        split
        · intro r hr
          rcases List.mem_or_eq_of_mem_set hr with hr | rfl
          · first | exact h.ats r hr | exact h.bytes r hr
          · first | exact hn | exact h.bytes r0 (List.mem_of_getElem? hr0)
        · first | exact h.ats | exact h.bytes
theorem add_paths (f:Flt.S) (d:Flt.Dt) (p now id:Int):(Flt.add f d p now id).paths=f.paths:=by unfold Flt.add; split <;> rfl
theorem again_paths (f:Flt.S) (t p now:Int):(Flt.again f t p now).1.paths=f.paths:=by
 unfold Flt.again
 repeat' split
 all_goals rfl
structure Way.Ok (w:Way):Prop where
 p:Pth.Ok w.p
 timer:-1≤w.timer∧w.timer≤2305843009213693952+1048576
 mark:0≤w.mark∧w.mark < 4294967296
theorem Way.Ok.value {w:Way} (h:w.Ok):1≤w.p.r.value∧w.p.r.value≤1048576:=by
 have:=h.p.r.least; have:=h.p.r.lv; have:=h.p.r.vm; have:=h.p.r.most
 omega
structure Ok (n:Nat) (s:S):Prop where
 q:Oq.Ok s.q
 many:0≤s.q.many∧s.q.many≤n
 qfew:s.q.L.length≤n
 f:FOk s.f
 paths:s.f.paths=s.ws.length
 nws:1≤s.ws.length∧s.ws.length≤4
 ws:∀ w ∈ s.ws,w.Ok
 room:0≤s.room∧s.room≤1048576
 first:0≤s.first∧s.first≤1048576
 mtu:128≤s.mtu∧s.mtu≤1500
 lives:∀ x ∈ s.lives,0≤x.til∧x.til≤4611686018427387904
 lfew:s.lives.length≤n
 owed:∀ x ∈ s.owed,x.d.bs.length=1
 ofew:s.owed.length≤n
 cum:0≤s.cum∧s.cum < 4294967296
 at_:atR s.at_
 by_:0≤s.by_∧s.by_ < s.ws.length
theorem hear1_ok {w:Way} (h:w.Ok) {x:Flt.PT} (_hx:atR x.at_) (full:Bool) {now:Int} (hn:atR now):(hear1 x full now w).Ok:=by
 unfold hear1
 split
 · rename_i ha
   dsimp only
   have h1:Pth.Ok (if x.some_=true then sampled (answered w.p) (mx 0 (now - x.at_)) else answered w.p):=by
    split
    · exact sampled_ok (answered_ok h.p) (by rw [mx_eq]; omega)
    · exact answered_ok h.p
   revert h1
   generalize (if x.some_=true then sampled (answered w.p) (mx 0 (now - x.at_)) else answered w.p)=p1
   intro h1
   split
   · have h2:=acked_ok h1 x.acked full
     have:=h2.r.least; have:=h2.r.lv; have:=h2.r.vm; have:=h2.r.most
     obtain ⟨hn1,hn2⟩:=hn
     exact ⟨h2,by dsimp only; omega,h.mark⟩
   · exact ⟨h1,h.timer,h.mark⟩
 · exact h
theorem hear2_ok {w:Way} (h:w.Ok) (x:Flt.PT) (c:Int) (n:Nat):(hear2 x c n w).Ok:=by
 unfold hear2
 split
 · exact ⟨fast_ok h.p,h.timer,Flt.u32_mod _⟩
 · exact h
theorem hear3_ok {w:Way} (h:w.Ok) (c:Int):(hear3 c w).Ok:=by
 unfold hear3
 split
 · exact ⟨h.p,h.timer,h.mark⟩
 · exact h
theorem hear_ok {w:Way} (h:w.Ok) {x:Flt.PT} (hx:atR x.at_) (full:Bool) {now:Int} (hn:atR now) (c:Int) (n:Nat):(hear x full now c n w).Ok:=hear3_ok (hear2_ok (hear1_ok h hx full hn) x c n) c
theorem ptOf_at {t:Flt.Tld} (h:atT t) (k:Nat):atR (ptOf t k).at_:=by
 obtain ⟨h0,h1,h2,h3⟩:=h
 unfold ptOf
 split <;> assumption
theorem restW_ok {f:Flt.S} {k:Nat} {w:Way} (h:w.Ok):(restW f k w).Ok:=by
 unfold restW
 split
 · exact ⟨h.p,by dsimp only; omega,h.mark⟩
 · exact h
theorem ways_idx {l:List Way} (g:Nat→Way→Way) (h:∀ w ∈ l,w.Ok) (hg:∀ k w,w.Ok→(g k w).Ok):∀ w ∈ l.mapIdx g,w.Ok:=by
 intro w hw
 obtain ⟨i,hi,rfl⟩:=List.mem_mapIdx.1 hw
 exact hg _ _ (h _ (List.getElem_mem hi))
theorem restAll_ok {n:Nat} {s:S} (h:Ok n s):Ok n (restAll s):=by
 refine { h with paths:=?_,nws:=?_,ws:=ways_idx _ h.ws (fun k w hw=>restW_ok hw),by_:=?_ }
 all_goals simp only [restAll,List.length_mapIdx]
 · exact h.paths
 · exact h.nws
 · exact h.by_
theorem layN_ok {m:Nat} {now:Int}:∀ (n:Nat) {s:S},Ok m s→Ok m (layN now n s)
 | 0,_,h=>h
 | n+1,s,h=>by
   rw [layN]
   split
   · exact h
   · rename_i x r hx
     split
     · refine layN_ok n { h with f:=?_,paths:=?_,owed:=?_,ofew:=?_ }
       · exact (h.f.add (by rw [h.owed x (by rw [hx]; exact List.mem_cons_self)]; omega) _ (clock_at now) _).abandon _
       · show (Flt.add s.f x.d 0 (clock now) x.id).paths=_
         rw [add_paths]; exact h.paths
       · exact fun y hy=>h.owed y (by rw [hx]; exact List.mem_cons_of_mem _ hy)
       · have:=h.ofew; rw [hx,List.length_cons] at this; dsimp only; omega
     · exact h
theorem lay_ok {n:Nat} {now:Int} {s:S} (h:Ok n s):Ok n (lay s now):=layN_ok _ h
theorem roomOf_rng {s:S} (h:0≤s.room∧s.room≤1048576) (rwnd:Int) (whole:Bool):0≤roomOf s rwnd whole∧roomOf s rwnd whole≤1048576:=by
 unfold roomOf
 dsimp only
 split
 · rw [mx_eq,mn_eq]; omega
 · rw [mx_eq,mn_eq,mn_eq]; omega
theorem hearAll_ok {n:Nat} {s:S} (h:Ok n s) {t:Flt.Tld} (ht:atT t) (full:Nat→Bool) {now:Int} (hn:atR now):Ok n { s with ws:=hearAll s t full now }:=by
 refine { h with paths:=?_,nws:=?_,ws:=ways_idx _ h.ws (fun k w hw=>hear_ok hw (ptOf_at ht k) _ hn _ _),by_:=?_ }
 all_goals simp only [hearAll,List.length_mapIdx]
 · exact h.paths
 · exact h.nws
 · exact h.by_
theorem free_ok {n:Nat} {s:S} (h:Ok n s) (m:Int):Ok n { s with q:=Oq.free s.q m }:={ h with q:=Oq.free_ok h.q m }
theorem sack_ok {n:Nat} {s s':S} (h:Ok n s) {y rwnd:Int} (hy:0≤y∧y < 4294967296) {gs:List (Nat × Nat)} {now:Int} (hs:sack s y rwnd gs now=some s'):Ok n s':=by
 unfold sack at hs
 split at hs
 · cases hs
 · rename_i f' t ht
   cases hs
   obtain ⟨h1,h2,h3,h4,h5⟩:=h.f.sack hy ht
   have k1:Ok n { s with f:=f' }:={ h with f:=h1,paths:=by dsimp only; rw [h4]; exact h.paths }
   have k2:=hearAll_ok k1 h2 (fun k=>!mayW s k) (clock_at now)
   have k5:=lay_ok (now:=now) (free_ok (restAll_ok k2) t.freed)
   exact { k5 with room:=roomOf_rng k5.room _ _ }
theorem untilOf_rng (lasts now:Int):0≤untilOf lasts now∧untilOf lasts now≤4611686018427387904:=by
 have:=clock_rng now
 unfold untilOf
 split
 · rw [mn_eq]; omega
 · omega
theorem put_ok {n:Nat} {s:S} (h:Ok n s) {stream:Int} (hs:0≤stream) (ord:Bool) (bs:List UInt8) (lasts now:Int):Ok (n+1) (put s stream ord bs lasts now):=by
 have hm:=h.many; have hq:=h.qfew; have hl:=h.lfew; have ho:=h.ofew
 have h':Ok (n+1) s:={ h with many:=by omega,qfew:=by omega,lfew:=by omega,ofew:=by omega }
 unfold put
 split
 · rename_i he
   refine { h' with q:=Oq.put_ok h.q hs ord bs _,many:=?_,qfew:=?_,lives:=?_,lfew:=?_ }
   · show 0≤(Oq.put s.q stream ord bs (untilOf lasts now)).many∧(Oq.put s.q stream ord bs (untilOf lasts now)).many≤((n+1:Nat):Int); unfold Oq.put; split <;> (try dsimp only) <;> omega
   · dsimp only; unfold Oq.put; split
     · simp; omega
     · omega
   · dsimp only
     split
     · intro x hx
       rcases List.mem_append.1 hx with hx | hx
       · exact h.lives x hx
       · rw [List.mem_singleton.1 hx]; exact untilOf_rng lasts now
     · exact h.lives
   · dsimp only
     split
     · simp; omega
     · omega
 · exact h'
theorem late1_ok {n:Nat} {now:Int} {g:Late} (h:Ok n g.s) (k:Nat):Ok n (late1 now g k).s:=by
 unfold late1
 split
 · exact h
 · rename_i w hw
   split
   · have hp:=h.paths; have hb:=h.by_; have hn:=h.nws
     refine { h with f:=h.f.mark _,paths:=?_,nws:=?_,ws:=?_,by_:=?_ }
     · dsimp only [Flt.mark]; rw [List.length_set]; exact hp
     · dsimp only; rw [List.length_set]; exact hn
     · intro v hv
       rcases List.mem_or_eq_of_mem_set hv with hv | rfl
       · exact h.ws v hv
       · have hw':=h.ws w (List.mem_of_getElem? hw)
         exact ⟨late_ok hw'.p,by dsimp only [lateW]; omega,hw'.mark⟩
     · dsimp only; rw [List.length_set]; exact hb
   · exact h
theorem late_foldl {n:Nat} {now:Int}:∀ (l:List Nat) {g:Late},Ok n g.s→Ok n (l.foldl (late1 now) g).s
 | [],_,h=>h
 | k::l,g,h=>late_foldl l (late1_ok h k)
theorem timeout_ok {n:Nat} {s:S} (h:Ok n s) (now:Int):Ok n (timeout s now).s:=late_foldl _ h
theorem setW_ok {n:Nat} {s:S} (h:Ok n s) (k:Nat) {w:Way} (hw:w.Ok):Ok n { s with ws:=s.ws.set k w }:=by
 have hp:=h.paths; have hb:=h.by_; have hn:=h.nws
 refine { h with paths:=?_,nws:=?_,ws:=?_,by_:=?_ }
 · dsimp only; rw [List.length_set]; exact hp
 · dsimp only; rw [List.length_set]; exact hn
 · intro v hv
   rcases List.mem_or_eq_of_mem_set hv with hv | rfl
   · exact h.ws v hv
   · exact hw
 · dsimp only; rw [List.length_set]; exact hb
theorem again1_ok {n k:Nat} {now:Int} {x:Go1 × Bool} (h:Ok n x.1.s) (t:Int):Ok n (again1 k now x t).1.s:=by
 unfold again1
 split
 · exact h
 · split
   · exact h
   · split
     · exact h
     · split
       · exact h
       · refine { h with f:=h.f.again _ _ (clock_at now),paths:=?_ }
         dsimp only
         rw [again_paths]
         exact h.paths
theorem again_foldl {n k:Nat} {now:Int}:∀ (l:List Int) {x:Go1 × Bool},Ok n x.1.s→Ok n (l.foldl (again1 k now) x).1.s
 | [],_,h=>h
 | t::l,x,h=>again_foldl l (again1_ok h t)
theorem again_ok {n:Nat} {s:S} (h:Ok n s) (k:Nat) (now:Int):Ok n (again s k now).s:=again_foldl _ h
theorem piece_rng {n:Nat} {s:S} (h:Ok n s):0≤piece s∧piece s≤1472:=by
 have:=h.mtu
 unfold piece
 rw [mn_eq]
 omega
theorem fresh1_ok {n k:Nat} {now:Int} {g:Go1} (h:Ok n g.s):Ok n (fresh1 k now g).s:=by
 have hp:=piece_rng h; have hr:=h.room
 unfold fresh1
 split
 · exact h
 · rename_i d id q' hq
   unfold Oq.next at hq
   split at hq
   · cases hq
   · rename_i hm
     split at hq
     · cases hq
     · rename_i x r hL
       cases hq
       have hf:=h.qfew
       rw [hL,List.length_cons] at hf
       have hx:=(h.q.its x (by rw [hL]; exact List.mem_cons_self)).1
       have hlen:(Oq.cutD g.s.q x (piece g.s)).bs.length≤1500:=by
        dsimp only [Oq.cutD]
        rw [List.length_take]
        have:=hx.at_
        unfold Oq.endAt Oq.left
        rw [mn_eq]
        omega
       refine { h with q:=Oq.nextS_ok h.q hL _,many:=?_,qfew:=?_,f:=h.f.add hlen _ (clock_at now) _,paths:=?_,room:=?_ }
       · exact h.many
       · dsimp only [Oq.nextS]
         split
         · omega
         · rw [List.length_cons]; omega
       · dsimp only; rw [add_paths]; exact h.paths
       · dsimp only; rw [mx_eq]; omega
theorem freshN_ok {n k:Nat} {now:Int}:∀ (m:Nat) {g:Go1},Ok n g.s→Ok n (freshN k now m g).s
 | 0,_,h=>h
 | m+1,g,h=>by
   rw [freshN]
   split
   · exact h
   · exact freshN_ok m (fresh1_ok h)
theorem fresh_ok {n:Nat} {s:S} (h:Ok n s) (k:Nat) (now:Int):Ok n (fresh s k now).s:=freshN_ok 100 h
theorem runW_ok {w:Way} (h:w.Ok) {now:Int} (hn:atR now):(runW now w).Ok:=by
 have:=h.value
 obtain ⟨h1,h2⟩:=hn
 unfold runW
 split
 · exact ⟨h.p,by dsimp only; omega,h.mark⟩
 · exact h
theorem run_ok {n:Nat} {s:S} (h:Ok n s) (k:Nat) (now:Int):Ok n (run s k now):=by
 unfold run
 split
 · rename_i w hw
   exact setW_ok h k (runW_ok (h.ws w (List.mem_of_getElem? hw)) (clock_at now))
 · exact h
theorem trySome_ok {n:Nat} {step:S→Nat→Option Go1} (hstep:∀ s k g,Ok n s→step s k=some g→Ok n g.s) (now:Int):∀ (l:List Nat) {s:S},Ok n s→Ok n (trySome step now l s).1
 | [],_,h=>h
 | k::l,s,h=>by
   rw [trySome]
   split
   · exact trySome_ok hstep now l h
   · rename_i g hg
     split
     · exact trySome_ok hstep now l (hstep s k g h hg)
     · exact run_ok (hstep s k g h hg) k now
theorem again_step {n:Nat} (now:Int):∀ s k g,Ok n s→(fun s k=>some (again s k now)) s k=some g→Ok n g.s:=fun s k g h hg=>by
 cases hg
 exact again_ok h k now
theorem next_ok {n:Nat} {s:S} (h:Ok n s) (now:Int):Ok n (next s now).1:=by
 have h1:=trySome_ok (again_step now) now (List.range s.ws.length) h
 unfold next
 split
 · rename_i s1 r hs
   rw [hs] at h1
   exact h1
 · rename_i s1 hs
   rw [hs] at h1
   refine trySome_ok ?_ now _ h1
   intro s' k g h' hg
   split at hg
   · cases hg
     exact fresh_ok h' k now
   · cases hg
theorem beat_ok {n:Nat} {s:S} (h:Ok n s) (now:Int):Ok n (beat s now):=by
 have hp:=h.paths; have hb:=h.by_; have hn:=h.nws
 refine { h with paths:=?_,nws:=?_,ws:=?_,by_:=?_ }
 · dsimp only [beat]; rw [List.length_map]; exact hp
 · dsimp only [beat]; rw [List.length_map]; exact hn
 · intro v hv
   obtain ⟨w,hw,rfl⟩:=List.mem_map.1 hv
   have:=h.ws w hw
   exact ⟨beatS_ok this.p now,this.timer,this.mark⟩
 · dsimp only [beat]; rw [List.length_map]; exact hb
theorem beaten_ok {n:Nat} {s:S} (h:Ok n s) (k sent now:Int):Ok n (beaten s k sent now):=by
 unfold beaten
 split
 · exact h
 · split
   · rename_i w hw
     have:=h.ws w (List.mem_of_getElem? hw)
     exact setW_ok h _ ⟨beatenS_ok this.p sent now,this.timer,this.mark⟩
   · exact h
theorem seen_one (now:Int):∀ (l:List Oq.It) (q:Int × Flt.Dt × Int × Bool),(q.2.2.2=true→q.2.1.bs.length=1)→(l.foldl (Oq.seeI now) q).2.2.2=true→(l.foldl (Oq.seeI now) q).2.1.bs.length=1
 | [],_,h=>h
 | x::l,q,h=>by
   refine seen_one now l _ ?_
   unfold Oq.seeI
   split
   · split
     · exact fun _=>rfl
     · exact h
   · exact h
theorem expire1_ok {n:Nat} {s:S} (h:Ok n s) (now:Int):Ok (n+1) (expire1 s now):=by
 have hm:=h.many; have hq:=h.qfew; have hl:=h.lfew; have ho:=h.ofew
 have hf:(Oq.expire s.q now).L.length≤n+1:=by
  have:=List.length_filter_le (fun x=>!Oq.dead now x) s.q.L
  dsimp only [Oq.expire,Oq.free]
  omega
 have h':Ok (n+1) { s with q:=Oq.expire s.q now }:={ h with q:=Oq.expire_ok h.q now,many:=(by dsimp only [Oq.expire,Oq.free]; omega),qfew:=hf,lfew:=(by dsimp only; omega),ofew:=(by dsimp only; omega) }
 unfold expire1
 dsimp only
 split
 · rename_i hs
   refine { h' with f:=h.f.abandon _,paths:=h.paths,owed:=?_,ofew:=?_ }
   · intro x hx
     rcases List.mem_append.1 hx with hx | hx
     · exact h.owed x hx
     · rw [List.mem_singleton.1 hx]
       exact seen_one now s.q.L _ (fun h=>by cases h) hs
   · simp; omega
 · exact h'
theorem lapse_ok {f:Flt.S} (now:Int) (l:List Life) (h:FOk f):FOk (lapse f now l)∧(lapse f now l).paths=f.paths:=by
 unfold lapse
 generalize l.filter (lifeDead now)=k
 induction k generalizing f with
 | nil=>exact ⟨h,rfl⟩
 | cons x k ih=>exact ih (h.abandon x.id)
theorem expire2_ok {n:Nat} {s:S} (h:Ok n s) (now:Int):Ok n (expire2 s now):=by
 obtain ⟨h1,h2⟩:=lapse_ok now s.lives h.f
 have hl:=h.lfew
 refine { h with f:=h1,paths:=h2.trans h.paths,lives:=fun x hx=>h.lives x (List.mem_filter.1 hx).1,lfew:=?_ }
 have:=List.length_filter_le (fun x=>!lifeDead now x) s.lives
 dsimp only [expire2]
 omega
theorem expire_ok {n:Nat} {s:S} (h:Ok n s) (now:Int):Ok (n+1) (expire s now):=restAll_ok (lay_ok (expire2_ok (expire1_ok h _) _))
theorem nextW_lt {s:S} (h:1≤s.ws.length) (k:Nat):nextW s k < s.ws.length:=by
 unfold nextW turn
 split <;> exact Nat.mod_lt _ h
theorem make_rng {c:Int} {l:List Flt.Dt} (hl:∀ d ∈ l,0≤d.tsn∧d.tsn < 4294967296) {f:Int × List Rm.Sk} (h:make c l=some f):0≤f.1∧f.1 < 4294967296:=by
 unfold make at h
 split at h
 · split at h
   · cases h
   · rename_i d hd
     cases h
     exact hl d (List.mem_of_getLast? hd)
 · cases h
theorem ptL_rng {f:Flt.S} (h:Flt.Good f):∀ d ∈ Flt.ptL f.L,0≤d.tsn∧d.tsn < 4294967296:=by
 intro d hd
 unfold Flt.ptL at hd
 obtain ⟨r,hr,rfl⟩:=List.mem_map.1 hd
 obtain ⟨i,hi⟩:=List.getElem?_of_mem ((List.takeWhile_sublist _).mem hr)
 have:=h.tsn i r hi
 dsimp only [Flt.Rc.d]
 rw [this]
 exact Flt.u32_mod _
theorem forward_ok {n:Nat} {s:S} (h:Ok n s) (now:Int):Ok n (forward s now).1:=by
 unfold forward
 split
 · exact h
 · rename_i f a hd
   split
   · exact h
   · unfold due at hd
     split at hd
     · cases hd
     · rename_i f' hf
       cases hd
       have hn:=nextW_lt h.nws.1 s.by_.toNat
       exact { h with cum:=make_rng (ptL_rng h.f.g) hf,at_:=clock_at now,by_:=by dsimp only; omega }
end Go.Snd
namespace Go.Snd
open Go
theorem skipIn_new {l:List Rm.Sk} {st n:Int} (h:∀ k ∈ l,k.st≠st):skipIn l st n=l++[⟨st,n⟩]:=by
 induction l with
 | nil=>rfl
 | cons k l ih=>
   rw [skipIn,if_neg (h k List.mem_cons_self),ih (fun q hq=>h q (List.mem_cons_of_mem _ hq)),List.cons_append]
theorem skipIn_at {st n:Int}:∀ {l:List Rm.Sk} {j:Nat} {k:Rm.Sk},l[j]? = some k→k.st=st→(∀ (i:Nat) q,i < j→l[i]? = some q→q.st≠st)→skipIn l st n=l.set j ⟨st,if Rm.less16 k.n n then n else k.n⟩
 | [],_,_,h,_,_=>by cases h
 | q::l,0,k,h,hk,_=>by
   cases h
   rw [skipIn,if_pos hk,List.set_cons_zero]
 | q::l,j+1,k,h,hk,hb=>by
   rw [skipIn,if_neg (hb 0 q (by omega) rfl),List.set_cons_succ,skipIn_at (by simpa using h) hk (fun i p hi hp=>hb (i+1) p (by omega) (by simpa using hp))]
theorem skipIn_len (l:List Rm.Sk) (st n:Int):(skipIn l st n).length≤l.length+1:=by
 induction l with
 | nil=>simp [skipIn]
 | cons k l ih=>
   rw [skipIn]
   split
   · simp
   · rw [List.length_cons,List.length_cons]; omega
theorem skips_snoc (l:List Flt.Dt) (d:Flt.Dt):skips (l++[d])=if d.un then skips l else skipIn (skips l) d.stream d.ssn:=by
 unfold skips
 rw [List.foldl_append]
 rfl
theorem skips_len (l:List Flt.Dt):(skips l).length≤l.length:=by
 have h:∀ (l:List Flt.Dt) (q:List Rm.Sk),(l.foldl (fun q d=>if d.un then q else skipIn q d.stream d.ssn) q).length≤q.length+l.length:=fun l=>by
  induction l with
  | nil=>intro q; simp
  | cons d l ih=>
    intro q
    rw [List.foldl_cons,List.length_cons]
    have h1:=ih (if d.un then q else skipIn q d.stream d.ssn)
    have h2:=skipIn_len q d.stream d.ssn
    split at h1 <;> rename_i hd <;> simp only [hd,if_true,if_false] at h1 ⊢ <;> simp <;> omega
 have:=h l []
 simpa [skips] using this
theorem due_len {s:S} {y a:Int} {sk:List Rm.Sk} (h:due s=some ((y,sk),a)):sk.length≤s.f.L.length:=by
 unfold due at h
 cases hm:make s.f.c (Flt.ptL s.f.L) with
 | none=>rw [hm] at h; cases h
 | some f=>
   rw [hm] at h
   have h:=congrArg Prod.fst (Option.some.inj h)
   dsimp only at h
   rw [h] at hm
   unfold make at hm
   split at hm
   · split at hm
     · cases hm
     · have hm:=congrArg Prod.snd (Option.some.inj hm)
       dsimp only at hm
       rw [←hm]
       have h1:=skips_len (Flt.ptL s.f.L)
       have h2:(Flt.ptL s.f.L).length≤s.f.L.length:=by unfold Flt.ptL; rw [List.length_map]; exact (List.takeWhile_sublist _).length_le
       omega
   · cases hm
end Go.Snd
namespace Go.Proofs.YtlfpemmdehmbfaaGreat
open Go Go.Sl Go.Flt
theorem fahead16_tr (F:Nat→Option Obj) (a b:Int):Tr Tryz.prog 198 [.int .u16 a,.int .u16 b].toArray F [] (fun v H=>v=.int .u16 (Rm.u16 (b - a))∧H=[]):=by
 refine Tr.enter Tryz.func198 rfl Tryz.ntmps198 rfl (fun w0=>?_)
 refine SPS ?_; repeat' (first|refine ⟨fun hc=>?_,fun hc=>?_⟩|intro)
 exact Fin.retW (by exact rfl) resA (fun _ h=>h) ⟨rfl,rfl⟩
theorem fless16_tr (F:Nat→Option Obj) (a b:Int):Tr Tryz.prog 195 [.int .u16 a,.int .u16 b].toArray F [] (fun v H=>v=.bool (Rm.less16 a b)∧H=[]):=by
 refine Tr.enter Tryz.func195 rfl Tryz.ntmps195 rfl (fun w0=>?_)
 refine SPS ?_; repeat' (first|refine ⟨fun hc=>?_,fun hc=>?_⟩|intro)
 refine WL.e rfl (Ef.callR (by exact rfl) (.nil _) (fahead16_tr _ a b)) ?_
 rintro _ _ ⟨rfl,rfl⟩
 refine SPS ?_; repeat' (first|refine ⟨fun hc=>?_,fun hc=>?_⟩|intro)
 · refine Fin.retW (by exact rfl) resA (fun _ h=>h) ⟨?_,rfl⟩
   have e:(Int.fdiv (IntKind.u16.wrap (BitVec.ofInt IntKind.u16.bits (if IntKind.u16.signed=true then -1 else IntKind.u16.max) ^^^ BitVec.ofInt IntKind.u16.bits (IntKind.u16.wrap 0)).toNat) (2 ^ min (1:Int).toNat IntKind.u16.bits))=32767:=by decide
   simp only [Rm.less16,hc,Bool.true_and,tup]
   rw [e]
 · refine Fin.retW (by exact rfl) resA (fun _ h=>h) ⟨?_,rfl⟩
   simp only [Rm.less16,hc,Bool.false_and,tup]
theorem fmax16_tr (F:Nat→Option Obj) (a b:Int):Tr Tryz.prog 177 [.int .u16 a,.int .u16 b].toArray F [] (fun v H=>v=.int .u16 (if Rm.less16 a b then b else a)∧H=[]):=by
 refine Tr.enter Tryz.func177 rfl Tryz.ntmps177 rfl (fun w0=>?_)
 refine SPS ?_; repeat' (first|refine ⟨fun hc=>?_,fun hc=>?_⟩|intro)
 refine WL.e rfl (Ef.callR (by exact rfl) (.nil _) (fless16_tr _ a b)) ?_
 rintro _ _ ⟨rfl,rfl⟩
 refine SPS ?_; repeat' (first|refine ⟨fun hc=>?_,fun hc=>?_⟩|intro)
 · exact Fin.retW (by exact rfl) resA (fun _ h=>h) ⟨by rw [hc,if_pos rfl]; rfl,rfl⟩
 · exact Fin.retW (by exact rfl) resA (fun _ h=>h) ⟨by rw [hc,if_neg (by decide)]; rfl,rfl⟩
def skC (k:Rm.Sk):List Value:=[.int .u16 k.st,.int .u16 k.n]
theorem skC_len (k:Rm.Sk):(skC k).length=2:=rfl
theorem skC_one (k:Rm.Sk):∀ u ∈ skC k,u.oneCell'=true:=by
 intro u hu
 simp only [skC,List.mem_cons,List.not_mem_nil,or_false] at hu
 rcases hu with rfl | rfl <;> rfl
structure Ents (es:List MapEntry) (K:List Rm.Sk):Prop where
 len:es.length=K.length
 at_:∀ (j:Nat) k,K[j]? = some k→∃ e,es[j]? = some e∧e.key=.int .u16 k.st∧e.val=.int .i64 j
theorem Ents.keys {es:List MapEntry} {K:List Rm.Sk} (h:Ents es K):keysOk .u16 es:=fun e he=>by
 obtain ⟨j,hj⟩:=List.getElem?_of_mem he
 have hlt:j < K.length:=by rw [←h.len]; exact (List.getElem?_eq_some_iff.1 hj).1
 obtain ⟨e',h1,h2,_⟩:=h.at_ j K[j] (List.getElem?_eq_getElem hlt)
 rw [hj] at h1
 cases h1
 exact ⟨_,h2⟩
theorem Ents.miss {es:List MapEntry} {K:List Rm.Sk} (h:Ents es K) {st:Int} (hno:∀ k ∈ K,k.st≠st):mfind es st=Option.none:=by
 unfold mfind
 have:es.find? (isKey st)=.none:=List.find?_eq_none.2 (fun e he hk=>by
  obtain ⟨j,hj⟩:=List.getElem?_of_mem he
  have hlt:j < K.length:=by rw [←h.len]; exact (List.getElem?_eq_some_iff.1 hj).1
  obtain ⟨e',h1,h2,_⟩:=h.at_ j K[j] (List.getElem?_eq_getElem hlt)
  rw [hj] at h1
  cases h1
  unfold isKey at hk
  rw [h2] at hk
  exact hno _ (List.getElem_mem hlt) (beq_iff_eq.1 hk).symm)
 rw [this]
 rfl
theorem Ents.hit {es:List MapEntry} {K:List Rm.Sk} (h:Ents es K) {st:Int} {j:Nat} {k:Rm.Sk} (hj:K[j]? = some k) (hk:k.st=st) (hb:∀ (i:Nat) q,i < j→K[i]? = some q→q.st≠st):mfind es st=some (.int .i64 j):=by
 obtain ⟨e,h1,h2,h3⟩:=h.at_ j k hj
 have hlt:=(List.getElem?_eq_some_iff.1 h1).1
 have hf:es.findIdx? (isKey st)=.some j:=by
  rw [List.findIdx?_eq_some_iff_getElem]
  refine ⟨hlt,?_,fun i hi=>?_⟩
  · rw [(List.getElem?_eq_some_iff.1 h1).2]
    unfold isKey
    rw [h2]
    exact beq_iff_eq.2 hk.symm
  · have hlt2:i < K.length:=by rw [←h.len]; omega
    obtain ⟨e',h1',h2',_⟩:=h.at_ i K[i] (List.getElem?_eq_getElem hlt2)
    rw [(List.getElem?_eq_some_iff.1 h1').2]
    unfold isKey
    rw [h2']
    intro hh
    exact hb i K[i] hi (List.getElem?_eq_getElem hlt2) (beq_iff_eq.1 hh).symm
 unfold mfind
 rw [←findIdx_find,hf]
 show (es[j]?).map (·.val)=_
 rw [h1,Option.map_some,h3]
theorem Ents.add {es:List MapEntry} {K:List Rm.Sk} (h:Ents es K) (st n:Int) (clk:Nat):Ents (es++[MapEntry.mk (.int .u16 st) (.int .i64 K.length) clk]) (K++[⟨st,n⟩]):=by
 refine ⟨by simp [h.len],fun j k hj=>?_⟩
 by_cases hlt:j < K.length
 · rw [List.getElem?_append_left hlt] at hj
   obtain ⟨e,h1,h2⟩:=h.at_ j k hj
   exact ⟨e,by rw [List.getElem?_append_left (by rw [h.len]; exact hlt)]; exact h1,h2⟩
 · rw [List.getElem?_append_right (by omega)] at hj
   cases hd:j - K.length with
   | succ i=>rw [hd] at hj; cases hj
   | zero=>
     rw [hd] at hj
     cases hj
     have hjk:j=K.length:=by omega
     subst hjk
     exact ⟨_,by rw [List.getElem?_append_right (by rw [h.len]; exact Nat.le_refl _),h.len,Nat.sub_self]; rfl,rfl,rfl⟩
theorem Ents.set {es:List MapEntry} {K:List Rm.Sk} (h:Ents es K) {j:Nat} {k k':Rm.Sk} (hj:K[j]? = some k) (hk:k'.st=k.st):Ents es (K.set j k'):=by
 refine ⟨by rw [List.length_set]; exact h.len,fun i q hq=>?_⟩
 by_cases hi:j=i
 · subst hi
   rw [List.getElem?_set_self (List.getElem?_eq_some_iff.1 hj).1] at hq
   cases hq
   rw [hk]
   exact h.at_ j k hj
 · rw [List.getElem?_set_ne hi] at hq
   exact h.at_ i q hq
theorem skC_set {k:Rm.Sk} {v:Int}:∀ {K:List Rm.Sk} {j:Nat},K[j]? = some k→(K.flatMap skC).take (j * 2+1)++[.int .u16 v]++(K.flatMap skC).drop (j * 2+1+1)=(K.set j ⟨k.st,v⟩).flatMap skC
 | [],_,h=>by cases h
 | q::K,0,h=>by
   cases h
   rfl
 | q::K,j+1,h=>by
   have ih:=skC_set (v:=v) (K:=K) (j:=j) (by simpa using h)
   rw [List.set_cons_succ,List.flatMap_cons,List.flatMap_cons,←ih,show (j+1) * 2+1=(j * 2+1)+1+1 by omega]
   rfl
structure GF1 where
 i:Nat
structure GMk where
 i:Nat
 K:List Rm.Sk
 es:List MapEntry
 clk:Nat
 ka:Option Addr
 kn:Nat
 kc:Nat
 kb:HL
def MakeQ (o:Option (Int × List Rm.Sk)) (v:Value) (H:HL):Prop:=match o with
 | .none=>v=tup [.agg [.int .u32 0,.slice none 0 0].toArray,.bool false]∧H=[]
 | .some (y,sk)=>∃ (ka:Option Addr) (kn kc:Nat),v=tup [.agg [.int .u32 y,.slice ka kn kc].toArray,.bool true]∧OwnS 239 2 (sk.flatMap skC) (.slice ka kn kc) H
def fwH (b4 b8 b9:Nat) (y:Int) (g:GMk):HL:=(b9,.map g.es.toArray g.clk)::(b8,.cells [.int .u32 y,.slice g.ka g.kn g.kc].toArray 57 (0,0))::(b4,.cells [.int .u32 0,.slice none 0 0].toArray 57 (0,0))::g.kb
set_option maxHeartbeats 8000000 in
theorem make_tr (F:Nat→Option Obj) (c:Int) (ds:List DM) (sa:Option Addr) (sn sc:Nat) (hl:Lst F [] 7 (ds.flatMap DM.cells) sa sn sc) (hfew:sn≤3000) :
 Tr Tryz.prog 118 [.int .u32 c,.slice sa sn sc].toArray F [] (MakeQ (Snd.make c (ds.map (·.d)))):=by
 refine Tr.enter Tryz.func118 rfl Tryz.ntmps118 rfl (fun w0=>?_)
 have hsn:ds.length=sn:=by have:=hl.len; rw [ds_len] at this; omega
 refine SPX ?_; repeat' (first|refine ⟨fun hc=>?_,fun hc=>?_⟩|intro)
 rename_i b4
 refine W.loop (G:=GF1) (fun g=>[(0,.int .u32 c),(1,.slice sa sn sc),(4,.pointer (some ⟨b4,0,none⟩)),(14,.slice sa sn sc),(15,.int .i64 sn),(16,.int .i64 g.i)]) (fun _=>[(b4,.cells [.int .u32 0,.slice none 0 0].toArray 57 (0,0))])
  (fun g=>g.i≤sn∧Snd.okRow c 0 (ds.map (·.d))=Snd.okRow c g.i ((ds.drop g.i).map (·.d))) (fun g=>sn - g.i) ⟨0⟩ ⟨Nat.zero_le _,rfl⟩ envA (fun _ h=>h) ?_
 rintro ⟨i⟩ ⟨hi,hrow⟩
 dsimp only at hi hrow ⊢
 refine SPQ ?_; repeat' (first|refine ⟨fun hc=>?_,fun hc=>?_⟩|intro)
 cases hc:decide ((i:Int) < sn) with
 | true=>
   have hi':i < sn:=by have:=of_decide_eq_true hc; omega
   obtain ⟨m,hm⟩:∃ m,ds[i]? = some m:=⟨ds[i]'(by omega),List.getElem?_eq_getElem _⟩
   obtain ⟨b,off,hsa,hcan⟩:=hl.el DM.len hm (by omega)
   have hia:0≤(i:Int)∧(i:Int) < sn:=by omega
   have hdr:ds.drop i=m::ds.drop (i+1):=by rw [List.drop_eq_getElem_cons (by omega),(List.getElem?_eq_some_iff.1 hm).2]
   rw [hdr,List.map_cons,Snd.okRow] at hrow
   rw [hsa]
   refine SPQ ?_; repeat' (first|refine ⟨fun hc=>?_,fun hc=>?_⟩|intro)
   rename_i b7
   refine WL.e rfl (Ef.callR (by exact rfl) (.nil _) (ahead_tr _ c m.d.tsn)) ?_
   rintro _ _ ⟨rfl,rfl⟩
   have e1:IntKind.u32.wrap (IntKind.u32.wrap (i:Int)+1)=Spn.u32 ((i:Int)+1):=by
    show Spn.u32 (Spn.u32 (i:Int)+1)=_
    simp only [Spn.u32_eq]
    omega
   refine SPY ?_; repeat' (first|refine ⟨fun hc=>?_,fun hc=>?_⟩|intro)
   · have hne:¬ Spn.u32 (m.d.tsn - c)=Spn.u32 ((i:Int)+1):=by rw [←e1]; simpa using hc
     have hnone:Snd.make c (ds.map (·.d))=none:=by
      unfold Snd.make
      rw [hrow,decide_eq_false hne,Bool.false_and,if_neg (by decide)]
     rw [hnone]
     exact Fin.retW (by exact rfl) resA (H':=[]) (fun _ h=>h.sublist (List.nil_sublist _)) ⟨rfl,rfl⟩
   · have he:Spn.u32 (m.d.tsn - c)=Spn.u32 ((i:Int)+1):=by rw [←e1]; simpa using hc
     rw [i64_succ (by omega),←hsa]
     refine Fin.round ⟨i+1⟩ ⟨hi',?_⟩ envA (fun _ h=>h.sublist (.cons _ (List.Sublist.refl _))) (by dsimp only; omega)
     rw [hrow,decide_eq_true he,Bool.true_and]
 | false=>
   have hi':i=ds.length:=by have:=of_decide_eq_false hc; omega
   subst hi'
   rw [List.drop_length,List.map_nil,Snd.okRow] at hrow
   have hzb:((sn:Int) == 0)=decide (sn=0):=by
    rw [Bool.eq_iff_iff]
    simp
   refine SPQ ?_; repeat' (first|refine ⟨fun hc=>?_,fun hc=>?_⟩|intro)
   rw [hzb]
   by_cases hz:sn=0
   · have hnone:Snd.make c (ds.map (·.d))=none:=by
      unfold Snd.make
      rw [List.length_eq_zero_iff.1 (by omega:ds.length=0)]
      rfl
     rw [decide_eq_true hz,hnone]
     refine SPY ?_; repeat' (first|refine ⟨fun hc=>?_,fun hc=>?_⟩|intro)
     exact Fin.retW (by exact rfl) resA (H':=[]) (fun _ h=>h.sublist (List.nil_sublist _)) ⟨rfl,rfl⟩
   rw [decide_eq_false hz]
   have eml:IntKind.i64.wrap ((sn:Int) - 1)=((sn - 1:Nat):Int):=by rw [i64_id (by omega) (by omega)]; omega
   obtain ⟨ml,hml⟩:∃ m,ds[sn - 1]? = some m:=⟨ds[sn - 1]'(by omega),List.getElem?_eq_getElem _⟩
   obtain ⟨b,off,hsa,hcan⟩:=hl.el DM.len hml (by omega)
   have hil:0≤IntKind.i64.wrap ((sn:Int) - 1)∧IntKind.i64.wrap ((sn:Int) - 1) < sn:=by omega
   have hc0:=hcan.one (i:=0) rfl
   rw [←eml] at hc0
   have hmake:Snd.make c (ds.map (·.d))=some (ml.d.tsn,Snd.skips (ds.map (·.d))):=by
    unfold Snd.make
    rw [hrow,if_pos rfl,List.getLast?_eq_getElem?,List.getElem?_map,List.length_map,hsn,hml]
    rfl
   rw [hmake,hsa]
   refine SPQ ?_; repeat' (first|refine ⟨fun hc=>?_,fun hc=>?_⟩|intro)
   rename_i b8 b9
   rw [←hsa]
   refine W.loop (G:=GMk) (fun g=>[(4,.pointer (some ⟨b4,0,none⟩)),(8,.pointer (some ⟨b8,0,none⟩)),(9,.map (some b9)),(44,.slice sa sn sc),(45,.int .i64 sn),(46,.int .i64 g.i)]) (fun g=>fwH b4 b8 b9 ml.d.tsn g)
    (fun g=>g.i≤sn∧g.K=Snd.skips ((ds.take g.i).map (·.d))∧g.K.length≤g.i∧Ents g.es g.K∧OwnS 239 2 (g.K.flatMap skC) (.slice g.ka g.kn g.kc) g.kb) (fun g=>sn - g.i) ⟨0,[],[],0,none,0,0,[]⟩ ⟨Nat.zero_le _,rfl,Nat.le_refl _,⟨rfl,fun _ _ h=>by cases h⟩,.inl ⟨rfl,rfl,rfl⟩⟩ envA (fun _ h=>h) ?_
   clear hi hc hrow hc0 hil hml hcan hsa
   rintro ⟨i,K,es,clk,ka,kn,kc,kb⟩ ⟨hi,hK,hKl,hent,hown⟩
   dsimp only at hi hK hKl hent hown ⊢
   unfold fwH
   dsimp only
   have hkn:=OwnS.len hown
   rw [flat_len' skC 2 skC_len] at hkn
   refine SPQ ?_; repeat' (first|refine ⟨fun hc=>?_,fun hc=>?_⟩|intro)
   cases hc:decide ((i:Int) < sn) with
   | false=>
     have hi':i=ds.length:=by have:=of_decide_eq_false hc; omega
     subst hi'
     rw [List.take_length] at hK
     rw [←hK]
     refine SPY ?_; repeat' (first|refine ⟨fun hc=>?_,fun hc=>?_⟩|intro)
     exact Fin.retW (by exact rfl) resA (H':=kb) (fun _ h=>In.of_sub (.last (.there (.there (.there .all)))) h) ⟨ka,kn,kc,rfl,hown⟩
   | true=>
   have hi':i < sn:=by have:=of_decide_eq_true hc; omega
   obtain ⟨m,hm⟩:∃ m,ds[i]? = some m:=⟨ds[i]'(by omega),List.getElem?_eq_getElem _⟩
   obtain ⟨b,off,hsa,hcan⟩:=hl.el DM.len hm (by omega)
   have hia:0≤(i:Int)∧(i:Int) < sn:=by omega
   have htk:(ds.take (i+1)).map (·.d)=(ds.take i).map (·.d)++[m.d]:=by rw [List.take_add_one,hm,List.map_append]; rfl
   have hsk:Snd.skips ((ds.take (i+1)).map (·.d))=if m.d.un then K else Snd.skipIn K m.d.stream m.d.ssn:=by rw [htk,Snd.skips_snoc,←hK]
   rw [hsa]
   refine SPQ ?_; repeat' (first|refine ⟨fun hc=>?_,fun hc=>?_⟩|intro)
   rename_i b11
   cases hun:m.d.un with
   | true=>
     rw [hun,if_pos rfl] at hsk
     refine SPY ?_; repeat' (first|refine ⟨fun hc=>?_,fun hc=>?_⟩|intro)
     rw [i64_succ (by omega),←hsa]
     exact Fin.round ⟨i+1,K,es,clk,ka,kn,kc,kb⟩ ⟨hi',hsk.symm,by dsimp only; omega,hent,hown⟩ envA (fun _ h=>h.sublist (.cons _ (List.Sublist.refl _))) (by dsimp only; omega)
   | false=>
   rw [hun,if_neg (by decide)] at hsk
   refine SPQ ?_; repeat' (first|refine ⟨fun hc=>?_,fun hc=>?_⟩|intro)
   cases hf:K.findIdx? (fun k=>decide (k.st=m.d.stream)) with
   | none=>
     have hno:∀ k ∈ K,k.st≠m.d.stream:=fun k hk e=>by
      have:=List.findIdx?_eq_none_iff.1 hf k hk
      simp [e] at this
     rw [Snd.skipIn_new hno] at hsk
     refine WL.s rfl (Rd.lk2_none rfl rfl (by repeat (first | exact MapAt.here | apply MapAt.there | apply MapAt.right)) hent.keys (hent.miss hno)) ?_
     refine SPQ ?_; repeat' (first|refine ⟨fun hc=>?_,fun hc=>?_⟩|intro)
     refine WL.e0 (Ef.mu_new rfl rfl rfl (by repeat (first | exact MapAt.here | apply MapAt.there | apply MapAt.right)) hent.keys (hent.miss hno)) ?_
     rintro _ _ ⟨rfl,rfl⟩
     refine SPQ ?_; repeat' (first|refine ⟨fun hc=>?_,fun hc=>?_⟩|intro)
     refine WL.e rfl (Ef.app (m:=1) (news:=skC ⟨m.d.stream,m.d.ssn⟩) (hb:=kb) (by exact rfl) (by exact rfl) rfl rfl hown (.last (.there (.there (.there (.there (.there .all)))))) (Src.own (n:=2) (.here rfl)) rfl (skC_one _) (by rw [flat_len' skC 2 skC_len,skC_len]; omega) (by rw [flat_len' skC 2 skC_len,skC_len]; simp only [maxLen]; omega)) ?_
     rintro v' _ ⟨hb',hown',rfl⟩
     obtain ⟨ja,jn,jc,rfl,_,_⟩:=OwnS.shape hown'
     refine SPY ?_; repeat' (first|refine ⟨fun hc=>?_,fun hc=>?_⟩|intro)
     rw [i64_succ (by omega),←hsa,show kn=K.length by omega]
     refine Fin.round ⟨i+1,K++[⟨m.d.stream,m.d.ssn⟩],es++[MapEntry.mk (.int .u16 m.d.stream) (.int .i64 K.length) clk],clk+1,ja,jn,jc,hb'⟩ ⟨hi',hsk.symm,by dsimp only; rw [List.length_append,List.length_singleton]; omega,hent.add _ _ _,by dsimp only; rw [List.flatMap_append]; simpa using hown'⟩ envA (fun _ h=>?_) (by dsimp only; omega)
     dsimp only
     exact In.of_sub (.pick (.right (.there (.there .here))) (.pick (.right (.there (.there .here))) (.pick (.right (.there (.there .here))) (.last .here)))) h
   | some j=>
     obtain ⟨hjl,hjp,hjb⟩:=List.findIdx?_eq_some_iff_getElem.1 hf
     obtain ⟨k,hk⟩:∃ k,K[j]? = some k:=⟨K[j]'hjl,List.getElem?_eq_getElem _⟩
     have hkst:k.st=m.d.stream:=by
      rw [(List.getElem?_eq_some_iff.1 hk).2] at hjp
      exact of_decide_eq_true hjp
     have hkb:∀ (i':Nat) q,i' < j→K[i']? = some q→q.st≠m.d.stream:=fun i' q hi2 hq e=>by
      have h1:=hjb i' hi2
      rw [(List.getElem?_eq_some_iff.1 hq).2] at h1
      exact h1 (decide_eq_true e)
     rw [Snd.skipIn_at hk hkst hkb,←hkst] at hsk
     obtain ⟨sb,so,hka,hkc⟩:=(Lst.own (F:=F) hown (fun _ h=>h)).el skC_len hk (by omega)
     have hkn1:=hkc.one (i:=1) rfl
     have hij:0≤(j:Int)∧(j:Int) < kn:=by omega
     rw [hka] at hown ⊢
     refine WL.s rfl (Rd.lk2_some rfl rfl (by repeat (first | exact MapAt.here | apply MapAt.there | apply MapAt.right)) hent.keys (hent.hit hk hkst hkb)) ?_
     refine SPQ ?_; repeat' (first|refine ⟨fun hc=>?_,fun hc=>?_⟩|intro)
     refine W.drawA ?_
     refine SPY ?_; repeat' (first|refine ⟨fun hc=>?_,fun hc=>?_⟩|intro)
     refine WD.e rfl (Ef.callR (by exact rfl) (.nil _) (fmax16_tr _ k.n m.d.ssn)) ?_
     rintro _ _ ⟨rfl,rfl⟩
     refine ⟨.inr (fun _ h=>h),?_⟩
     refine SPY ?_; repeat' (first|refine ⟨fun hc=>?_,fun hc=>?_⟩|intro)
     obtain ⟨hb3,hown3,hput3⟩:=hown.put (j * 2+1) [.int .u16 (if Rm.less16 k.n m.d.ssn then m.d.ssn else k.n)] (by rw [flat_len' skC 2 skC_len]; simp; omega)
     have hput4:PutAt sb (so+(j:Int).toNat * 2+1) [.int .u16 (if Rm.less16 k.n m.d.ssn then m.d.ssn else k.n)] kb hb3:=hput3
     refine WD.e0 (Ef.st rfl rfl rfl (.there (.there (.there (.there hput4))))) ?_
     rintro _ _ ⟨rfl,rfl⟩
     refine ⟨.inl (by kernel_rfl),?_⟩
     refine SPY ?_; repeat' (first|refine ⟨fun hc=>?_,fun hc=>?_⟩|intro)
     rw [i64_succ (by omega),←hsa]
     refine Fin.round ⟨i+1,K.set j ⟨k.st,if Rm.less16 k.n m.d.ssn then m.d.ssn else k.n⟩,es,clk,some ⟨sb,so,none⟩,kn,kc,hb3⟩ ⟨hi',hsk.symm,by dsimp only; rw [List.length_set]; omega,hent.set hk rfl,?_⟩ envA (fun _ h=>h.sublist (.cons _ (List.Sublist.refl _))) (by dsimp only; omega)
     dsimp only
     rw [←skC_set hk]
     exact hown3
theorem skC_ones (l:List Rm.Sk):∀ u ∈ l.flatMap skC,u.oneCell'=true:=by
 intro u hu
 obtain ⟨k,_,hk⟩:=List.mem_flatMap.1 hu
 exact skC_one k u hk
theorem kclone_tr (F:Nat→Option Obj) (sk:List Rm.Sk) (sa:Option Addr) (sn sc:Nat) (hl:Lst F [] 2 (sk.flatMap skC) sa sn sc) (hn:sk.length≤1000000):Tr Tryz.prog 158 [.slice sa sn sc].toArray F [] (fun v H=>∃ (sa':Option Addr) (sn' sc':Nat),v=.slice sa' sn' sc'∧OwnS 239 2 (sk.flatMap skC) (.slice sa' sn' sc') H):=by
 refine Tr.enter Tryz.func158 rfl Tryz.ntmps158 rfl (fun w0=>?_)
 have hlen:sk.length=sn:=by have:=hl.len; rw [flat_len' skC 2 skC_len] at this; omega
 refine SPS ?_; repeat' (first|refine ⟨fun hc=>?_,fun hc=>?_⟩|intro)
 · have hs0:sa=none:=by simpa using hc
   subst hs0
   have h0:=hl.ok rfl
   rw [h0] at hlen
   have hbs:sk=[]:=List.eq_nil_of_length_eq_zero hlen
   subst hbs
   exact Fin.retW (by exact rfl) resA (fun _ h=>h) ⟨none,0,0,rfl,.inl ⟨rfl,rfl,rfl⟩⟩
 · refine WL.e rfl (Ef.app (m:=sn) (news:=sk.flatMap skC) (xs:=[]) (by exact rfl) (by exact rfl) rfl rfl (OwnS.empty _ _ _) (.all _) hl.any.src (by rw [flat_len' skC 2 skC_len]; omega) (skC_ones sk) (by rw [flat_len' skC 2 skC_len]; simp; omega) (by rw [flat_len' skC 2 skC_len]; simp [maxLen]; omega)) ?_
   rintro v' _ ⟨hb',hown',rfl⟩
   obtain ⟨sa',sn',sc',rfl,_,_⟩:=OwnS.shape hown'
   refine SPS ?_; repeat' (first|refine ⟨fun hc=>?_,fun hc=>?_⟩|intro)
   exact Fin.retW (by exact rfl) resA (H':=hb') (fun _ h=>h.left) ⟨sa',sn',sc',rfl,hown'⟩
theorem cut_tr (F:Nat→Option Obj) (y:Int) (sk:List Rm.Sk) (ka:Option Addr) (kn kc:Nat) (hl:Lst F [] 2 (sk.flatMap skC) ka kn kc) (hn:sk.length≤1000000) (most:Int) (hm:0≤most∧most≤2000):Tr Tryz.prog 86 [.agg [.int .u32 y,.slice ka kn kc].toArray,.int .i64 most].toArray F [] (fun v H=>∃ (sa':Option Addr) (sn' sc':Nat),v=.slice sa' sn' sc'∧OwnS 239 2 ((Snd.cutSk sk most).flatMap skC) (.slice sa' sn' sc') H):=by
 refine Tr.enter Tryz.func86 rfl Tryz.ntmps86 rfl (fun w0=>?_)
 have hlen:sk.length=kn:=by have:=hl.len; rw [flat_len' skC 2 skC_len] at this; omega
 have hcap:=hl.cap
 refine SPU ?_; repeat' (first|refine ⟨fun hc=>?_,fun hc=>?_⟩|intro)
 rename_i b2
 simp (disch:=omega) only [i64_id,Int.tdiv_eq_ediv_of_nonneg,Go.Pth.go_mx,Go.Pth.go_mn]
 obtain ⟨q,hq⟩:∃ q:Nat,(Snd.cutSk sk most=sk.take q∧max 0 (min (kn:Int) (most / 4 - 1))=(q:Int))∧q≤sk.length:=by
  refine ⟨(max 0 (min (kn:Int) (most / 4 - 1))).toNat,⟨?_,by omega⟩,by omega⟩
  unfold Snd.cutSk
  rw [hlen]
 rw [hq.1.2]
 refine WL.p rfl (by exact Pu.slHi rfl rfl (by omega)) ?_
 rw [show ((q:Int)).toNat=q from rfl]
 refine WL.e rfl (Ef.look (by exact rfl) (fun F' hF=>kclone_tr F' (sk.take q) ka q kc ((Lst.take skC_len hl (by decide) hq.2).mono (fun w h=>(hF w h).sublist (List.nil_sublist _))) (by rw [List.length_take]; omega))) ?_
 rintro _ _ ⟨H1,⟨sa',sn',sc',rfl,hown'⟩,rfl⟩
 refine SPU ?_; repeat' (first|refine ⟨fun hc=>?_,fun hc=>?_⟩|intro)
 exact Fin.retW (by exact rfl) resA (H':=H1) (fun _ h=>h.left) ⟨sa',sn',sc',rfl,by rw [hq.1.1]; exact hown'⟩
end Go.Proofs.YtlfpemmdehmbfaaGreat
namespace Go.Proofs.YtlfpemmdehmbfaaGreat
open Go Go.Sl Go.Flt
theorem rless16_tr (F:Nat→Option Obj) (a b:Int):Tr Tryz.prog 178 [.int .u16 a,.int .u16 b].toArray F [] (fun v H=>v=.bool (Rm.less16 a b)∧H=[]):=by
 refine Tr.enter Tryz.func178 rfl Tryz.ntmps178 rfl (fun w0=>?_)
 refine SPS ?_; repeat' (first|refine ⟨fun hc=>?_,fun hc=>?_⟩|intro)
 all_goals refine Fin.weakH (fun _ h=>h.sublist (List.nil_sublist _)) (Fin.ret_tmp (by exact rfl) (by exact rfl) ⟨?_,rfl⟩)
 · have h1:Rm.u16 (b - a)≥1:=of_decide_eq_true hc
   congr 1
   unfold Rm.less16
   change decide (Rm.u16 (b - a) < 32768)=_
   generalize Rm.u16 (b - a)=y at *
   rw [Bool.eq_iff_iff]
   simp
   omega
 · have h1:¬ Rm.u16 (b - a)≥1:=of_decide_eq_false hc
   congr 1
   unfold Rm.less16
   generalize Rm.u16 (b - a)=y at *
   rw [Bool.eq_iff_iff]
   simp
   omega
theorem rless32_tr (F:Nat→Option Obj) (a b:Int):Tr Tryz.prog 98 [.int .u32 a,.int .u32 b].toArray F [] (fun v H=>v=.bool (Rm.less32 a b)∧H=[]):=by
 refine Tr.enter Tryz.func98 rfl Tryz.ntmps98 rfl (fun w0=>?_)
 refine SPS ?_; repeat' (first|refine ⟨fun hc=>?_,fun hc=>?_⟩|intro)
 all_goals refine Fin.weakH (fun _ h=>h.sublist (List.nil_sublist _)) (Fin.ret_tmp (by exact rfl) (by exact rfl) ⟨?_,rfl⟩)
 · have h1:Rm.u32 (b - a)≥1:=of_decide_eq_true hc
   congr 1
   unfold Rm.less32
   change decide (Rm.u32 (b - a) < 2147483648)=_
   generalize Rm.u32 (b - a)=y at *
   rw [Bool.eq_iff_iff]
   simp
   omega
 · have h1:¬ Rm.u32 (b - a)≥1:=of_decide_eq_false hc
   congr 1
   unfold Rm.less32
   generalize Rm.u32 (b - a)=y at *
   rw [Bool.eq_iff_iff]
   simp
   omega
structure GDm where
 i:Nat
 K:List Rm.Sk
 ka:Option Addr
 kn:Nat
 kc:Nat
 kb:HL
def dmH (b4 b6:Nat) (y:Int) (g:GDm):HL:=(b6,.cells [.int .u32 y,.slice g.ka g.kn g.kc].toArray 57 (0,0))::(b4,.cells [.int .u32 0,.slice none 0 0].toArray 57 (0,0))::g.kb
structure GDk where
 k:Nat
theorem less16_self (n:Int):Rm.less16 n n=false:=by
 unfold Rm.less16
 rw [Int.sub_self]
 rfl
set_option maxHeartbeats 8000000 in
theorem dmake_tr (F:Nat→Option Obj) (c:Int) (ds:List DM) (sa:Option Addr) (sn sc:Nat) (hl:Lst F [] 7 (ds.flatMap DM.cells) sa sn sc) (hfew:sn≤3000) (hr:∀ m ∈ ds,0≤m.d.tsn∧m.d.tsn < 4294967296) :
 Tr Tryz.prog 121 [.int .u32 c,.slice sa sn sc].toArray F [] (MakeQ (Snd.make c (ds.map (·.d)))):=by
 refine Tr.enter Tryz.func121 rfl Tryz.ntmps121 rfl (fun w0=>?_)
 have hsn:ds.length=sn:=by have:=hl.len; rw [ds_len] at this; omega
 have hzb:((sn:Int) == 0)=decide (sn=0):=by
  rw [Bool.eq_iff_iff]
  simp
 refine SPQ ?_; repeat' (first|refine ⟨fun hc=>?_,fun hc=>?_⟩|intro)
 rename_i b4 b6
 rw [hzb]
 by_cases hz:sn=0
 · have hnone:Snd.make c (ds.map (·.d))=none:=by
    unfold Snd.make
    rw [List.length_eq_zero_iff.1 (by omega:ds.length=0)]
    rfl
   rw [decide_eq_true hz,hnone]
   refine SPY ?_; repeat' (first|refine ⟨fun hc=>?_,fun hc=>?_⟩|intro)
   exact Fin.retW (by exact rfl) resA (H':=[]) (fun _ h=>h.sublist (List.nil_sublist _)) ⟨rfl,rfl⟩
 rw [decide_eq_false hz]
 refine SPQ ?_; repeat' (first|refine ⟨fun hc=>?_,fun hc=>?_⟩|intro)
 refine W.loop (G:=GF1) (fun g=>[(0,.int .u32 c),(1,.slice sa sn sc),(4,.pointer (some ⟨b4,0,none⟩)),(6,.pointer (some ⟨b6,0,none⟩)),(7,.int .i64 g.i)]) (fun _=>dmH b4 b6 0 ⟨0,[],none,0,0,[]⟩)
  (fun g=>g.i≤sn∧Snd.okRow c 0 (ds.map (·.d))=Snd.okRow c g.i ((ds.drop g.i).map (·.d))) (fun g=>sn - g.i) ⟨0⟩ ⟨Nat.zero_le _,rfl⟩ envA (fun _ h=>h) ?_
 rintro ⟨i⟩ ⟨hi,hrow⟩
 dsimp only at hi hrow ⊢
 unfold dmH
 dsimp only
 refine SPQ ?_; repeat' (first|refine ⟨fun hc=>?_,fun hc=>?_⟩|intro)
 cases hc:decide ((i:Int) < sn) with
 | true=>
   have hi':i < sn:=by have:=of_decide_eq_true hc; omega
   obtain ⟨m,hm⟩:∃ m,ds[i]? = some m:=⟨ds[i]'(by omega),List.getElem?_eq_getElem _⟩
   obtain ⟨b,off,hsa,hcan⟩:=hl.el DM.len hm (by omega)
   have hia:0≤(i:Int)∧(i:Int) < sn:=by omega
   have hdr:ds.drop i=m::ds.drop (i+1):=by rw [List.drop_eq_getElem_cons (by omega),(List.getElem?_eq_some_iff.1 hm).2]
   rw [hdr,List.map_cons,Snd.okRow] at hrow
   have h0:=hcan.one (i:=0) rfl
   have hmr:=hr m (List.mem_of_getElem? hm)
   rw [hsa]
   refine SPY ?_; repeat' (first|refine ⟨fun hc=>?_,fun hc=>?_⟩|intro)
   · have hne:¬ Spn.u32 (m.d.tsn - c)=Spn.u32 ((i:Int)+1):=by
      intro he
      have hc2:m.d.tsn≠Spn.u32 (Spn.u32 (c+1)+Spn.u32 (i:Int)):=by simpa using hc
      simp only [Spn.u32_eq] at he hc2
      omega
     have hnone:Snd.make c (ds.map (·.d))=none:=by
      unfold Snd.make
      rw [hrow,decide_eq_false hne,Bool.false_and,if_neg (by decide)]
     rw [hnone]
     exact Fin.retW (by exact rfl) resA (H':=[]) (fun _ h=>h.sublist (List.nil_sublist _)) ⟨rfl,rfl⟩
   · have he:Spn.u32 (m.d.tsn - c)=Spn.u32 ((i:Int)+1):=by
      have hc2:m.d.tsn=Spn.u32 (Spn.u32 (c+1)+Spn.u32 (i:Int)):=by simpa using hc
      simp only [Spn.u32_eq] at hc2 ⊢
      omega
     rw [i64_succ (by omega),←hsa]
     refine Fin.round ⟨i+1⟩ ⟨hi',?_⟩ envA (fun _ h=>h) (by dsimp only; omega)
     rw [hrow,decide_eq_true he,Bool.true_and]
 | false=>
   have hi':i=ds.length:=by have:=of_decide_eq_false hc; omega
   subst hi'
   rw [List.drop_length,List.map_nil,Snd.okRow] at hrow
   have eml:IntKind.i64.wrap ((sn:Int) - 1)=((sn - 1:Nat):Int):=by rw [i64_id (by omega) (by omega)]; omega
   obtain ⟨ml,hml⟩:∃ m,ds[sn - 1]? = some m:=⟨ds[sn - 1]'(by omega),List.getElem?_eq_getElem _⟩
   obtain ⟨b,off,hsa,hcan⟩:=hl.el DM.len hml (by omega)
   have hil:0≤IntKind.i64.wrap ((sn:Int) - 1)∧IntKind.i64.wrap ((sn:Int) - 1) < sn:=by omega
   have hc0:=hcan.one (i:=0) rfl
   rw [←eml] at hc0
   have hmake:Snd.make c (ds.map (·.d))=some (ml.d.tsn,Snd.skips (ds.map (·.d))):=by
    unfold Snd.make
    rw [hrow,if_pos rfl,List.getLast?_eq_getElem?,List.getElem?_map,List.length_map,hsn,hml]
    rfl
   rw [hmake,hsa]
   refine SPQ ?_; repeat' (first|refine ⟨fun hc=>?_,fun hc=>?_⟩|intro)
   rw [←hsa]
   refine W.loop (G:=GDm) (fun g=>[(1,.slice sa sn sc),(4,.pointer (some ⟨b4,0,none⟩)),(6,.pointer (some ⟨b6,0,none⟩)),(8,.int .i64 g.i)]) (fun g=>dmH b4 b6 ml.d.tsn g)
    (fun g=>g.i≤sn∧g.K=Snd.skips ((ds.take g.i).map (·.d))∧g.K.length≤g.i∧OwnS 239 2 (g.K.flatMap skC) (.slice g.ka g.kn g.kc) g.kb) (fun g=>sn - g.i) ⟨0,[],none,0,0,[]⟩ ⟨Nat.zero_le _,rfl,Nat.le_refl _,.inl ⟨rfl,rfl,rfl⟩⟩ envA (fun _ h=>h) ?_
   clear hi hc hrow hc0 hil hml hcan hsa
   rintro ⟨i,K,ka,kn,kc,kb⟩ ⟨hi,hK,hKl,hown⟩
   dsimp only at hi hK hKl hown ⊢
   unfold dmH
   dsimp only
   have hkn:=OwnS.len hown
   rw [flat_len' skC 2 skC_len] at hkn
   refine SPQ ?_; repeat' (first|refine ⟨fun hc=>?_,fun hc=>?_⟩|intro)
   cases hc:decide ((i:Int) < sn) with
   | false=>
     have hi':i=ds.length:=by have:=of_decide_eq_false hc; omega
     subst hi'
     rw [List.take_length] at hK
     rw [←hK]
     refine SPY ?_; repeat' (first|refine ⟨fun hc=>?_,fun hc=>?_⟩|intro)
     exact Fin.retW (by exact rfl) resA (H':=kb) (fun _ h=>In.of_sub (.last (.there (.there .all))) h) ⟨ka,kn,kc,rfl,hown⟩
   | true=>
   have hi':i < sn:=by have:=of_decide_eq_true hc; omega
   obtain ⟨m,hm⟩:∃ m,ds[i]? = some m:=⟨ds[i]'(by omega),List.getElem?_eq_getElem _⟩
   obtain ⟨b,off,hsa,hcan⟩:=hl.el DM.len hm (by omega)
   have hia:0≤(i:Int)∧(i:Int) < sn:=by omega
   have d1:=hcan.one (i:=1) rfl
   have d2:=hcan.one (i:=2) rfl
   have d3:=hcan.one (i:=3) rfl
   have htk:(ds.take (i+1)).map (·.d)=(ds.take i).map (·.d)++[m.d]:=by rw [List.take_add_one,hm,List.map_append]; rfl
   have hsk:Snd.skips ((ds.take (i+1)).map (·.d))=if m.d.un then K else Snd.skipIn K m.d.stream m.d.ssn:=by rw [htk,Snd.skips_snoc,←hK]
   rw [hsa]
   refine SPQ ?_; repeat' (first|refine ⟨fun hc=>?_,fun hc=>?_⟩|intro)
   cases hun:m.d.un with
   | true=>
     rw [hun,if_pos rfl] at hsk
     refine SPY ?_; repeat' (first|refine ⟨fun hc=>?_,fun hc=>?_⟩|intro)
     rw [i64_succ (by omega),←hsa]
     exact Fin.round ⟨i+1,K,ka,kn,kc,kb⟩ ⟨hi',hsk.symm,by dsimp only; omega,hown⟩ envA (fun _ h=>h) (by dsimp only; omega)
   | false=>
   rw [hun,if_neg (by decide)] at hsk
   refine SPQ ?_; repeat' (first|refine ⟨fun hc=>?_,fun hc=>?_⟩|intro)
   refine W.loop (G:=GDk) (fun g=>[(1,.slice (some ⟨b,off,none⟩) sn sc),(4,.pointer (some ⟨b4,0,none⟩)),(6,.pointer (some ⟨b6,0,none⟩)),(8,.int .i64 i),(9,.int .i64 g.k)]) (fun _=>(b6,.cells [.int .u32 ml.d.tsn,.slice ka kn kc].toArray 57 (0,0))::(b4,.cells [.int .u32 0,.slice none 0 0].toArray 57 (0,0))::kb)
    (fun g=>g.k≤K.length∧∀ (j:Nat) q,j < g.k→K[j]? = some q→q.st≠m.d.stream) (fun g=>K.length - g.k) ⟨0⟩ ⟨Nat.zero_le _,fun j q hj=>absurd hj (Nat.not_lt_zero _)⟩ envA (fun _ h=>h) ?_
   rintro ⟨k⟩ ⟨hk,hno⟩
   dsimp only at hk hno ⊢
   have hkn':kn=K.length:=by omega
   by_cases hkk:k < kn
   · obtain ⟨q,hq⟩:∃ q,K[k]? = some q:=⟨K[k]'(by omega),List.getElem?_eq_getElem _⟩
     obtain ⟨sb,so,hka,hkc⟩:=(Lst.own (F:=F) hown (fun _ h=>h)).el skC_len hq (by omega)
     have hk0:=hkc.one (i:=0) rfl
     have hk1:=hkc.one (i:=1) rfl
     have hij:0≤(k:Int)∧(k:Int) < kn:=by omega
     have hne:((k:Int) == (kn:Int))=false:=by simp; omega
     rw [hka] at hown ⊢
     refine SPQ ?_; repeat' (first|refine ⟨fun hc=>?_,fun hc=>?_⟩|intro)
     refine W.drawA ?_
     refine SPQ ?_; repeat' (first|refine ⟨fun hc=>?_,fun hc=>?_⟩|intro)
     · cases hst:(q.st != m.d.stream) with
       | true=>
         have hst':q.st≠m.d.stream:=by simpa using hst
         refine SPY ?_; repeat' (first|refine ⟨fun hc=>?_,fun hc=>?_⟩|intro)
         rw [i64_succ (by omega),←hka]
         refine Fin.round ⟨k+1⟩ ⟨by dsimp only; omega,fun j p hj hp=>?_⟩ envA (fun _ h=>h) (by dsimp only; omega)
         dsimp only at hj
         by_cases hjk:j < k
         · exact hno j p hjk hp
         · rw [show j=k by omega,hq] at hp
           cases hp
           exact hst'
       | false=>
         have hst':q.st=m.d.stream:=by simpa using hst
         rw [Snd.skipIn_at hq hst' hno,←hst'] at hsk
         refine SPQ ?_; repeat' (first|refine ⟨fun hc=>?_,fun hc=>?_⟩|intro)
         rw [hne]
         refine SPQ ?_; repeat' (first|refine ⟨fun hc=>?_,fun hc=>?_⟩|intro)
         refine W.drawA ?_
         refine SPQ ?_; repeat' (first|refine ⟨fun hc=>?_,fun hc=>?_⟩|intro)
         refine WD.e rfl (Ef.callR (by exact rfl) (.nil _) (rless16_tr _ q.n m.d.ssn)) ?_
         rintro _ _ ⟨rfl,rfl⟩
         refine ⟨.inr (fun _ h=>h),?_⟩
         refine SPQ ?_; repeat' (first|refine ⟨fun hc=>?_,fun hc=>?_⟩|intro)
         cases hl16:Rm.less16 q.n m.d.ssn with
         | true=>
           rw [hl16,if_pos rfl] at hsk
           obtain ⟨hb3,hown3,hput3⟩:=hown.put (k * 2+1) [.int .u16 m.d.ssn] (by rw [flat_len' skC 2 skC_len]; simp; omega)
           have hput4:PutAt sb (so+(k:Int).toNat * 2+1) [.int .u16 m.d.ssn] kb hb3:=hput3
           refine SPY ?_; repeat' (first|refine ⟨fun hc=>?_,fun hc=>?_⟩|intro)
           refine W.drawA ?_
           refine SPY ?_; repeat' (first|refine ⟨fun hc=>?_,fun hc=>?_⟩|intro)
           refine WD.e0 (Ef.st rfl rfl rfl (.there (.there hput4))) ?_
           rintro _ _ ⟨rfl,rfl⟩
           refine ⟨.inl (by kernel_rfl),?_⟩
           refine SPY ?_; repeat' (first|refine ⟨fun hc=>?_,fun hc=>?_⟩|intro)
           rw [i64_succ (by omega),←hsa]
           refine Fin.round ⟨i+1,K.set k ⟨q.st,m.d.ssn⟩,some ⟨sb,so,none⟩,kn,kc,hb3⟩ ⟨hi',hsk.symm,by dsimp only; rw [List.length_set]; omega,?_⟩ envA (fun _ h=>h) (by dsimp only; omega)
           dsimp only
           rw [←skC_set hq]
           exact hown3
         | false=>
           rw [hl16,if_neg (by decide)] at hsk
           have hself:K.set k ⟨q.st,q.n⟩=K:=by
            obtain ⟨hlt,he⟩:=List.getElem?_eq_some_iff.1 hq
            have:(⟨q.st,q.n⟩:Rm.Sk)=K[k]:=he.symm
            rw [this]
            exact List.set_getElem_self hlt
           rw [hself] at hsk
           refine SPY ?_; repeat' (first|refine ⟨fun hc=>?_,fun hc=>?_⟩|intro)
           rw [i64_succ (by omega),←hsa]
           exact Fin.round ⟨i+1,K,some ⟨sb,so,none⟩,kn,kc,kb⟩ ⟨hi',hsk.symm,by dsimp only; omega,hown⟩ envA (fun _ h=>h) (by dsimp only; omega)
     · exfalso
       have:=of_decide_eq_false hc
       omega
   · have hke:k=kn:=by omega
     have hnoall:∀ p ∈ K,p.st≠m.d.stream:=fun p hp=>by
      obtain ⟨j,hj⟩:=List.getElem?_of_mem hp
      exact hno j p (by have:=(List.getElem?_eq_some_iff.1 hj).1; omega) hj
     rw [Snd.skipIn_new hnoall] at hsk
     have heq:((k:Int) == (kn:Int))=true:=by simp; omega
     refine SPQ ?_; repeat' (first|refine ⟨fun hc=>?_,fun hc=>?_⟩|intro)
     refine W.drawA ?_
     refine SPQ ?_; repeat' (first|refine ⟨fun hc=>?_,fun hc=>?_⟩|intro)
     · exfalso
       have:=of_decide_eq_true hc
       omega
     rw [heq]
     refine SPQ ?_; repeat' (first|refine ⟨fun hc=>?_,fun hc=>?_⟩|intro)
     refine W.drawA ?_
     refine SPQ ?_; repeat' (first|refine ⟨fun hc=>?_,fun hc=>?_⟩|intro)
     refine WD.e rfl (Ef.app (m:=1) (news:=skC ⟨m.d.stream,m.d.ssn⟩) (hb:=kb) (by exact rfl) (by exact rfl) rfl rfl hown (.last (.there (.there (.there .all)))) (Src.own (n:=2) (.here rfl)) rfl (skC_one _) (by rw [flat_len' skC 2 skC_len,skC_len]; omega) (by rw [flat_len' skC 2 skC_len,skC_len]; simp only [maxLen]; omega)) ?_
     rintro v' _ ⟨hb',hown',rfl⟩
     refine ⟨.inl (by kernel_rfl),?_⟩
     obtain ⟨ja,jn,jc,rfl,_,_⟩:=OwnS.shape hown'
     have hown':OwnS 239 2 ((K++[(⟨m.d.stream,m.d.ssn⟩:Rm.Sk)]).flatMap skC) (.slice ja jn jc) hb':=by rw [List.flatMap_append]; simpa using hown'
     have hjn:jn=K.length+1:=by have:=OwnS.len hown'; rw [flat_len' skC 2 skC_len] at this; simp at this; omega
     have hq:(K++[(⟨m.d.stream,m.d.ssn⟩:Rm.Sk)])[k]? = some ⟨m.d.stream,m.d.ssn⟩:=by rw [List.getElem?_append_right (by omega),show k - K.length=0 by omega]; rfl
     obtain ⟨sb,so,hka,hkc⟩:=(Lst.own (F:=F) hown' (fun _ h=>h)).el skC_len hq (by omega)
     have hk1:=hkc.one (i:=1) rfl
     have hij:0≤(k:Int)∧(k:Int) < jn:=by omega
     refine SPQ ?_; repeat' (first|refine ⟨fun hc=>?_,fun hc=>?_⟩|intro)
     rw [hka]
     refine W.drawA ?_
     refine SPQ ?_; repeat' (first|refine ⟨fun hc=>?_,fun hc=>?_⟩|intro)
     refine WD.e rfl (Ef.callR (by exact rfl) (.nil _) (rless16_tr _ m.d.ssn m.d.ssn)) ?_
     rintro _ _ ⟨rfl,rfl⟩
     refine ⟨.inr (fun _ h=>h),?_⟩
     rw [less16_self]
     refine SPY ?_; repeat' (first|refine ⟨fun hc=>?_,fun hc=>?_⟩|intro)
     rw [i64_succ (by omega),←hsa,←hka]
     refine Fin.round ⟨i+1,K++[⟨m.d.stream,m.d.ssn⟩],ja,jn,jc,hb'⟩ ⟨hi',hsk.symm,by dsimp only; rw [List.length_append,List.length_singleton]; omega,hown'⟩ envA (fun _ h=>?_) (by dsimp only; omega)
     exact In.of_sub (.pick (.right (.there .here)) (.pick (.right (.there .here)) (.last .here))) h
theorem dcut_tr (F:Nat→Option Obj) (y:Int) (sk:List Rm.Sk) (ka:Option Addr) (kn kc:Nat) (hl:Lst F [] 2 (sk.flatMap skC) ka kn kc) (hn:sk.length≤1000000) (most:Int) (hm:0≤most∧most≤2000):Tr Tryz.prog 112 [.agg [.int .u32 y,.slice ka kn kc].toArray,.int .i64 most].toArray F [] (fun v H=>∃ (sa':Option Addr) (sn' sc':Nat),v=.slice sa' sn' sc'∧OwnS 239 2 ((Snd.cutSk sk most).flatMap skC) (.slice sa' sn' sc') H):=by
 refine Tr.enter Tryz.func112 rfl Tryz.ntmps112 rfl (fun w0=>?_)
 have hlen:sk.length=kn:=by have:=hl.len; rw [flat_len' skC 2 skC_len] at this; omega
 have hcap:=hl.cap
 refine SPQ ?_; repeat' (first|refine ⟨fun hc=>?_,fun hc=>?_⟩|intro)
 rename_i b2
 refine W.loop (G:=GDk) (fun g=>[(1,.int .i64 most),(2,.pointer (some ⟨b2,0,none⟩)),(5,.int .i64 g.k)]) (fun _=>[(b2,.cells [.int .u32 y,.slice ka kn kc].toArray 57 (0,0))])
  (fun g=>g.k≤kn∧(0 < g.k→4+4 * (g.k:Int)≤most)) (fun g=>kn - g.k) ⟨0⟩ ⟨Nat.zero_le _,fun h=>absurd h (Nat.not_lt_zero _)⟩ envA (fun _ h=>h) ?_
 rintro ⟨k⟩ ⟨hk,hno⟩
 dsimp only at hk hno ⊢
 have hend:(k < kn→most < 4+4 * ((k:Int)+1))→Snd.cutSk sk most=sk.take k:=fun h=>by
  unfold Snd.cutSk
  congr 1
  rw [Pth.mx_eq,Pth.mn_eq]
  omega
 refine SPQ ?_; repeat' (first|refine ⟨fun hc=>?_,fun hc=>?_⟩|intro)
 · have hk1:=of_decide_eq_true hc
   rw [i64_id (n:=(k:Int)+1) (by omega) (by omega),i64_id (n:=4 * ((k:Int)+1)) (by omega) (by omega),i64_id (by omega) (by omega)]
   cases hc2:decide (4+4 * ((k:Int)+1)≤most) with
   | true=>
     have:=of_decide_eq_true hc2
     refine SPQ ?_; repeat' (first|refine ⟨fun hc=>?_,fun hc=>?_⟩|intro)
     rw [i64_succ (by omega)]
     exact Fin.round ⟨k+1⟩ ⟨by dsimp only; omega,fun _=>by dsimp only; omega⟩ envA (fun _ h=>h) (by dsimp only; omega)
   | false=>
     have:=of_decide_eq_false hc2
     rw [hend (fun _=>by omega)]
     refine SPQ ?_; repeat' (first|refine ⟨fun hc=>?_,fun hc=>?_⟩|intro)
     rename_i be
     refine WL.p rfl (by exact Pu.slHi rfl rfl (by omega)) ?_
     rw [show ((k:Int)).toNat=k from rfl]
     refine WL.e rfl (Ef.app (m:=k) (news:=(sk.take k).flatMap skC) (xs:=[]) (by exact rfl) (by exact rfl) rfl rfl (OwnS.empty _ _ be) (.last .here) (Lst.take skC_len hl (by decide) (k:=k) (by omega)).any.src (by rw [flat_len' skC 2 skC_len,List.length_take]; omega) (skC_ones _) (by rw [flat_len' skC 2 skC_len,List.length_take]; simp; omega) (by rw [flat_len' skC 2 skC_len,List.length_take]; simp [maxLen]; omega)) ?_
     rintro v' _ ⟨hb',hown',rfl⟩
     obtain ⟨sa',sn',sc',rfl,_,_⟩:=OwnS.shape hown'
     refine SPQ ?_; repeat' (first|refine ⟨fun hc=>?_,fun hc=>?_⟩|intro)
     exact Fin.retW (by exact rfl) resA (H':=hb') (fun _ h=>h.left) ⟨sa',sn',sc',rfl,hown'⟩
 · have hk1:=of_decide_eq_false hc
   rw [hend (fun h=>by omega)]
   rename_i be
   refine WL.p rfl (by exact Pu.slHi rfl rfl (by omega)) ?_
   rw [show ((k:Int)).toNat=k from rfl]
   refine WL.e rfl (Ef.app (m:=k) (news:=(sk.take k).flatMap skC) (xs:=[]) (by exact rfl) (by exact rfl) rfl rfl (OwnS.empty _ _ be) (.last .here) (Lst.take skC_len hl (by decide) (k:=k) (by omega)).any.src (by rw [flat_len' skC 2 skC_len,List.length_take]; omega) (skC_ones _) (by rw [flat_len' skC 2 skC_len,List.length_take]; simp; omega) (by rw [flat_len' skC 2 skC_len,List.length_take]; simp [maxLen]; omega)) ?_
   rintro v' _ ⟨hb',hown',rfl⟩
   obtain ⟨sa',sn',sc',rfl,_,_⟩:=OwnS.shape hown'
   refine SPQ ?_; repeat' (first|refine ⟨fun hc=>?_,fun hc=>?_⟩|intro)
   exact Fin.retW (by exact rfl) resA (H':=hb') (fun _ h=>h.left) ⟨sa',sn',sc',rfl,hown'⟩
end Go.Proofs.YtlfpemmdehmbfaaGreat
