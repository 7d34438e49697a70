/- Some texts as one. A path of an end, in plain Lean: the time that it is waited, the room, failures and heartbeats. No conditions: definitions and laws. A queue of messages that wait, in plain Lean: put, cut into pieces, let go when their time is over. No conditions: definitions and laws. Lists in memory that can be read: their elements, their first part; small facts on widths. No conditions: laws only. -/
import Derived.Test.YtlfpemmdehmbfaaGreatBuD
import Derived.Test.YtlfpemmdehmbfaaGreatBuC
namespace Go.Pth
open Go
abbrev mn (a b:Int):Int:=min a b
abbrev mx (a b:Int):Int:=max a b
theorem mn_eq (a b:Int):mn a b=min a b:=rfl
theorem mx_eq (a b:Int):mx a b=max a b:=rfl
theorem go_mn (a b:Int):(if b < a then b else a)=min a b:=by omega
theorem go_mx (a b:Int):(if b > a then b else a)=max a b:=by omega
structure Rto where
 value:Int
 least:Int
 most:Int
 any:Bool
 smooth:Int
 vary:Int
structure Win where
 mtu:Int
 most:Int
 size:Int
 thresh:Int
 part:Int
structure S where
 r:Rto
 w:Win
 bad:Int
 may:Int
 next:Int
 beat:Int
 opn:Bool
structure Rto.Ok (r:Rto):Prop where
 least:1≤r.least
 lv:r.least≤r.value
 vm:r.value≤r.most
 most:r.most≤1048576
 smooth:0≤r.smooth∧r.smooth≤8388608
 vary:0≤r.vary∧r.vary≤4194304
structure Win.Ok (w:Win):Prop where
 mtu:128≤w.mtu∧w.mtu≤1500
 most:4 * w.mtu≤w.most∧w.most≤16777216
 size:w.mtu≤w.size∧w.size≤w.most
 thresh:0≤w.thresh∧w.thresh≤w.most
structure Ok (s:S):Prop where
 r:s.r.Ok
 w:s.w.Ok
 bad:0≤s.bad∧s.bad≤s.may+1
 may:0≤s.may∧s.may≤20
 beat:1≤s.beat∧s.beat≤1048576
 next:0≤s.next∧s.next≤2305843009213693952+2097152
def rtoMay (first least most:Int):Bool:=decide (1≤least∧most≤1048576∧least≤first∧first≤most)
def rtoNew (first least most:Int):Rto:=⟨first,least,most,false,0,0⟩
def winMay (mtu most:Int):Bool:=decide (128≤mtu∧mtu≤1500∧4 * mtu≤most∧most≤16777216)
def winNew (mtu most:Int):Win:=⟨mtu,most,2 * mtu,most,0⟩
theorem rtoNew_ok {f l m:Int} (h:rtoMay f l m=true):(rtoNew f l m).Ok:=by
 have:=of_decide_eq_true h
 exact ⟨by dsimp [rtoNew]; omega,by dsimp [rtoNew]; omega,by dsimp [rtoNew]; omega,by dsimp [rtoNew]; omega,by dsimp [rtoNew]; omega,by dsimp [rtoNew]; omega⟩
theorem winNew_ok {m c:Int} (h:winMay m c=true):(winNew m c).Ok:=by
 have:=of_decide_eq_true h
 exact ⟨by dsimp [winNew]; omega,by dsimp [winNew]; omega,by dsimp [winNew]; omega,by dsimp [winNew]; omega⟩
def dev (r:Rto) (t:Int):Int:=mx (r.smooth / 8 - t) (0 - (r.smooth / 8 - t))
def mid (r:Rto) (t:Int):Rto:=if r.any then { r with vary:=r.vary+(dev r t - r.vary / 4),smooth:=r.smooth+(t - r.smooth / 8) } else { r with any:=true,smooth:=8 * t,vary:=2 * t }
def fit (r:Rto):Rto:={ r with value:=mn (mx (r.smooth / 8+mx 1 r.vary) r.least) r.most }
def sample (r:Rto) (t:Int):Rto:=fit (mid r (mn t 1048576))
def back (r:Rto):Rto:={ r with value:=mn (2 * r.value) r.most }
theorem mid_least (r:Rto) (t:Int):(mid r t).least=r.least∧(mid r t).most=r.most:=by unfold mid; split <;> exact ⟨rfl,rfl⟩
theorem mid_rng {r:Rto} (h:r.Ok) {t:Int} (ht:0≤t∧t≤1048576):(0≤(mid r t).smooth∧(mid r t).smooth≤8388608)∧0≤(mid r t).vary∧(mid r t).vary≤4194304:=by
 have hs:=h.smooth
 have hv:=h.vary
 unfold mid
 split
 · dsimp only [dev]
   rw [mx_eq]
   omega
 · dsimp only
   omega
theorem sample_ok {r:Rto} (h:r.Ok) {t:Int} (ht:0≤t):(sample r t).Ok:=by
 have h1:=mid_rng h (t:=mn t 1048576) (by rw [mn_eq]; omega)
 have h2:=mid_least r (mn t 1048576)
 have a:=h.least; have b:=h.lv; have c:=h.vm; have d:=h.most
 obtain ⟨q,hq⟩:∃ q,mid r (mn t 1048576)=q:=⟨_,rfl⟩
 unfold sample fit
 rw [hq] at h1 h2 ⊢
 obtain ⟨h2,h3⟩:=h2
 exact ⟨by dsimp only; omega,by dsimp only; rw [mn_eq,mx_eq]; omega,by dsimp only; rw [mn_eq,mx_eq]; omega,by dsimp only; omega,h1.1,h1.2⟩
theorem back_ok {r:Rto} (h:r.Ok):(back r).Ok:=by
 have a:=h.least; have b:=h.lv; have c:=h.vm; have d:=h.most
 unfold back
 exact ⟨a,by dsimp only; rw [mn_eq]; omega,by dsimp only; rw [mn_eq]; omega,d,h.smooth,h.vary⟩
def slow (w:Win) (n:Int) (full:Bool):Win:=if full then { w with size:=w.size+mn n w.mtu } else w
def avoid (w:Win) (n:Int) (full:Bool):Win:=
 let p:=IntKind.i64.wrap (w.part+mn n w.most)
 if full && decide (p≥w.size) then { w with part:=IntKind.i64.wrap (p - w.size),size:=w.size+w.mtu } else { w with part:=p }
def cap (w:Win):Win:={ w with size:=mn w.size w.most }
def winAcked (w:Win) (n:Int) (full:Bool):Win:=if n < 1 then w else cap (if w.size > w.thresh then avoid w n full else slow w n full)
def winFast (w:Win):Win:={ w with thresh:=mx (w.size / 2) (4 * w.mtu),part:=0,size:=mn w.size (mx (w.size / 2) (4 * w.mtu)) }
def winLate (w:Win):Win:={ w with thresh:=mx (w.size / 2) (4 * w.mtu),part:=0,size:=w.mtu }
theorem winAcked_ok {w:Win} (h:w.Ok) (n:Int) (full:Bool):(winAcked w n full).Ok:=by
 have a:=h.mtu; have b:=h.most; have c:=h.size; have d:=h.thresh
 unfold winAcked
 split
 · exact h
 · unfold cap
   split
   · unfold avoid
     dsimp only
     split
     · exact ⟨a,b,by dsimp only; rw [mn_eq]; omega,d⟩
     · exact ⟨a,b,by dsimp only; rw [mn_eq]; omega,d⟩
   · unfold slow
     split
     · refine ⟨a,b,?_,d⟩
       dsimp only
       rw [mn_eq,mn_eq]
       omega
     · exact ⟨a,b,by dsimp only; rw [mn_eq]; omega,d⟩
theorem winFast_ok {w:Win} (h:w.Ok):(winFast w).Ok:=by
 have a:=h.mtu; have b:=h.most; have c:=h.size; have d:=h.thresh
 unfold winFast
 exact ⟨a,b,by dsimp only; rw [mn_eq,mx_eq]; omega,by dsimp only; rw [mx_eq]; omega⟩
theorem winLate_ok {w:Win} (h:w.Ok):(winLate w).Ok:=by
 have a:=h.mtu; have b:=h.most; have c:=h.size; have d:=h.thresh
 unfold winLate
 exact ⟨a,b,by dsimp only; omega,by dsimp only; rw [mx_eq]; omega⟩
def active (s:S):Bool:=decide (s.bad≤s.may)
def fails (s:S):S:={ s with bad:=mn (s.bad+1) (s.may+1),r:=back s.r }
def answered (s:S):S:={ s with bad:=0,opn:=false }
def sampled (s:S) (t:Int):S:={ s with r:=sample s.r t }
def acked (s:S) (n:Int) (full:Bool):S:={ s with w:=winAcked s.w n full }
def fast (s:S):S:={ s with w:=winFast s.w }
def late (s:S):S:=fails { s with w:=winLate s.w }
def lateA (s:S):Bool:=active s && !active (late s)
def beats (s:S) (now:Int):Bool:=decide (s.next≤now)
def beaten (s:S) (sent now:Int):Bool:=s.opn && decide (0≤sent) && decide (sent≤now)
def beatS (s:S) (now:Int):S:=
 if beats s now then
  let q:=if s.opn then fails s else s
  { q with opn:=true,next:=mn now 2305843009213693952+q.r.value+q.beat }
 else s
def beatenS (s:S) (sent now:Int):S:=if beaten s sent now then sampled (answered s) (now - sent) else s
def may (init least most mtu cap retrans beat now:Int):Bool:=rtoMay init least most && (winMay mtu cap && decide (0≤retrans∧retrans≤20∧1≤beat∧beat≤1048576∧0≤now∧now≤2305843009213693952))
def new (init least most mtu cap retrans beat now:Int):S:=⟨rtoNew init least most,winNew mtu cap,0,retrans,now+beat,beat,false⟩
theorem new_ok {i l m t c r b n:Int} (h:may i l m t c r b n=true):Ok (new i l m t c r b n):=by
 unfold may at h
 rw [Bool.and_eq_true,Bool.and_eq_true] at h
 have h3:=of_decide_eq_true h.2.2
 exact ⟨rtoNew_ok h.1,winNew_ok h.2.1,by dsimp [new]; omega,by dsimp [new]; omega,by dsimp [new]; omega,by dsimp [new]; omega⟩
theorem fails_ok {s:S} (h:Ok s):Ok (fails s):=by
 have:=h.bad; have:=h.may
 exact ⟨back_ok h.r,h.w,by dsimp [fails]; rw [mn_eq]; omega,h.may,h.beat,h.next⟩
theorem answered_ok {s:S} (h:Ok s):Ok (answered s):=by
 have:=h.may
 exact ⟨h.r,h.w,by dsimp [answered]; omega,h.may,h.beat,h.next⟩
theorem sampled_ok {s:S} (h:Ok s) {t:Int} (ht:0≤t):Ok (sampled s t):=⟨sample_ok h.r ht,h.w,h.bad,h.may,h.beat,h.next⟩
theorem acked_ok {s:S} (h:Ok s) (n:Int) (f:Bool):Ok (acked s n f):=⟨h.r,winAcked_ok h.w n f,h.bad,h.may,h.beat,h.next⟩
theorem fast_ok {s:S} (h:Ok s):Ok (fast s):=⟨h.r,winFast_ok h.w,h.bad,h.may,h.beat,h.next⟩
theorem late_ok {s:S} (h:Ok s):Ok (late s):=fails_ok ⟨h.r,winLate_ok h.w,h.bad,h.may,h.beat,h.next⟩
theorem beatS_ok {s:S} (h:Ok s) (now:Int):Ok (beatS s now):=by
 unfold beatS
 split
 · rename_i hb
   have hb:=of_decide_eq_true hb
   have hq:Ok (if s.opn then fails s else s):=by split; exact fails_ok h; exact h
   dsimp only
   generalize (if s.opn then fails s else s)=q at hq
   have h1:=hq.r.least; have h2:=hq.r.lv; have h3:=hq.r.vm; have h4:=hq.r.most; have h5:=hq.beat; have h6:=h.next
   exact ⟨hq.r,hq.w,hq.bad,hq.may,hq.beat,by dsimp only; rw [mn_eq]; omega⟩
 · exact h
theorem beatenS_ok {s:S} (h:Ok s) (sent now:Int):Ok (beatenS s sent now):=by
 unfold beatenS
 split
 · rename_i hb
   unfold beaten at hb
   rw [Bool.and_eq_true,Bool.and_eq_true] at hb
   have:=of_decide_eq_true hb.1.2
   have:=of_decide_eq_true hb.2
   exact sampled_ok (answered_ok h) (by omega)
 · exact h
end Go.Pth
namespace Go.Oq
open Go Go.Pth
structure It where
 stream:Int
 ord:Bool
 bs:List UInt8
 id:Int
 til:Int
 at_:Nat
 ssn:Int
structure S where
 L:List It
 many:Int
 room:Int
 used:Int
 ssn:List Int
abbrev u16 (n:Int):Int:=IntKind.u16.wrap n
def left (x:It):Nat:=x.bs.length - x.at_
structure It.Ok (x:It):Prop where
 stream:0≤x.stream∧x.stream < 16
 at_:x.at_ < x.bs.length
 size:x.bs.length≤1048576
 ssn:0≤x.ssn∧x.ssn < 65536
structure Ok (s:S):Prop where
 its:∀ x ∈ s.L,x.Ok∧x.stream < s.ssn.length
 room:1≤s.room∧s.room≤1048576
 used:0≤s.used∧s.used≤s.room
 streams:1≤s.ssn.length∧s.ssn.length≤16
 ssn:∀ n ∈ s.ssn,0≤n∧n < 65536
def may (streams room:Int):Bool:=decide (1≤streams∧streams≤16∧1≤room∧room≤1048576)
def new (streams room:Int):S:=⟨[],0,room,0,List.replicate streams.toNat 0⟩
theorem new_ok {n r:Int} (h:may n r=true):Ok (new n r):=by
 have:=of_decide_eq_true h
 exact ⟨by simp [new],by dsimp [new]; omega,by dsimp [new]; omega,by simp [new]; omega,fun m hm=>by rw [(List.mem_replicate.1 hm).2]; omega⟩
def putE (s:S) (stream:Int) (n:Nat) (til:Int):Int:=if til < 0 then 1 else if (s.ssn.length:Int)≤stream then 4 else if n=0∨s.room < n then 5 else if s.room - s.used < n then 6 else 0
def item (s:S) (stream:Int) (ord:Bool) (bs:List UInt8) (til:Int):It:=⟨stream,ord,bs,s.many,til,0,0⟩
def put (s:S) (stream:Int) (ord:Bool) (bs:List UInt8) (til:Int):S:=
 if putE s stream bs.length til=0 then { s with L:=s.L++[item s stream ord bs til],many:=s.many+1,used:=s.used+bs.length } else s
theorem put_ok {s:S} (h:Ok s) {stream:Int} (hs:0≤stream) (ord:Bool) (bs:List UInt8) (til:Int):Ok (put s stream ord bs til):=by
 unfold put
 split
 · rename_i he
   unfold putE at he
   have h1:=h.room; have h2:=h.used; have h3:=h.streams
   split at he
   · omega
   · split at he
     · omega
     · split at he
       · omega
       · split at he
         · omega
         · refine ⟨fun x hx=>?_,h1,by dsimp only; omega,h3,h.ssn⟩
           rcases List.mem_append.1 hx with hx | hx
           · exact h.its x hx
           · rw [List.mem_singleton.1 hx]
             exact ⟨⟨by dsimp [item]; omega,by dsimp [item]; omega,by dsimp [item]; omega,by dsimp [item]; omega⟩,by dsimp [item]; omega⟩
 · exact h
def endAt (x:It) (most:Int):Nat:=x.at_+(mn most (left x)).toNat
def first (x:It):Bool:=decide (x.at_=0)
def numbers (x:It):Bool:=first x && x.ord
def ssnOf (s:S) (x:It):Int:=s.ssn.getD x.stream.toNat 0
def cutI (s:S) (x:It) (most:Int):It:={ x with at_:=endAt x most,ssn:=if numbers x then ssnOf s x else x.ssn }
def lastB (x:It) (most:Int):Bool:=decide (endAt x most=x.bs.length)
def cutD (s:S) (x:It) (most:Int):Flt.Dt:=⟨0,x.stream,if numbers x then ssnOf s x else x.ssn,!x.ord,first x,lastB x most,(x.bs.drop x.at_).take (endAt x most - x.at_)⟩
def ssns (s:S) (x:It):List Int:=if numbers x then s.ssn.set x.stream.toNat (u16 (ssnOf s x+1)) else s.ssn
def nextS (s:S) (x:It) (r:List It) (most:Int):S:={ s with L:=if lastB x most then r else cutI s x most::r,ssn:=ssns s x }
def next (s:S) (most:Int):Option (Flt.Dt × Int × S):=if most < 1 then none else match s.L with
 | []=>none
 | x::r=>some (cutD s x most,x.id,nextS s x r most)
def size (s:S):Nat:=match s.L with | []=>0 | x::_=>left x
theorem endAt_le {x:It} (h:x.Ok) {most:Int}:endAt x most≤x.bs.length:=by
 have:=h.at_
 unfold endAt
 rw [mn_eq]
 unfold left
 omega
theorem endAt_lt {x:It} (h:x.Ok) {most:Int} (hm:1≤most):x.at_ < endAt x most:=by
 have:=h.at_
 unfold endAt
 rw [mn_eq]
 unfold left
 omega
theorem ssnOf_rng {s:S} (h:Ok s) (x:It):0≤ssnOf s x∧ssnOf s x < 65536:=by
 unfold ssnOf
 rw [List.getD_eq_getElem?_getD]
 cases hx:s.ssn[x.stream.toNat]? with
 | none=>simp
 | some n=>exact h.ssn n (List.mem_of_getElem? hx)
theorem u16_rng (n:Int):0≤u16 n∧u16 n < 65536:=by
 have:u16 n=n % 65536:=by simp [u16,IntKind.wrap,IntKind.bits,IntKind.signed]
 rw [this]; omega
theorem ssns_len (s:S) (x:It):(ssns s x).length=s.ssn.length:=by unfold ssns; split; simp; rfl
theorem ssns_rng {s:S} (h:Ok s) (x:It):∀ n ∈ ssns s x,0≤n∧n < 65536:=by
 unfold ssns
 split
 · intro n hn
   rcases List.mem_or_eq_of_mem_set hn with hn | rfl
   · exact h.ssn n hn
   · exact u16_rng _
 · exact h.ssn
theorem nextS_ok {s:S} (h:Ok s) {x:It} {r:List It} (hL:s.L=x::r) (most:Int):Ok (nextS s x r most):=by
 have hx:=h.its x (by rw [hL]; exact List.mem_cons_self)
 have hr:∀ y ∈ r,y.Ok∧y.stream < s.ssn.length:=fun y hy=>h.its y (by rw [hL]; exact List.mem_cons_of_mem _ hy)
 unfold nextS
 refine ⟨?_,h.room,h.used,by dsimp only; rw [ssns_len]; exact h.streams,ssns_rng h x⟩
 dsimp only
 rw [ssns_len]
 split
 · exact hr
 · rename_i hb
   intro y hy
   rcases List.mem_cons.1 hy with rfl | hy
   · have h1:=endAt_le hx.1 (most:=most)
     have h2:endAt x most≠x.bs.length:=fun e=>hb (decide_eq_true e)
     refine ⟨⟨hx.1.stream,by dsimp [cutI]; omega,hx.1.size,?_⟩,hx.2⟩
     dsimp only [cutI]
     split
     · exact ssnOf_rng h x
     · exact hx.1.ssn
   · exact hr y hy
def dead (now:Int) (x:It):Bool:=decide (1≤x.til∧x.til≤now)
def begun (x:It):Bool:=decide (0 < x.at_)
def rest (x:It):Flt.Dt:=⟨0,x.stream,x.ssn,!x.ord,false,true,[0]⟩
def noD:Flt.Dt:=⟨0,0,0,false,false,false,[]⟩
def goneI (x:It):Int:=(left x:Int) - if begun x then 1 else 0
def seeI (now:Int) (q:Int × Flt.Dt × Int × Bool) (x:It):Int × Flt.Dt × Int × Bool:=
 if dead now x then (if begun x then (q.1+goneI x,rest x,x.id,true) else (q.1+goneI x,q.2)) else q
def seen (s:S) (now:Int):Int × Flt.Dt × Int × Bool:=s.L.foldl (seeI now) (0,noD,0,false)
def free (s:S) (n:Int):S:={ s with used:=s.used - mn (mx n 0) s.used }
def expire (s:S) (now:Int):S:=free { s with L:=s.L.filter (fun x=>!dead now x) } (seen s now).1
def waiting (s:S):Nat:=(s.L.map left).sum
theorem free_ok {s:S} (h:Ok s) (n:Int):Ok (free s n):=by
 have:=h.used
 exact ⟨h.its,h.room,by dsimp only [free]; rw [mn_eq,mx_eq]; omega,h.streams,h.ssn⟩
theorem expire_ok {s:S} (h:Ok s) (now:Int):Ok (expire s now):=
 free_ok (s:={ s with L:=s.L.filter (fun x=>!dead now x) }) ⟨fun x hx=>h.its x (List.mem_filter.1 hx).1,h.room,h.used,h.streams,h.ssn⟩ _
end Go.Oq
namespace Go.Sl
open Go
theorem lst_len {F:Nat→Option Obj} {H:HL} {α:Type} {cells:α→List Value} {sz:Nat} (hc:∀ a,(cells a).length=sz) (hsz:0 < sz) {l:List α} {sa:Option Addr} {n c:Nat} (h:Lst F H sz (l.flatMap cells) sa n c):l.length=n:=by
 have hl:=h.len
 rw [flat_len' cells sz hc] at hl
 exact Nat.eq_of_mul_eq_mul_right hsz hl
theorem lst_int {F:Nat→Option Obj} {H:HL} {k:IntKind} {l:List Int} {sa:Option Addr} {n c:Nat} (h:Lst F H 1 (l.map (Value.int k)) sa n c):n=l.length:=by
 have:=h.len
 simp at this
 omega
theorem int_flat (k:IntKind) (l:List Int):l.flatMap (fun a:Int=>[Value.int k a])=l.map (Value.int k):=by
 induction l with
 | nil=>rfl
 | cons a l ih=>simp [ih]
theorem lst_el {F:Nat→Option Obj} {H:HL} {k:IntKind} {l:List Int} {sa:Option Addr} {n c:Nat} (h:Lst F H 1 (l.map (Value.int k)) sa n c) {i:Nat} {a:Int} (ha:l[i]? = some a):∃ b off,sa=some ⟨b,off,none⟩∧Sl.Can F H b (off+(i:Int).toNat * 1) [.int k a]:=by
 have hn:=lst_int h
 rw [←int_flat] at h
 exact h.el (cells:=fun a:Int=>[Value.int k a]) (fun _=>rfl) ha (by have:=(List.getElem?_eq_some_iff.1 ha).1; omega)
theorem Lst.take {F:Nat→Option Obj} {H:HL} {α:Type} {cells:α→List Value} {sz:Nat} (hc:∀ a,(cells a).length=sz) {l:List α} {sa:Option Addr} {n c:Nat} (h:Lst F H sz (l.flatMap cells) sa n c) (hsz:0 < sz) {k:Nat} (hk:k≤l.length):Lst F H sz ((l.take k).flatMap cells) sa k c:=by
 have hl:=h.len
 rw [flat_len' cells sz hc] at hl
 have hn:l.length=n:=Nat.eq_of_mul_eq_mul_right hsz hl
 have e:l.flatMap cells=(l.take k).flatMap cells++(l.drop k).flatMap cells:=by rw [←List.flatMap_append,List.take_append_drop]
 refine ⟨by rw [flat_len' cells sz hc,List.length_take,Nat.min_eq_left hk],Nat.le_trans (by omega) h.cap,fun h0=>?_,fun h0=>by have:=h.ok h0; omega⟩
 obtain ⟨b,off,rfl,hcan⟩:=h.can (by omega)
 refine ⟨b,off,rfl,fun w hw j u hu=>hcan w hw j u ?_⟩
 rw [e,List.getElem?_append_left (List.getElem?_eq_some_iff.1 hu).1]
 exact hu
theorem u32_id {n:Int} (h:0≤n∧n < 4294967296):IntKind.u32.wrap n=n:=by
 simp only [IntKind.wrap,IntKind.bits,IntKind.signed]
 simp
 omega
theorem W.fact {x:Cx} {K:Post} {c:Code} {env:Env} {H:HL} {φ:Prop} (h:∀ w,In x.F H w→φ) (next:φ→W x K c env H):W x K c env H:=⟨fun a w s=>(next (h w s.hin)).run a w s⟩
theorem WL.fact {x:Cx} {K:Post} {ops:Array Oper} {l:List Oper} {env:Env} {H:HL} {φ:Prop} (h:∀ w,In x.F H w→φ) (next:φ→WL x K ops l env H):WL x K ops l env H:=⟨fun a w s=>(next (h w s.hin)).run a w s⟩
end Go.Sl
