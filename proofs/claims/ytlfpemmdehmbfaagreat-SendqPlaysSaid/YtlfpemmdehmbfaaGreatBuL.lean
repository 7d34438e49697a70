/- Some texts as one. A config in memory. No conditions: definitions. A path of an end: the program's path, walked. Conditions: it is well formed. The document's estimator and window, walked: they do what the plain ones do. Conditions: they are well formed. The document's path, walked: it does what the plain one does. Conditions: it is well formed. A flight of pieces: lowest, take, span, walked: they answer as the plain functions do. Conditions: it is well formed; the paths are 0 to 3. -/
import Derived.Test.YtlfpemmdehmbfaaGreatBuA
import Derived.Test.YtlfpemmdehmbfaaGreatBuD
import Derived.Test.YtlfpemmdehmbfaaGreatBuG
import Derived.Test.YtlfpemmdehmbfaaGreatBuI
import Derived.Test.YtlfpemmdehmbfaaGreatBuH
import Derived.Test.YtlfpemmdehmbfaaGreatBuJ
namespace Go.Proofs.YtlfpemmdehmbfaaGreat
open Go Go.Sl
structure Cfg where
 paths:Int
 mtu:Int
 streams:Int
 sroom:Int
 rroom:Int
 cap:Int
 ri:Int
 rmin:Int
 rmax:Int
 delay:Int
 life:Int
 beat:Int
 retrans:Int
 tries:Int
def Cfg.cells (c:Cfg):List Value:=[.int .i64 c.paths,.int .i64 c.mtu,.int .i64 c.streams,.int .i64 c.sroom,.int .i64 c.rroom,.int .i64 c.cap,.int .i64 c.ri,.int .i64 c.rmin,.int .i64 c.rmax,.int .i64 c.delay,.int .i64 c.life,.int .i64 c.beat,.int .i64 c.retrans,.int .i64 c.tries]
end Go.Proofs.YtlfpemmdehmbfaaGreat
namespace Go.Proofs.YtlfpemmdehmbfaaGreat
open Go Go.Sl Go.Pth
structure PaM where
 P:Nat
 Q:Nat
 R:Nat
 V:Nat
 s:Pth.S
def stB (m:PaM):Nat × Obj:=(m.Q,.cells [ptr m.R,ptr m.V,.int .i64 m.s.bad,.int .i64 m.s.may,.int .i64 m.s.next,.int .i64 m.s.beat,.bool m.s.opn].toArray 159 (0,0))
def PaM.T (m:PaM):HL:=stB m::(rtoB m.R m.s.r++winB m.V m.s.w)
def PaM.H (m:PaM):HL:=(m.P,.cells [ptr m.Q].toArray 161 (0,0))::m.T
def PaM.ptr (m:PaM):Value:=.pointer (some ⟨m.P,0,none⟩)
def PaM.with (m:PaM) (s:Pth.S):PaM:={ m with s:=s }
theorem of_tr (F:Nat→Option Obj) (m:PaM):Tr Tryz.prog 116 [ptr m.P].toArray F m.H (fun v H=>v=ptr m.Q∧H=m.H):=by
 refine Tr.enter Tryz.func116 rfl Tryz.ntmps116 rfl (fun w0=>?_)
 unfold PaM.H
 refine SPU ?_; repeat' (first|refine ⟨fun hc=>?_,fun hc=>?_⟩|intro)
 exact Fin.retW (by exact rfl) resA (fun _ h=>h) ⟨rfl,rfl⟩
theorem active_tr (F:Nat→Option Obj) (m:PaM):Tr Tryz.prog 56 [ptr m.P].toArray F m.H (fun v H=>v=.bool (active m.s)∧H=m.H):=by
 refine Tr.enter Tryz.func56 rfl Tryz.ntmps56 rfl (fun w0=>?_)
 refine SPU ?_; repeat' (first|refine ⟨fun hc=>?_,fun hc=>?_⟩|intro)
 refine WD.e rfl (Ef.callR (by exact rfl) (.all _) (of_tr _ m)) ?_
 rintro _ _ ⟨rfl,rfl⟩
 refine ⟨.inr (fun _ h=>h),?_⟩
 unfold PaM.H PaM.T stB
 refine SPU ?_; repeat' (first|refine ⟨fun hc=>?_,fun hc=>?_⟩|intro)
 exact Fin.retW (by exact rfl) resA (fun _ h=>h) ⟨rfl,rfl⟩
theorem size_tr (F:Nat→Option Obj) (m:PaM):Tr Tryz.prog 54 [ptr m.P].toArray F m.H (fun v H=>v=.int .i64 m.s.w.size∧H=m.H):=by
 refine Tr.enter Tryz.func54 rfl Tryz.ntmps54 rfl (fun w0=>?_)
 refine SPU ?_; repeat' (first|refine ⟨fun hc=>?_,fun hc=>?_⟩|intro)
 refine WL.e rfl (Ef.callR (by exact rfl) (.all _) (of_tr _ m)) ?_
 rintro _ _ ⟨rfl,rfl⟩
 unfold PaM.H PaM.T stB
 refine SPU ?_; repeat' (first|refine ⟨fun hc=>?_,fun hc=>?_⟩|intro)
 refine WL.e rfl (Ef.callR (c:=winB m.V m.s.w) (by exact rfl) (.last (.there (.there (.right .all)))) (wsize_tr _ m.V m.s.w)) ?_
 rintro _ _ ⟨rfl,rfl⟩
 refine SPU ?_; repeat' (first|refine ⟨fun hc=>?_,fun hc=>?_⟩|intro)
 exact Fin.retW (by exact rfl) resA (fun _ h=>h) ⟨rfl,rfl⟩
theorem estRto_tr (F:Nat→Option Obj) (b:Nat) (r:Rto):Tr Tryz.prog 125 [.agg [ptr b].toArray].toArray F (rtoB b r) (fun v H=>v=.int .i64 r.value∧H=rtoB b r):=by
 refine Tr.enter Tryz.func125 rfl Tryz.ntmps125 rfl (fun w0=>?_)
 refine SPU ?_; repeat' (first|refine ⟨fun hc=>?_,fun hc=>?_⟩|intro)
 refine WL.e rfl (Ef.callR (c:=rtoB b r) (by exact rfl) (.last (.there .all)) (rvalue_tr _ b r)) ?_
 rintro _ _ ⟨rfl,rfl⟩
 refine SPU ?_; repeat' (first|refine ⟨fun hc=>?_,fun hc=>?_⟩|intro)
 exact Fin.retW (by exact rfl) resA (H':=rtoB b r) (fun _ h=>h.sublist (.cons _ (.refl _))) ⟨rfl,rfl⟩
theorem rto_tr (F:Nat→Option Obj) (m:PaM):Tr Tryz.prog 55 [ptr m.P].toArray F m.H (fun v H=>v=.int .i64 m.s.r.value∧H=m.H):=by
 refine Tr.enter Tryz.func55 rfl Tryz.ntmps55 rfl (fun w0=>?_)
 refine SPU ?_; repeat' (first|refine ⟨fun hc=>?_,fun hc=>?_⟩|intro)
 refine WL.e rfl (Ef.callR (by exact rfl) (.all _) (of_tr _ m)) ?_
 rintro _ _ ⟨rfl,rfl⟩
 unfold PaM.H PaM.T stB
 refine SPU ?_; repeat' (first|refine ⟨fun hc=>?_,fun hc=>?_⟩|intro)
 refine WL.e rfl (Ef.callR (c:=rtoB m.R m.s.r) (by exact rfl) (.last (.there (.there .here))) (estRto_tr _ m.R m.s.r)) ?_
 rintro _ _ ⟨rfl,rfl⟩
 refine SPU ?_; repeat' (first|refine ⟨fun hc=>?_,fun hc=>?_⟩|intro)
 exact Fin.retW (by exact rfl) resA (fun _ h=>h) ⟨rfl,rfl⟩
theorem pwhen_tr (F:Nat→Option Obj) (m:PaM):Tr Tryz.prog 49 [ptr m.P].toArray F m.H (fun v H=>v=.int .i64 m.s.next∧H=m.H):=by
 refine Tr.enter Tryz.func49 rfl Tryz.ntmps49 rfl (fun w0=>?_)
 refine SPU ?_; repeat' (first|refine ⟨fun hc=>?_,fun hc=>?_⟩|intro)
 refine WL.e rfl (Ef.callR (by exact rfl) (.all _) (of_tr _ m)) ?_
 rintro _ _ ⟨rfl,rfl⟩
 unfold PaM.H PaM.T stB
 refine SPU ?_; repeat' (first|refine ⟨fun hc=>?_,fun hc=>?_⟩|intro)
 exact Fin.retW (by exact rfl) resA (fun _ h=>h) ⟨rfl,rfl⟩
theorem answered_tr (F:Nat→Option Obj) (m:PaM):Tr Tryz.prog 144 [ptr m.P].toArray F m.H (fun v H=>v=.tuple #[]∧H=(m.with (answered m.s)).H):=by
 refine Tr.enter Tryz.func144 rfl Tryz.ntmps144 rfl (fun w0=>?_)
 refine SPU ?_; repeat' (first|refine ⟨fun hc=>?_,fun hc=>?_⟩|intro)
 refine WL.e rfl (Ef.callR (by exact rfl) (.all _) (of_tr _ m)) ?_
 rintro _ _ ⟨rfl,rfl⟩
 unfold PaM.H PaM.T stB
 refine SPU ?_; repeat' (first|refine ⟨fun hc=>?_,fun hc=>?_⟩|intro)
 exact Fin.endW (by exact rfl) resA (fun _ h=>h) ⟨rfl,rfl⟩
theorem sample_tr (F:Nat→Option Obj) (m:PaM) (hm:Ok m.s) (t:Int) (ht:0≤t):Tr Tryz.prog 145 [ptr m.P,.int .i64 t].toArray F m.H (fun v H=>v=.tuple #[]∧H=(m.with (sampled m.s t)).H):=by
 refine Tr.enter Tryz.func145 rfl Tryz.ntmps145 rfl (fun w0=>?_)
 refine SPU ?_; repeat' (first|refine ⟨fun hc=>?_,fun hc=>?_⟩|intro)
 refine WL.e rfl (Ef.callR (by exact rfl) (.all _) (of_tr _ m)) ?_
 rintro _ _ ⟨rfl,rfl⟩
 unfold PaM.H PaM.T stB
 refine SPU ?_; repeat' (first|refine ⟨fun hc=>?_,fun hc=>?_⟩|intro)
 refine WL.e rfl (Ef.call (c:=rtoB m.R m.s.r) (by exact rfl) (.last (.there (.there .here))) (rsample_tr _ m.R m.s.r hm.r t ht)) ?_
 rintro _ _ ⟨_,⟨rfl,rfl⟩,rfl⟩
 refine SPU ?_; repeat' (first|refine ⟨fun hc=>?_,fun hc=>?_⟩|intro)
 exact Fin.endW (by exact rfl) resA (H':=(m.with (sampled m.s t)).H) (fun _ h=>In.of_sub (.pick (.right .here) (.pick (.right .here) (.pickL (L:=rtoB m.R (Pth.sample m.s.r t)) .here (.last .all)))) h) ⟨rfl,rfl⟩
theorem acked_tr (F:Nat→Option Obj) (m:PaM) (hm:Ok m.s) (n:Int) (full:Bool):Tr Tryz.prog 146 [ptr m.P,.int .i64 n,.bool full].toArray F m.H (fun v H=>v=.tuple #[]∧H=(m.with (acked m.s n full)).H):=by
 refine Tr.enter Tryz.func146 rfl Tryz.ntmps146 rfl (fun w0=>?_)
 refine SPU ?_; repeat' (first|refine ⟨fun hc=>?_,fun hc=>?_⟩|intro)
 refine WL.e rfl (Ef.callR (by exact rfl) (.all _) (of_tr _ m)) ?_
 rintro _ _ ⟨rfl,rfl⟩
 unfold PaM.H PaM.T stB
 refine SPU ?_; repeat' (first|refine ⟨fun hc=>?_,fun hc=>?_⟩|intro)
 refine WL.e rfl (Ef.call (c:=winB m.V m.s.w) (by exact rfl) (.last (.there (.there (.right .all)))) (wacked_tr _ m.V m.s.w hm.w n full)) ?_
 rintro _ _ ⟨_,⟨rfl,rfl⟩,rfl⟩
 refine SPU ?_; repeat' (first|refine ⟨fun hc=>?_,fun hc=>?_⟩|intro)
 exact Fin.endW (by exact rfl) resA (H':=(m.with (acked m.s n full)).H) (fun _ h=>In.of_sub (.pick (.right .here) (.pick (.right .here) (.pickL (L:=rtoB m.R m.s.r) (.right .here) (.last (L:=winB m.V (winAcked m.s.w n full)) .here)))) h) ⟨rfl,rfl⟩
theorem fast_tr (F:Nat→Option Obj) (m:PaM) (hm:Ok m.s):Tr Tryz.prog 147 [ptr m.P].toArray F m.H (fun v H=>v=.tuple #[]∧H=(m.with (fast m.s)).H):=by
 refine Tr.enter Tryz.func147 rfl Tryz.ntmps147 rfl (fun w0=>?_)
 refine SPU ?_; repeat' (first|refine ⟨fun hc=>?_,fun hc=>?_⟩|intro)
 refine WL.e rfl (Ef.callR (by exact rfl) (.all _) (of_tr _ m)) ?_
 rintro _ _ ⟨rfl,rfl⟩
 unfold PaM.H PaM.T stB
 refine SPU ?_; repeat' (first|refine ⟨fun hc=>?_,fun hc=>?_⟩|intro)
 refine WL.e rfl (Ef.call (c:=winB m.V m.s.w) (by exact rfl) (.last (.there (.there (.right .all)))) (wfast_tr _ m.V m.s.w hm.w)) ?_
 rintro _ _ ⟨_,⟨rfl,rfl⟩,rfl⟩
 refine SPU ?_; repeat' (first|refine ⟨fun hc=>?_,fun hc=>?_⟩|intro)
 exact Fin.endW (by exact rfl) resA (H':=(m.with (fast m.s)).H) (fun _ h=>In.of_sub (.pick (.right .here) (.pick (.right .here) (.pickL (L:=rtoB m.R m.s.r) (.right .here) (.last (L:=winB m.V (winFast m.s.w)) .here)))) h) ⟨rfl,rfl⟩
theorem fails_tr (F:Nat→Option Obj) (m:PaM) (hm:Ok m.s):Tr Tryz.prog 157 [ptr m.Q].toArray F m.T (fun v H=>v=.tuple #[]∧H=(m.with (fails m.s)).T):=by
 refine Tr.enter Tryz.func157 rfl Tryz.ntmps157 rfl (fun w0=>?_)
 have h1:=hm.bad; have h2:=hm.may
 unfold PaM.T stB
 refine SPU ?_; repeat' (first|refine ⟨fun hc=>?_,fun hc=>?_⟩|intro)
 simp (disch:=omega) only [i64_id,Int.tdiv_eq_ediv_of_nonneg,Go.Pth.go_mx,Go.Pth.go_mn]
 refine WL.e rfl (Ef.call (c:=rtoB m.R m.s.r) (by exact rfl) (.last (.there .here)) (rback_tr _ m.R m.s.r hm.r)) ?_
 rintro _ _ ⟨_,⟨rfl,rfl⟩,rfl⟩
 refine SPU ?_; repeat' (first|refine ⟨fun hc=>?_,fun hc=>?_⟩|intro)
 exact Fin.endW (by exact rfl) resA (H':=(m.with (fails m.s)).T) (fun _ h=>In.of_sub (.pick (.right .here) (.pickL (L:=rtoB m.R (back m.s.r)) .here (.last .all))) h) ⟨rfl,rfl⟩
theorem late_tr (F:Nat→Option Obj) (m:PaM) (hm:Ok m.s):Tr Tryz.prog 84 [ptr m.P].toArray F m.H (fun v H=>v=.bool (lateA m.s)∧H=(m.with (late m.s)).H):=by
 refine Tr.enter Tryz.func84 rfl Tryz.ntmps84 rfl (fun w0=>?_)
 refine SPU ?_; repeat' (first|refine ⟨fun hc=>?_,fun hc=>?_⟩|intro)
 refine WL.e rfl (Ef.callR (by exact rfl) (.all _) (of_tr _ m)) ?_
 rintro _ _ ⟨rfl,rfl⟩
 unfold PaM.H PaM.T stB
 refine SPU ?_; repeat' (first|refine ⟨fun hc=>?_,fun hc=>?_⟩|intro)
 refine WL.e rfl (Ef.callR (c:=m.H) (by exact rfl) (.all _) (active_tr _ m)) ?_
 rintro _ _ ⟨rfl,rfl⟩
 obtain ⟨a,ha⟩:∃ a,active m.s=a:=⟨_,rfl⟩
 rw [ha]
 refine SPU ?_; repeat' (first|refine ⟨fun hc=>?_,fun hc=>?_⟩|intro)
 refine WL.e rfl (Ef.call (c:=winB m.V m.s.w) (by exact rfl) (.last (.there (.there (.right .all)))) (wlate_tr _ m.V m.s.w hm.w)) ?_
 rintro _ _ ⟨_,⟨rfl,rfl⟩,rfl⟩
 have h1:Ok { m.s with w:=winLate m.s.w }:=⟨hm.r,winLate_ok hm.w,hm.bad,hm.may,hm.beat,hm.next⟩
 refine WL.weak (H':=((m.with { m.s with w:=winLate m.s.w })).H) (fun _ h=>In.of_sub (.pick (.right .here) (.pick (.right .here) (.pickL (L:=rtoB m.R m.s.r) (.right .here) (.last (L:=winB m.V (winLate m.s.w)) .here)))) h) ?_
 unfold PaM.H
 refine SPU ?_; repeat' (first|refine ⟨fun hc=>?_,fun hc=>?_⟩|intro)
 refine WL.e rfl (Ef.call (c:=((m.with { m.s with w:=winLate m.s.w })).T) (by exact rfl) (.last (.there .all)) (fails_tr _ (m.with { m.s with w:=winLate m.s.w }) h1)) ?_
 rintro _ _ ⟨_,⟨rfl,rfl⟩,rfl⟩
 refine WL.weak (H':=(m.with (late m.s)).H) (fun _ h=>h.perm List.perm_append_comm) ?_
 cases a
 all_goals
  refine SPU ?_; repeat' (first|refine ⟨fun hc=>?_,fun hc=>?_⟩|intro)
 · exact Fin.retW (by exact rfl) resA (fun _ h=>h) ⟨by unfold lateA; rw [ha]; rfl,rfl⟩
 · refine WL.e rfl (Ef.callR (c:=(m.with (late m.s)).H) (by exact rfl) (.all _) (active_tr _ (m.with (late m.s)))) ?_
   rintro _ _ ⟨rfl,rfl⟩
   refine SPU ?_; repeat' (first|refine ⟨fun hc=>?_,fun hc=>?_⟩|intro)
   exact Fin.retW (by exact rfl) resA (fun _ h=>h) ⟨by unfold lateA; rw [ha]; rfl,rfl⟩
set_option maxHeartbeats 1000000 in
theorem beat_tr (F:Nat→Option Obj) (m:PaM) (hm:Ok m.s) (now:Int):Tr Tryz.prog 87 [ptr m.P,.int .i64 now].toArray F m.H (fun v H=>v=.bool (beats m.s now)∧H=(m.with (beatS m.s now)).H):=by
 refine Tr.enter Tryz.func87 rfl Tryz.ntmps87 rfl (fun w0=>?_)
 have hnx:=hm.next
 refine SPU ?_; repeat' (first|refine ⟨fun hc=>?_,fun hc=>?_⟩|intro)
 refine WL.e rfl (Ef.callR (by exact rfl) (.all _) (of_tr _ m)) ?_
 rintro _ _ ⟨rfl,rfl⟩
 unfold PaM.H PaM.T stB
 refine SPU ?_; repeat' (first|refine ⟨fun hc=>?_,fun hc=>?_⟩|intro)
 · have hbf:beats m.s now=false:=decide_eq_false (by have:=of_decide_eq_true hc; omega)
   have he:beatS m.s now=m.s:=by unfold beatS; rw [if_neg (by rw [hbf]; simp)]
   rw [he,hbf]
   exact Fin.retW (by exact rfl) resA (fun _ h=>h) ⟨rfl,rfl⟩
 · rename_i hb0
   have hb:=of_decide_eq_false hb0
   have hbt:beats m.s now=true:=decide_eq_true (by omega)
   refine WL.e rfl (Ef.call (c:=m.T) (by exact rfl) (.last (.there .all)) (fails_tr _ m hm)) ?_
   rintro _ _ ⟨_,⟨rfl,rfl⟩,rfl⟩
   have hq:=fails_ok hm
   have he:beatS m.s now={ fails m.s with opn:=true,next:=mn now 2305843009213693952+(fails m.s).r.value+(fails m.s).beat }:=by unfold beatS; rw [if_pos hbt,if_pos hc]
   refine WL.weak (H':=(m.with (fails m.s)).H) (fun _ h=>h.perm List.perm_append_comm) ?_
   obtain ⟨q,hqe⟩:∃ q,fails m.s=q:=⟨_,rfl⟩
   rw [hqe] at hq he ⊢
   have hr1:=hq.r.least; have hr2:=hq.r.lv; have hr3:=hq.r.vm; have hr4:=hq.r.most; have hb5:=hq.beat
   unfold PaM.H PaM.T stB PaM.with
   dsimp only
   refine SPU ?_; repeat' (first|refine ⟨fun hc=>?_,fun hc=>?_⟩|intro)
   refine WD.e rfl (Ef.callR (c:=rtoB m.R q.r) (by exact rfl) (.last (.there (.there .here))) (rvalue_tr _ m.R q.r)) ?_
   rintro _ _ ⟨rfl,rfl⟩
   refine ⟨.inr (fun _ h=>h),?_⟩
   refine SPU ?_; repeat' (first|refine ⟨fun hc=>?_,fun hc=>?_⟩|intro)
   simp (disch:=omega) only [i64_id,Int.tdiv_eq_ediv_of_nonneg,Go.Pth.go_mx,Go.Pth.go_mn]
   rw [he]
   exact Fin.retW (by exact rfl) resA (fun _ h=>h) ⟨by rw [hbt]; rfl,rfl⟩
 · rename_i hb0
   have hb:=of_decide_eq_false hb0
   have hbt:beats m.s now=true:=decide_eq_true (by omega)
   have he:beatS m.s now={ m.s with opn:=true,next:=mn now 2305843009213693952+m.s.r.value+m.s.beat }:=by unfold beatS; rw [if_pos hbt,if_neg (by rw [hc]; simp)]
   have hr1:=hm.r.least; have hr2:=hm.r.lv; have hr3:=hm.r.vm; have hr4:=hm.r.most; have hb5:=hm.beat
   refine WD.e rfl (Ef.callR (c:=rtoB m.R m.s.r) (by exact rfl) (.last (.there (.there .here))) (rvalue_tr _ m.R m.s.r)) ?_
   rintro _ _ ⟨rfl,rfl⟩
   refine ⟨.inr (fun _ h=>h),?_⟩
   refine SPU ?_; repeat' (first|refine ⟨fun hc=>?_,fun hc=>?_⟩|intro)
   simp (disch:=omega) only [i64_id,Int.tdiv_eq_ediv_of_nonneg,Go.Pth.go_mx,Go.Pth.go_mn]
   rw [he]
   exact Fin.retW (by exact rfl) resA (fun _ h=>h) ⟨by rw [hbt]; rfl,rfl⟩
set_option maxHeartbeats 1000000 in
theorem beaten_tr (F:Nat→Option Obj) (m:PaM) (hm:Ok m.s) (sent now:Int) (hn:now≤9223372036854775807):Tr Tryz.prog 88 [ptr m.P,.int .i64 sent,.int .i64 now].toArray F m.H (fun v H=>v=.bool (beaten m.s sent now)∧H=(m.with (beatenS m.s sent now)).H):=by
 refine Tr.enter Tryz.func88 rfl Tryz.ntmps88 rfl (fun w0=>?_)
 refine SPU ?_; repeat' (first|refine ⟨fun hc=>?_,fun hc=>?_⟩|intro)
 refine WL.e rfl (Ef.callR (by exact rfl) (.all _) (of_tr _ m)) ?_
 rintro _ _ ⟨rfl,rfl⟩
 unfold PaM.H PaM.T stB
 refine SPU ?_; repeat' (first|refine ⟨fun hc=>?_,fun hc=>?_⟩|intro)
 rotate_right
 · rename_i h1 h2
   have ho:m.s.opn=true:=by simpa using h1
   have h2:=of_decide_eq_false h2
   have h3:=of_decide_eq_false hc
   have hbt:beaten m.s sent now=true:=by unfold beaten; rw [ho,decide_eq_true (show 0≤sent by omega),decide_eq_true (show sent≤now by omega)]; rfl
   have he:beatenS m.s sent now=sampled (answered m.s) (now - sent):=by unfold beatenS; rw [if_pos hbt]
   refine WL.e rfl (Ef.call (c:=m.H) (by exact rfl) (.all _) (answered_tr _ m)) ?_
   rintro _ _ ⟨_,⟨rfl,rfl⟩,rfl⟩
   rw [List.append_nil]
   unfold PaM.H PaM.T stB
   refine SPU ?_; repeat' (first|refine ⟨fun hc=>?_,fun hc=>?_⟩|intro)
   rw [show IntKind.i64.wrap (now - sent)=now - sent from i64_id (by omega) (by omega)]
   refine WL.e rfl (Ef.call (c:=rtoB m.R m.s.r) (by exact rfl) (.last (.there (.there .here))) (rsample_tr _ m.R m.s.r hm.r (now - sent) (by omega))) ?_
   rintro _ _ ⟨_,⟨rfl,rfl⟩,rfl⟩
   refine SPU ?_; repeat' (first|refine ⟨fun hc=>?_,fun hc=>?_⟩|intro)
   rw [he]
   exact Fin.retW (by exact rfl) resA (H':=(m.with (sampled (answered m.s) (now - sent))).H) (fun _ h=>In.of_sub (.pick (.right .here) (.pick (.right .here) (.pickL (L:=rtoB m.R (Pth.sample m.s.r (now - sent))) .here (.last .all)))) h) ⟨by rw [hbt]; rfl,rfl⟩
 all_goals
  have hbf:beaten m.s sent now=false:=by
   unfold beaten
   simp only [Bool.not_eq_true',Bool.not_eq_false',decide_eq_true_eq,decide_eq_false_iff_not] at *
   first
    | (rw [hc]; rfl)
    | (rw [decide_eq_false (show ¬ 0≤sent by omega)]; simp)
    | (rw [decide_eq_false (show ¬ sent≤now by omega)]; simp)
  have he:beatenS m.s sent now=m.s:=by unfold beatenS; rw [if_neg (by rw [hbf]; simp)]
  rw [he,hbf]
  exact Fin.retW (by exact rfl) resA (fun _ h=>h) ⟨rfl,rfl⟩
def Cfg.pathMay (c:Cfg) (now:Int):Bool:=may c.ri c.rmin c.rmax c.mtu c.cap c.retrans c.beat now
def Cfg.pathNew (c:Cfg) (now:Int):Pth.S:=new c.ri c.rmin c.rmax c.mtu c.cap c.retrans c.beat now
set_option maxHeartbeats 1000000 in
theorem pnew_tr (F:Nat→Option Obj) (c:Cfg) (now:Int):Tr Tryz.prog 26 [.agg c.cells.toArray,.int .i64 now].toArray F [] (fun v H=>
 (c.pathMay now=false∧v=tup [.pointer none,.int .i64 1]∧H=[])∨(c.pathMay now=true∧∃ m:PaM,v=tup [ptr m.P,.int .i64 0]∧H=m.H∧m.s=c.pathNew now)):=by
 refine Tr.enter Tryz.func26 rfl Tryz.ntmps26 rfl (fun w0=>?_)
 unfold Cfg.cells
 refine SPU ?_; repeat' (first|refine ⟨fun hc=>?_,fun hc=>?_⟩|intro)
 refine WL.e rfl (Ef.call (by exact rfl) (.nil _) (rnew_tr _ c.ri c.rmin c.rmax)) ?_
 rintro _ _ ⟨_,(⟨hno,rfl,rfl⟩ | ⟨hr,b1,rfl,rfl⟩),rfl⟩
 · dsimp only [tup]
   refine SPU ?_; repeat' (first|refine ⟨fun hc=>?_,fun hc=>?_⟩|intro)
   exact Fin.retW (by exact rfl) resA (H':=[]) (fun _ h=>h.sublist (List.nil_sublist _)) (.inl ⟨by unfold Cfg.pathMay may; rw [hno]; rfl,rfl,rfl⟩)
 dsimp only [tup]
 refine SPU ?_; repeat' (first|refine ⟨fun hc=>?_,fun hc=>?_⟩|intro)
 refine WL.e rfl (Ef.call (by exact rfl) (.nil _) (wnew_tr _ c.mtu c.cap)) ?_
 rintro _ _ ⟨_,(⟨hno,rfl,rfl⟩ | ⟨hw,b2,rfl,rfl⟩),rfl⟩
 · dsimp only [tup]
   refine SPU ?_; repeat' (first|refine ⟨fun hc=>?_,fun hc=>?_⟩|intro)
   exact Fin.retW (by exact rfl) resA (H':=[]) (fun _ h=>h.sublist (List.nil_sublist _)) (.inl ⟨by unfold Cfg.pathMay may; rw [hno,hr]; rfl,rfl,rfl⟩)
 dsimp only [tup]
 refine SPU ?_; repeat' (first|refine ⟨fun hc=>?_,fun hc=>?_⟩|intro)
 rotate_right
 · simp only [decide_eq_false_iff_not] at *
   have hp:c.pathMay now=true:=by unfold Cfg.pathMay may; rw [hr,hw,decide_eq_true (by omega)]; rfl
   simp (disch:=omega) only [i64_id,Int.tdiv_eq_ediv_of_nonneg,Go.Pth.go_mx,Go.Pth.go_mn]
   refine Fin.retW (by exact rfl) resA (H':=PaM.H ⟨_,_,b1,b2,c.pathNew now⟩) (fun _ h=>In.of_sub (.pick .here (.pick .here (.pickL (L:=rtoB b1 (rtoNew c.ri c.rmin c.rmax)) (.right .here) (.last (L:=winB b2 (winNew c.mtu c.cap)) .here)))) h) (.inr ⟨hp,⟨_,_,b1,b2,c.pathNew now⟩,rfl,rfl,rfl⟩)
 all_goals
  have hp:c.pathMay now=false:=by
   unfold Cfg.pathMay may
   rw [hr,hw,decide_eq_false (by have:=of_decide_eq_true hc; omega)]
   rfl
  exact Fin.retW (by exact rfl) resA (H':=[]) (fun _ h=>h.sublist (List.nil_sublist _)) (.inl ⟨hp,rfl,rfl⟩)
end Go.Proofs.YtlfpemmdehmbfaaGreat
namespace Go.Proofs.YtlfpemmdehmbfaaGreat
open Go Go.Sl Go.Pth
def drtoB (b:Nat) (r:Rto):HL:=[(b,.cells (rtoC r).toArray 235 (0,0))]
def dwinB (b:Nat) (w:Win):HL:=[(b,.cells (winC w).toArray 237 (0,0))]
theorem drnew_tr (F:Nat→Option Obj) (f l m:Int):Tr Tryz.prog 76 [.int .i64 f,.int .i64 l,.int .i64 m].toArray F [] (fun v H=>
 (rtoMay f l m=false∧v=tup [.pointer none,.int .i64 1]∧H=[])∨(rtoMay f l m=true∧∃ b,v=tup [ptr b,.int .i64 0]∧H=drtoB b (rtoNew f l m))):=by
 refine Tr.enter Tryz.func76 rfl Tryz.ntmps76 rfl (fun w0=>?_)
 refine SPU ?_; repeat' (first|refine ⟨fun hc=>?_,fun hc=>?_⟩|intro)
 rotate_right
 · simp only [decide_eq_false_iff_not] at *
   exact Fin.retW (by exact rfl) resA (fun _ h=>h) (.inr ⟨decide_eq_true (by omega),_,rfl,rfl⟩)
 all_goals
  exact Fin.retW (by exact rfl) resA (fun _ h=>h) (.inl ⟨decide_eq_false (by have:=of_decide_eq_true hc; omega),rfl,rfl⟩)
theorem drvalue_tr (F:Nat→Option Obj) (b:Nat) (r:Rto):Tr Tryz.prog 128 [ptr b].toArray F (drtoB b r) (fun v H=>v=.int .i64 r.value∧H=drtoB b r):=by
 refine Tr.enter Tryz.func128 rfl Tryz.ntmps128 rfl (fun w0=>?_)
 unfold drtoB rtoC
 refine SPU ?_; repeat' (first|refine ⟨fun hc=>?_,fun hc=>?_⟩|intro)
 exact Fin.retW (by exact rfl) resA (fun _ h=>h) ⟨rfl,rfl⟩
theorem drback_tr (F:Nat→Option Obj) (b:Nat) (r:Rto) (hr:r.Ok):Tr Tryz.prog 193 [ptr b].toArray F (drtoB b r) (fun v H=>v=.tuple #[]∧H=drtoB b (back r)):=by
 refine Tr.enter Tryz.func193 rfl Tryz.ntmps193 rfl (fun w0=>?_)
 have:=hr.least; have:=hr.lv; have:=hr.vm; have:=hr.most
 unfold drtoB rtoC
 refine SPU ?_; repeat' (first|refine ⟨fun hc=>?_,fun hc=>?_⟩|intro)
 simp (disch:=omega) only [i64_id,Int.tdiv_eq_ediv_of_nonneg,Go.Pth.go_mx,Go.Pth.go_mn]
 exact Fin.endW (by exact rfl) resA (fun _ h=>h) ⟨rfl,rfl⟩
theorem sample_eq (value least most smooth vary t d:Int) (hd:max (smooth / 8 - min t 1048576) (0 - (smooth / 8 - min t 1048576))=d):sample ⟨value,least,most,true,smooth,vary⟩ t =
 ⟨min (max ((smooth - smooth / 8+min t 1048576) / 8+max 1 (vary - vary / 4+d)) least) most,least,most,true,smooth - smooth / 8+min t 1048576,vary - vary / 4+d⟩:=by
 unfold sample fit mid dev
 simp only [Go.Pth.mn_eq,Go.Pth.mx_eq,hd,if_true]
 rw [show smooth+(min t 1048576 - smooth / 8)=smooth - smooth / 8+min t 1048576 by omega,show vary+(d - vary / 4)=vary - vary / 4+d by omega]
set_option maxHeartbeats 4000000 in
theorem drsample_tr (F:Nat→Option Obj) (b:Nat) (r:Rto) (hr:r.Ok) (t:Int) (ht:0≤t):Tr Tryz.prog 163 [ptr b,.int .i64 t].toArray F (drtoB b r) (fun v H=>v=.int .i64 0∧H=drtoB b (sample r t)):=by
 refine Tr.enter Tryz.func163 rfl Tryz.ntmps163 rfl (fun w0=>?_)
 obtain ⟨value,least,most,any,smooth,vary⟩:=r
 have hs:=hr.smooth; have hv:=hr.vary; have h1:=hr.least; have h2:=hr.most; have h3:=hr.lv; have h4:=hr.vm
 dsimp only at hs hv h1 h2 h3 h4
 unfold drtoB rtoC
 dsimp only
 refine SPU ?_; repeat' (first|refine ⟨fun hc=>?_,fun hc=>?_⟩|intro)
 · exfalso
   have:=of_decide_eq_true hc
   omega
 · have ha:any=false:=by simpa using hc
   subst ha
   simp (disch:=omega) only [i64_id,Int.tdiv_eq_ediv_of_nonneg,Go.Pth.go_mx,Go.Pth.go_mn]
   exact Fin.retW (by exact rfl) resA (fun _ h=>h) ⟨rfl,rfl⟩
 all_goals
  have ha:any=true:=by simpa using ‹(!any)=false›
  subst ha
  simp only [decide_eq_false_iff_not,decide_eq_true_eq] at *
  simp (disch:=omega) only [i64_id,Go.Pth.go_mn,Int.tdiv_eq_ediv_of_nonneg] at hc
  first
   | rw [sample_eq value least most smooth vary t (0 - (smooth / 8 - min t 1048576)) (by omega)]
   | rw [sample_eq value least most smooth vary t (smooth / 8 - min t 1048576) (by omega)]
  simp (disch:=omega) only [i64_id,Int.tdiv_eq_ediv_of_nonneg,Go.Pth.go_mx,Go.Pth.go_mn]
  exact Fin.retW (by exact rfl) resA (fun _ h=>h) ⟨rfl,rfl⟩
theorem dwnew_tr (F:Nat→Option Obj) (m c:Int):Tr Tryz.prog 77 [.int .i64 m,.int .i64 c].toArray F [] (fun v H=>
 (winMay m c=false∧v=tup [.pointer none,.int .i64 1]∧H=[])∨(winMay m c=true∧∃ b,v=tup [ptr b,.int .i64 0]∧H=dwinB b (winNew m c))):=by
 refine Tr.enter Tryz.func77 rfl Tryz.ntmps77 rfl (fun w0=>?_)
 refine SPU ?_; repeat' (first|refine ⟨fun hc=>?_,fun hc=>?_⟩|intro)
 · exact Fin.retW (by exact rfl) resA (fun _ h=>h) (.inl ⟨winMay_no (by have:=of_decide_eq_true hc; omega),rfl,rfl⟩)
 · exact Fin.retW (by exact rfl) resA (fun _ h=>h) (.inl ⟨winMay_no (by have:=of_decide_eq_true hc; omega),rfl,rfl⟩)
 all_goals have e1:IntKind.i64.wrap (4 * m)=4 * m:=i64_id (by simp only [decide_eq_false_iff_not] at *; omega) (by simp only [decide_eq_false_iff_not] at *; omega)
 · rw [e1] at hc
   exact Fin.retW (by exact rfl) resA (fun _ h=>h) (.inl ⟨winMay_no (by have:=of_decide_eq_true hc; omega),rfl,rfl⟩)
 · exact Fin.retW (by exact rfl) resA (fun _ h=>h) (.inl ⟨winMay_no (by have:=of_decide_eq_true hc; omega),rfl,rfl⟩)
 · rename_i h3 _
   rw [e1] at h3
   simp only [decide_eq_false_iff_not] at *
   simp (disch:=omega) only [i64_id,Int.tdiv_eq_ediv_of_nonneg,Go.Pth.go_mx,Go.Pth.go_mn]
   exact Fin.retW (by exact rfl) resA (fun _ h=>h) (.inr ⟨decide_eq_true (by omega),_,rfl,rfl⟩)
theorem dwsize_tr (F:Nat→Option Obj) (b:Nat) (w:Win):Tr Tryz.prog 127 [ptr b].toArray F (dwinB b w) (fun v H=>v=.int .i64 w.size∧H=dwinB b w):=by
 refine Tr.enter Tryz.func127 rfl Tryz.ntmps127 rfl (fun w0=>?_)
 unfold dwinB winC
 refine SPU ?_; repeat' (first|refine ⟨fun hc=>?_,fun hc=>?_⟩|intro)
 exact Fin.retW (by exact rfl) resA (fun _ h=>h) ⟨rfl,rfl⟩
theorem dwfast_tr (F:Nat→Option Obj) (b:Nat) (w:Win) (hw:w.Ok):Tr Tryz.prog 165 [ptr b].toArray F (dwinB b w) (fun v H=>v=.tuple #[]∧H=dwinB b (winFast w)):=by
 refine Tr.enter Tryz.func165 rfl Tryz.ntmps165 rfl (fun w0=>?_)
 have h1:=hw.mtu; have h2:=hw.most; have h3:=hw.size; have h4:=hw.thresh
 unfold dwinB winC
 refine SPU ?_; repeat' (first|refine ⟨fun hc=>?_,fun hc=>?_⟩|intro)
 simp (disch:=omega) only [i64_id,Int.tdiv_eq_ediv_of_nonneg,Go.Pth.go_mx,Go.Pth.go_mn]
 exact Fin.endW (by exact rfl) resA (fun _ h=>h) ⟨rfl,rfl⟩
theorem dwlate_tr (F:Nat→Option Obj) (b:Nat) (w:Win) (hw:w.Ok):Tr Tryz.prog 167 [ptr b].toArray F (dwinB b w) (fun v H=>v=.tuple #[]∧H=dwinB b (winLate w)):=by
 refine Tr.enter Tryz.func167 rfl Tryz.ntmps167 rfl (fun w0=>?_)
 have h1:=hw.mtu; have h2:=hw.most; have h3:=hw.size; have h4:=hw.thresh
 unfold dwinB winC
 refine SPU ?_; repeat' (first|refine ⟨fun hc=>?_,fun hc=>?_⟩|intro)
 simp (disch:=omega) only [i64_id,Int.tdiv_eq_ediv_of_nonneg,Go.Pth.go_mx,Go.Pth.go_mn]
 exact Fin.endW (by exact rfl) resA (fun _ h=>h) ⟨rfl,rfl⟩
set_option maxHeartbeats 1000000 in
theorem dwacked_tr (F:Nat→Option Obj) (b:Nat) (w:Win) (hw:w.Ok) (n:Int) (full:Bool):Tr Tryz.prog 164 [ptr b,.int .i64 n,.bool full].toArray F (dwinB b w) (fun v H=>v=.tuple #[]∧H=dwinB b (winAcked w n full)):=by
 refine Tr.enter Tryz.func164 rfl Tryz.ntmps164 rfl (fun w0=>?_)
 have h1:=hw.mtu; have h2:=hw.most; have h3:=hw.size; have h4:=hw.thresh
 unfold dwinB winC
 cases full
 all_goals
  refine SPU ?_; repeat' (first|refine ⟨fun hc=>?_,fun hc=>?_⟩|intro)
 all_goals simp only [decide_eq_false_iff_not,decide_eq_true_eq] at *
 · refine Fin.retW (by exact rfl) resA (fun _ h=>h) ⟨rfl,?_⟩
   unfold winAcked
   rw [if_pos hc]
 · have hn:=‹¬ n < 1›
   have e:winAcked w n false=cap (slow w n false):=by unfold winAcked; rw [if_neg hn,if_neg (by omega)]
   rw [e]
   simp (disch:=omega) only [i64_id,Int.tdiv_eq_ediv_of_nonneg,Go.Pth.go_mx,Go.Pth.go_mn]
   exact Fin.endW (by exact rfl) resA (fun _ h=>h) ⟨rfl,rfl⟩
 · have hn:=‹¬ n < 1›
   have e:winAcked w n false=cap (avoid w n false):=by unfold winAcked; rw [if_neg hn,if_pos (by omega)]
   rw [e]
   simp (disch:=omega) only [i64_id,Int.tdiv_eq_ediv_of_nonneg,Go.Pth.go_mx,Go.Pth.go_mn]
   exact Fin.endW (by exact rfl) resA (fun _ h=>h) ⟨rfl,rfl⟩
 · refine Fin.retW (by exact rfl) resA (fun _ h=>h) ⟨rfl,?_⟩
   unfold winAcked
   rw [if_pos hc]
 · have hn:=‹¬ n < 1›
   have e:winAcked w n true=cap (slow w n true):=by unfold winAcked; rw [if_neg hn,if_neg (by omega)]
   rw [e]
   simp (disch:=omega) only [i64_id,Int.tdiv_eq_ediv_of_nonneg,Go.Pth.go_mx,Go.Pth.go_mn]
   exact Fin.endW (by exact rfl) resA (fun _ h=>h) ⟨rfl,rfl⟩
 all_goals
  have hn:=‹¬ n < 1›
  have e:winAcked w n true=cap (avoid w n true):=by unfold winAcked; rw [if_neg hn,if_pos (by omega)]
  rw [e]
  simp (disch:=omega) only [i64_id,Go.Pth.go_mn] at hc ⊢
  refine Fin.endW (by exact rfl) resA (fun _ h=>h) ⟨rfl,?_⟩
  unfold avoid cap
  simp only [Go.Pth.mn_eq,hc,Bool.true_and,decide_true,decide_false,ge_iff_le,if_true,if_false,not_false_eq_true,Bool.false_eq_true]
end Go.Proofs.YtlfpemmdehmbfaaGreat
namespace Go.Proofs.YtlfpemmdehmbfaaGreat
open Go Go.Sl Go.Pth
structure DpM where
 P:Nat
 R:Nat
 V:Nat
 s:Pth.S
def DpM.hd (m:DpM):Nat × Obj:=(m.P,.cells [ptr m.R,ptr m.V,.int .i64 m.s.bad,.int .i64 m.s.may,.int .i64 m.s.next,.int .i64 m.s.beat,.bool m.s.opn].toArray 172 (0,0))
def DpM.H (m:DpM):HL:=m.hd::(drtoB m.R m.s.r++dwinB m.V m.s.w)
def DpM.with (m:DpM) (s:Pth.S):DpM:={ m with s:=s }
theorem dactive_tr (F:Nat→Option Obj) (m:DpM):Tr Tryz.prog 60 [ptr m.P].toArray F m.H (fun v H=>v=.bool (active m.s)∧H=m.H):=by
 refine Tr.enter Tryz.func60 rfl Tryz.ntmps60 rfl (fun w0=>?_)
 unfold DpM.H DpM.hd
 refine SPU ?_; repeat' (first|refine ⟨fun hc=>?_,fun hc=>?_⟩|intro)
 exact Fin.retW (by exact rfl) resA (fun _ h=>h) ⟨rfl,rfl⟩
theorem dsize_tr (F:Nat→Option Obj) (m:DpM):Tr Tryz.prog 58 [ptr m.P].toArray F m.H (fun v H=>v=.int .i64 m.s.w.size∧H=m.H):=by
 refine Tr.enter Tryz.func58 rfl Tryz.ntmps58 rfl (fun w0=>?_)
 unfold DpM.H DpM.hd
 refine SPU ?_; repeat' (first|refine ⟨fun hc=>?_,fun hc=>?_⟩|intro)
 refine WL.e rfl (Ef.callR (c:=dwinB m.V m.s.w) (by exact rfl) (.last (.there (.right .all))) (dwsize_tr _ m.V m.s.w)) ?_
 rintro _ _ ⟨rfl,rfl⟩
 refine SPU ?_; repeat' (first|refine ⟨fun hc=>?_,fun hc=>?_⟩|intro)
 exact Fin.retW (by exact rfl) resA (fun _ h=>h) ⟨rfl,rfl⟩
theorem drto_tr (F:Nat→Option Obj) (m:DpM):Tr Tryz.prog 59 [ptr m.P].toArray F m.H (fun v H=>v=.int .i64 m.s.r.value∧H=m.H):=by
 refine Tr.enter Tryz.func59 rfl Tryz.ntmps59 rfl (fun w0=>?_)
 unfold DpM.H DpM.hd
 refine SPU ?_; repeat' (first|refine ⟨fun hc=>?_,fun hc=>?_⟩|intro)
 refine WL.e rfl (Ef.callR (c:=drtoB m.R m.s.r) (by exact rfl) (.last (.there .here)) (drvalue_tr _ m.R m.s.r)) ?_
 rintro _ _ ⟨rfl,rfl⟩
 refine SPU ?_; repeat' (first|refine ⟨fun hc=>?_,fun hc=>?_⟩|intro)
 exact Fin.retW (by exact rfl) resA (fun _ h=>h) ⟨rfl,rfl⟩
theorem dwhen_tr (F:Nat→Option Obj) (m:DpM):Tr Tryz.prog 51 [ptr m.P].toArray F m.H (fun v H=>v=.int .i64 m.s.next∧H=m.H):=by
 refine Tr.enter Tryz.func51 rfl Tryz.ntmps51 rfl (fun w0=>?_)
 unfold DpM.H DpM.hd
 refine SPU ?_; repeat' (first|refine ⟨fun hc=>?_,fun hc=>?_⟩|intro)
 exact Fin.retW (by exact rfl) resA (fun _ h=>h) ⟨rfl,rfl⟩
theorem danswered_tr (F:Nat→Option Obj) (m:DpM):Tr Tryz.prog 93 [ptr m.P].toArray F m.H (fun v H=>v=.tuple #[]∧H=(m.with (answered m.s)).H):=by
 refine Tr.enter Tryz.func93 rfl Tryz.ntmps93 rfl (fun w0=>?_)
 unfold DpM.H DpM.hd
 refine SPU ?_; repeat' (first|refine ⟨fun hc=>?_,fun hc=>?_⟩|intro)
 exact Fin.endW (by exact rfl) resA (fun _ h=>h) ⟨rfl,rfl⟩
theorem dsample_tr (F:Nat→Option Obj) (m:DpM) (hm:Ok m.s) (t:Int) (ht:0≤t):Tr Tryz.prog 94 [ptr m.P,.int .i64 t].toArray F m.H (fun v H=>v=.tuple #[]∧H=(m.with (sampled m.s t)).H):=by
 refine Tr.enter Tryz.func94 rfl Tryz.ntmps94 rfl (fun w0=>?_)
 unfold DpM.H DpM.hd
 refine SPU ?_; repeat' (first|refine ⟨fun hc=>?_,fun hc=>?_⟩|intro)
 refine WL.e rfl (Ef.call (c:=drtoB m.R m.s.r) (by exact rfl) (.last (.there .here)) (drsample_tr _ m.R m.s.r hm.r t ht)) ?_
 rintro _ _ ⟨_,⟨rfl,rfl⟩,rfl⟩
 refine SPU ?_; repeat' (first|refine ⟨fun hc=>?_,fun hc=>?_⟩|intro)
 exact Fin.endW (by exact rfl) resA (H':=(m.with (sampled m.s t)).H) (fun _ h=>In.of_sub (.pick (.right .here) (.pickL (L:=drtoB m.R (Pth.sample m.s.r t)) .here (.last .all))) h) ⟨rfl,rfl⟩
theorem dacked_tr (F:Nat→Option Obj) (m:DpM) (hm:Ok m.s) (n:Int) (full:Bool):Tr Tryz.prog 95 [ptr m.P,.int .i64 n,.bool full].toArray F m.H (fun v H=>v=.tuple #[]∧H=(m.with (acked m.s n full)).H):=by
 refine Tr.enter Tryz.func95 rfl Tryz.ntmps95 rfl (fun w0=>?_)
 unfold DpM.H DpM.hd
 refine SPU ?_; repeat' (first|refine ⟨fun hc=>?_,fun hc=>?_⟩|intro)
 refine WL.e rfl (Ef.call (c:=dwinB m.V m.s.w) (by exact rfl) (.last (.there (.right .all))) (dwacked_tr _ m.V m.s.w hm.w n full)) ?_
 rintro _ _ ⟨_,⟨rfl,rfl⟩,rfl⟩
 refine SPU ?_; repeat' (first|refine ⟨fun hc=>?_,fun hc=>?_⟩|intro)
 exact Fin.endW (by exact rfl) resA (H':=(m.with (acked m.s n full)).H) (fun _ h=>In.of_sub (.pick (.right .here) (.pickL (L:=drtoB m.R m.s.r) (.right .here) (.last (L:=dwinB m.V (winAcked m.s.w n full)) .here))) h) ⟨rfl,rfl⟩
theorem dfast_tr (F:Nat→Option Obj) (m:DpM) (hm:Ok m.s):Tr Tryz.prog 96 [ptr m.P].toArray F m.H (fun v H=>v=.tuple #[]∧H=(m.with (fast m.s)).H):=by
 refine Tr.enter Tryz.func96 rfl Tryz.ntmps96 rfl (fun w0=>?_)
 unfold DpM.H DpM.hd
 refine SPU ?_; repeat' (first|refine ⟨fun hc=>?_,fun hc=>?_⟩|intro)
 refine WL.e rfl (Ef.call (c:=dwinB m.V m.s.w) (by exact rfl) (.last (.there (.right .all))) (dwfast_tr _ m.V m.s.w hm.w)) ?_
 rintro _ _ ⟨_,⟨rfl,rfl⟩,rfl⟩
 refine SPU ?_; repeat' (first|refine ⟨fun hc=>?_,fun hc=>?_⟩|intro)
 exact Fin.endW (by exact rfl) resA (H':=(m.with (fast m.s)).H) (fun _ h=>In.of_sub (.pick (.right .here) (.pickL (L:=drtoB m.R m.s.r) (.right .here) (.last (L:=dwinB m.V (winFast m.s.w)) .here))) h) ⟨rfl,rfl⟩
theorem dfails_tr (F:Nat→Option Obj) (m:DpM) (hm:Ok m.s):Tr Tryz.prog 168 [ptr m.P].toArray F m.H (fun v H=>v=.tuple #[]∧H=(m.with (fails m.s)).H):=by
 refine Tr.enter Tryz.func168 rfl Tryz.ntmps168 rfl (fun w0=>?_)
 have h1:=hm.bad; have h2:=hm.may
 unfold DpM.H DpM.hd
 refine SPU ?_; repeat' (first|refine ⟨fun hc=>?_,fun hc=>?_⟩|intro)
 all_goals
  simp only [decide_eq_false_iff_not,decide_eq_true_eq] at *
  refine WL.e rfl (Ef.call (c:=drtoB m.R m.s.r) (by exact rfl) (.last (.there .here)) (drback_tr _ m.R m.s.r hm.r)) ?_
  rintro _ _ ⟨_,⟨rfl,rfl⟩,rfl⟩
  refine SPU ?_; repeat' (first|refine ⟨fun hc=>?_,fun hc=>?_⟩|intro)
  try rw [show IntKind.i64.wrap (m.s.bad+1)=m.s.bad+1 from i64_id (by omega) (by omega)]
  first
   | (obtain hx:m.s.bad+1=mn (m.s.bad+1) (m.s.may+1):=by rw [mn_eq]; omega); rw [hx]
   | (obtain hx:mn (m.s.bad+1) (m.s.may+1)=m.s.bad:=by rw [mn_eq]; omega); rw [←hx]
  exact Fin.endW (by exact rfl) resA (H':=(m.with (fails m.s)).H) (fun _ h=>In.of_sub (.pick (.right .here) (.pickL (L:=drtoB m.R (back m.s.r)) .here (.last .all))) h) ⟨rfl,rfl⟩
theorem dlate_tr (F:Nat→Option Obj) (m:DpM) (hm:Ok m.s):Tr Tryz.prog 106 [ptr m.P].toArray F m.H (fun v H=>v=.bool (lateA m.s)∧H=(m.with (late m.s)).H):=by
 refine Tr.enter Tryz.func106 rfl Tryz.ntmps106 rfl (fun w0=>?_)
 refine SPU ?_; repeat' (first|refine ⟨fun hc=>?_,fun hc=>?_⟩|intro)
 refine WL.e rfl (Ef.callR (c:=m.H) (by exact rfl) (.all _) (dactive_tr _ m)) ?_
 rintro _ _ ⟨rfl,rfl⟩
 obtain ⟨a,ha⟩:∃ a,active m.s=a:=⟨_,rfl⟩
 rw [ha]
 unfold DpM.H DpM.hd
 refine SPU ?_; repeat' (first|refine ⟨fun hc=>?_,fun hc=>?_⟩|intro)
 refine WL.e rfl (Ef.call (c:=dwinB m.V m.s.w) (by exact rfl) (.last (.there (.right .all))) (dwlate_tr _ m.V m.s.w hm.w)) ?_
 rintro _ _ ⟨_,⟨rfl,rfl⟩,rfl⟩
 have h1:Ok { m.s with w:=winLate m.s.w }:=⟨hm.r,winLate_ok hm.w,hm.bad,hm.may,hm.beat,hm.next⟩
 refine WL.weak (H':=((m.with { m.s with w:=winLate m.s.w })).H) (fun _ h=>In.of_sub (.pick (.right .here) (.pickL (L:=drtoB m.R m.s.r) (.right .here) (.last (L:=dwinB m.V (winLate m.s.w)) .here))) h) ?_
 refine SPU ?_; repeat' (first|refine ⟨fun hc=>?_,fun hc=>?_⟩|intro)
 refine WL.e rfl (Ef.call (c:=((m.with { m.s with w:=winLate m.s.w })).H) (by exact rfl) (.all _) (dfails_tr _ (m.with { m.s with w:=winLate m.s.w }) h1)) ?_
 rintro _ _ ⟨_,⟨rfl,rfl⟩,rfl⟩
 rw [List.append_nil]
 refine WL.weak (H':=(m.with (late m.s)).H) (fun _ h=>h) ?_
 cases a
 all_goals
  refine SPU ?_; repeat' (first|refine ⟨fun hc=>?_,fun hc=>?_⟩|intro)
 · exact Fin.retW (by exact rfl) resA (fun _ h=>h) ⟨by unfold lateA; rw [ha]; rfl,rfl⟩
 · refine WL.e rfl (Ef.callR (c:=(m.with (late m.s)).H) (by exact rfl) (.all _) (dactive_tr _ (m.with (late m.s)))) ?_
   rintro _ _ ⟨rfl,rfl⟩
   refine SPU ?_; repeat' (first|refine ⟨fun hc=>?_,fun hc=>?_⟩|intro)
   exact Fin.retW (by exact rfl) resA (fun _ h=>h) ⟨by unfold lateA; rw [ha]; rfl,rfl⟩
set_option maxHeartbeats 1000000 in
theorem dbeat_tr (F:Nat→Option Obj) (m:DpM) (hm:Ok m.s) (now:Int):Tr Tryz.prog 113 [ptr m.P,.int .i64 now].toArray F m.H (fun v H=>v=.bool (beats m.s now)∧H=(m.with (beatS m.s now)).H):=by
 refine Tr.enter Tryz.func113 rfl Tryz.ntmps113 rfl (fun w0=>?_)
 have hnx:=hm.next
 unfold DpM.H DpM.hd
 refine SPU ?_; repeat' (first|refine ⟨fun hc=>?_,fun hc=>?_⟩|intro)
 · have hbf:beats m.s now=false:=decide_eq_false (by have:=of_decide_eq_true hc; omega)
   have he:beatS m.s now=m.s:=by unfold beatS; rw [if_neg (by rw [hbf]; simp)]
   rw [he,hbf]
   exact Fin.retW (by exact rfl) resA (fun _ h=>h) ⟨rfl,rfl⟩
 · rename_i hb0
   have hb:=of_decide_eq_false hb0
   have hbt:beats m.s now=true:=decide_eq_true (by omega)
   refine WL.e rfl (Ef.call (c:=m.H) (by exact rfl) (.all _) (dfails_tr _ m hm)) ?_
   rintro _ _ ⟨_,⟨rfl,rfl⟩,rfl⟩
   rw [List.append_nil]
   have hq:=fails_ok hm
   have he:beatS m.s now={ fails m.s with opn:=true,next:=mn now 2305843009213693952+(fails m.s).r.value+(fails m.s).beat }:=by unfold beatS; rw [if_pos hbt,if_pos hc]
   obtain ⟨q,hqe⟩:∃ q,fails m.s=q:=⟨_,rfl⟩
   rw [hqe] at hq he ⊢
   have hr1:=hq.r.least; have hr2:=hq.r.lv; have hr3:=hq.r.vm; have hr4:=hq.r.most; have hb5:=hq.beat
   unfold DpM.H DpM.hd DpM.with
   dsimp only
   refine SPU ?_; repeat' (first|refine ⟨fun hc=>?_,fun hc=>?_⟩|intro)
   refine WD.e rfl (Ef.callR (c:=drtoB m.R q.r) (by exact rfl) (.last (.there .here)) (drvalue_tr _ m.R q.r)) ?_
   rintro _ _ ⟨rfl,rfl⟩
   refine ⟨.inr (fun _ h=>h),?_⟩
   refine SPU ?_; repeat' (first|refine ⟨fun hc=>?_,fun hc=>?_⟩|intro)
   simp (disch:=omega) only [i64_id,Int.tdiv_eq_ediv_of_nonneg,Go.Pth.go_mx,Go.Pth.go_mn]
   rw [he]
   exact Fin.retW (by exact rfl) resA (fun _ h=>h) ⟨by rw [hbt]; rfl,rfl⟩
 · rename_i hb0
   have hb:=of_decide_eq_false hb0
   have hbt:beats m.s now=true:=decide_eq_true (by omega)
   have he:beatS m.s now={ m.s with opn:=true,next:=mn now 2305843009213693952+m.s.r.value+m.s.beat }:=by unfold beatS; rw [if_pos hbt,if_neg (by rw [hc]; simp)]
   have hr1:=hm.r.least; have hr2:=hm.r.lv; have hr3:=hm.r.vm; have hr4:=hm.r.most; have hb5:=hm.beat
   refine WD.e rfl (Ef.callR (c:=drtoB m.R m.s.r) (by exact rfl) (.last (.there .here)) (drvalue_tr _ m.R m.s.r)) ?_
   rintro _ _ ⟨rfl,rfl⟩
   refine ⟨.inr (fun _ h=>h),?_⟩
   refine SPU ?_; repeat' (first|refine ⟨fun hc=>?_,fun hc=>?_⟩|intro)
   simp (disch:=omega) only [i64_id,Int.tdiv_eq_ediv_of_nonneg,Go.Pth.go_mx,Go.Pth.go_mn]
   rw [he]
   exact Fin.retW (by exact rfl) resA (fun _ h=>h) ⟨by rw [hbt]; rfl,rfl⟩
set_option maxHeartbeats 1000000 in
theorem dbeaten_tr (F:Nat→Option Obj) (m:DpM) (hm:Ok m.s) (sent now:Int) (hn:now≤9223372036854775807):Tr Tryz.prog 114 [ptr m.P,.int .i64 sent,.int .i64 now].toArray F m.H (fun v H=>v=.bool (beaten m.s sent now)∧H=(m.with (beatenS m.s sent now)).H):=by
 refine Tr.enter Tryz.func114 rfl Tryz.ntmps114 rfl (fun w0=>?_)
 unfold DpM.H DpM.hd
 refine SPU ?_; repeat' (first|refine ⟨fun hc=>?_,fun hc=>?_⟩|intro)
 rotate_right
 · rename_i h1 h2
   have ho:m.s.opn=true:=by simpa using h1
   have h2:=of_decide_eq_false h2
   have h3:=of_decide_eq_false hc
   have hbt:beaten m.s sent now=true:=by unfold beaten; rw [ho,decide_eq_true (show 0≤sent by omega),decide_eq_true (show sent≤now by omega)]; rfl
   have he:beatenS m.s sent now=sampled (answered m.s) (now - sent):=by unfold beatenS; rw [if_pos hbt]
   refine WL.e rfl (Ef.call (c:=m.H) (by exact rfl) (.all _) (danswered_tr _ m)) ?_
   rintro _ _ ⟨_,⟨rfl,rfl⟩,rfl⟩
   rw [List.append_nil]
   unfold DpM.H DpM.hd
   refine SPU ?_; repeat' (first|refine ⟨fun hc=>?_,fun hc=>?_⟩|intro)
   rw [show IntKind.i64.wrap (now - sent)=now - sent from i64_id (by omega) (by omega)]
   refine WL.e rfl (Ef.call (c:=drtoB m.R m.s.r) (by exact rfl) (.last (.there .here)) (drsample_tr _ m.R m.s.r hm.r (now - sent) (by omega))) ?_
   rintro _ _ ⟨_,⟨rfl,rfl⟩,rfl⟩
   refine SPU ?_; repeat' (first|refine ⟨fun hc=>?_,fun hc=>?_⟩|intro)
   rw [he]
   exact Fin.retW (by exact rfl) resA (H':=(m.with (sampled (answered m.s) (now - sent))).H) (fun _ h=>In.of_sub (.pick (.right .here) (.pickL (L:=drtoB m.R (Pth.sample m.s.r (now - sent))) .here (.last .all))) h) ⟨by rw [hbt]; rfl,rfl⟩
 all_goals
  have hbf:beaten m.s sent now=false:=by
   unfold beaten
   simp only [Bool.not_eq_true',Bool.not_eq_false',decide_eq_true_eq,decide_eq_false_iff_not] at *
   first
    | (rw [hc]; rfl)
    | (rw [decide_eq_false (show ¬ 0≤sent by omega)]; simp)
    | (rw [decide_eq_false (show ¬ sent≤now by omega)]; simp)
  have he:beatenS m.s sent now=m.s:=by unfold beatenS; rw [if_neg (by rw [hbf]; simp)]
  rw [he,hbf]
  exact Fin.retW (by exact rfl) resA (fun _ h=>h) ⟨rfl,rfl⟩
set_option maxHeartbeats 1000000 in
theorem dpnew_tr (F:Nat→Option Obj) (c:Cfg) (now:Int):Tr Tryz.prog 29 [.agg c.cells.toArray,.int .i64 now].toArray F [] (fun v H=>
 (c.pathMay now=false∧v=tup [.pointer none,.int .i64 1]∧H=[])∨(c.pathMay now=true∧∃ m:DpM,v=tup [ptr m.P,.int .i64 0]∧H=m.H∧m.s=c.pathNew now)):=by
 refine Tr.enter Tryz.func29 rfl Tryz.ntmps29 rfl (fun w0=>?_)
 unfold Cfg.cells
 refine SPU ?_; repeat' (first|refine ⟨fun hc=>?_,fun hc=>?_⟩|intro)
 refine WL.e rfl (Ef.call (by exact rfl) (.nil _) (drnew_tr _ c.ri c.rmin c.rmax)) ?_
 rintro _ _ ⟨_,(⟨hno,rfl,rfl⟩ | ⟨hr,b1,rfl,rfl⟩),rfl⟩
 · dsimp only [tup]
   refine SPU ?_; repeat' (first|refine ⟨fun hc=>?_,fun hc=>?_⟩|intro)
   exact Fin.retW (by exact rfl) resA (H':=[]) (fun _ h=>h.sublist (List.nil_sublist _)) (.inl ⟨by unfold Cfg.pathMay may; rw [hno]; rfl,rfl,rfl⟩)
 dsimp only [tup]
 refine SPU ?_; repeat' (first|refine ⟨fun hc=>?_,fun hc=>?_⟩|intro)
 refine WL.e rfl (Ef.call (by exact rfl) (.nil _) (dwnew_tr _ c.mtu c.cap)) ?_
 rintro _ _ ⟨_,(⟨hno,rfl,rfl⟩ | ⟨hw,b2,rfl,rfl⟩),rfl⟩
 · dsimp only [tup]
   refine SPU ?_; repeat' (first|refine ⟨fun hc=>?_,fun hc=>?_⟩|intro)
   exact Fin.retW (by exact rfl) resA (H':=[]) (fun _ h=>h.sublist (List.nil_sublist _)) (.inl ⟨by unfold Cfg.pathMay may; rw [hno,hr]; rfl,rfl,rfl⟩)
 dsimp only [tup]
 refine SPU ?_; repeat' (first|refine ⟨fun hc=>?_,fun hc=>?_⟩|intro)
 rotate_right
 · simp only [decide_eq_false_iff_not] at *
   have hp:c.pathMay now=true:=by unfold Cfg.pathMay may; rw [hr,hw,decide_eq_true (by omega)]; rfl
   simp (disch:=omega) only [i64_id,Int.tdiv_eq_ediv_of_nonneg,Go.Pth.go_mx,Go.Pth.go_mn]
   refine Fin.retW (by exact rfl) resA (H':=DpM.H ⟨_,b1,b2,c.pathNew now⟩) (fun _ h=>In.of_sub (.pick .here (.pickL (L:=drtoB b1 (rtoNew c.ri c.rmin c.rmax)) (.right .here) (.last (L:=dwinB b2 (winNew c.mtu c.cap)) .here))) h) (.inr ⟨hp,⟨_,b1,b2,c.pathNew now⟩,rfl,rfl,rfl⟩)
 all_goals
  have hp:c.pathMay now=false:=by
   unfold Cfg.pathMay may
   rw [hr,hw,decide_eq_false (by have:=of_decide_eq_true hc; omega)]
   rfl
  exact Fin.retW (by exact rfl) resA (H':=[]) (fun _ h=>h.sublist (List.nil_sublist _)) (.inl ⟨hp,rfl,rfl⟩)
end Go.Proofs.YtlfpemmdehmbfaaGreat
namespace Go.Proofs.YtlfpemmdehmbfaaGreat
open Go Go.Sl Go.Flt
instance:PtrE Tryz.prog 205:=⟨207,14,by kernel_rfl,by kernel_rfl⟩
def lv (f:FM) (o:Option Nat):Value:=match o with
 | some j=>(match f.rs[j]? with | some m=>m.p | none=>.pointer none)
 | none=>.pointer none
theorem lv_one (f:FM) (o:Option Nat):(lv f o).oneCell'=true:=by
 cases o with
 | none=>rfl
 | some j=>
   unfold lv
   dsimp only
   split <;> rfl
def lowC (f:FM) (q:Q4 (Option Nat)):List Value:=[lv f q.q0,lv f q.q1,lv f q.q2,lv f q.q3]
def pathOk (L:List Rc):Prop:=∀ r ∈ L,r.path=0∨r.path=1∨r.path=2∨r.path=3
set_option maxHeartbeats 4000000 in
theorem lowest_tr (F:Nat→Option Obj) (f:FM) (hf:f.ok) (hpo:pathOk f.S.L):Tr Tryz.prog 140 [.pointer (some ⟨f.R,0,none⟩)].toArray F f.H (fun v H=>v=tup [.agg (lowC f (lowQ f.S.L)).toArray]∧H=f.H):=by
 refine Tr.enterM Tryz.func140 rfl Tryz.ntmps140 rfl (fun w0=>?_)
 have hlen:=hf.len
 have hfew:=hf.few
 refine SPS ?_; repeat' (first|refine ⟨fun hc=>?_,fun hc=>?_⟩|intro)
 rename_i tb
 refine WL.e rfl (Ef.call (by exact rfl) (.nil _) (such_tr _ (.pointer (some ⟨f.R,0,none⟩)) (.func (.func 187) ([]:List Value).toArray ([]:List Value).toArray) rfl rfl)) ?_
 rintro _ _ ⟨_,⟨b2,b3,rfl,rfl⟩,rfl⟩
 refine SPS ?_; repeat' (first|refine ⟨fun hc=>?_,fun hc=>?_⟩|intro)
 refine W.rangeF (gf:=179) (fv:=[]) (cv:=[.pointer (some ⟨b2,0,none⟩),.pointer (some ⟨b3,0,none⟩)]) rfl rfl (fun l D r hr=>?_)
 obtain ⟨RE,hRE⟩:∃ RE:Nat→HL,RE=fun i=>(tb,.cells (lowC f (lowQ ((f.rs.map (·.r)).take i))).toArray 223 (0,0))::f.H:=⟨_,rfl⟩
 have hRw:∀ i w,In F (RE i) w→In F f.H w:=fun i w h=>by rw [hRE] at h; exact h.sublist (.cons _ (.refl _))
 have hcall:=such1_tr F f.R b2 b3 l 187 [] f.sn f.sc f.sa (ptOf f) (by omega) (fun i=>match f.rs[i]? with | some m=>low1 m.r | none=>false)
  (fun i H=>H=HS l D r b2 b3 f.R (.func (.func 187) ([]:List Value).toArray ([]:List Value).toArray) (RE i))
  (fun i H hi hH=>by
   subst hH
   obtain ⟨h1,h2,h3,h4⟩:=su_cans (F:=F) (l:=l) (D:=D) (lp:=r) (b2:=b2) (b3:=b3) (isV:=.func (.func 187) ([]:List Value).toArray ([]:List Value).toArray) (rest:=RE i) hf rfl (hRw i)
   exact ⟨h1,h2,h3,h4 i⟩)
  (fun i H hi hH F' hF=>by
   subst hH
   obtain ⟨m,hm⟩:∃ m,f.rs[i]? = some m:=⟨f.rs[i]'(by omega),by simp⟩
   unfold ptOf
   rw [hm]
   exact low1_tr F' m (su_rec (hRw i) hF hm))
  (fun i H hi hq hH=>by
   subst hH
   obtain ⟨m,hm⟩:∃ m,f.rs[i]? = some m:=⟨f.rs[i]'(by omega),by simp⟩
   rw [hm] at hq
   have hmr:(f.rs.map (·.r))[i]? = some m.r:=by rw [List.getElem?_map,hm]; rfl
   have hq':low1 m.r=false:=hq
   rw [hRE]
   dsimp only
   have e:lowQ ((f.rs.map (·.r)).take (i+1))=lowQ ((f.rs.map (·.r)).take i):=by
    unfold lowQ
    simp [lowP_snoc hmr,hq']
   rw [e])
  (fun i H hi hq hH F' hF=>by
   subst hH
   obtain ⟨m,hm⟩:∃ m,f.rs[i]? = some m:=⟨f.rs[i]'(by omega),by simp⟩
   rw [hm] at hq
   have hmr:(f.rs.map (·.r))[i]? = some m.r:=by rw [List.getElem?_map,hm]; rfl
   have hq':low1 m.r=true:=hq
   have hpath:=hpo m.r (List.mem_of_getElem? hmr)
   unfold ptOf
   rw [hm]
   rw [hRE]
   dsimp only
   have hlv:∀ p,lowP ((f.rs.map (·.r)).take i) p=none∨∃ j mj,lowP ((f.rs.map (·.r)).take i) p=some j∧lv f (some j)=RcM.p mj:=fun p=>by
    cases h:lowP ((f.rs.map (·.r)).take i) p with
    | none=>exact .inl rfl
    | some j=>
      have:=lowP_lt h
      simp at this
      have hmj:f.rs[j]? = some (f.rs[j]'(by omega)):=by simp
      refine .inr ⟨j,f.rs[j]'(by omega),rfl,?_⟩
      unfold lv
      dsimp only
      rw [hmj]
   refine TrY.of hr rfl (fun w h=>h.own (l,.loop r) (by simp [HS])) (fun w1=>?_)
   unfold RcM.p HS
   refine SPS ?_; repeat' (first|refine ⟨fun hc=>?_,fun hc=>?_⟩|intro)
   refine Fin.begin (Foc.here _) hr.state ?_
   rcases hpath with hpa | hpa | hpa | hpa
   all_goals
    have hcp:Sl.Can F' f.H m.b (0+7) [.int .i64 m.r.path]:=(rec_can hm).one (i:=7) rfl
    rw [hpa] at hcp
    refine SPS ?_; repeat' (first|refine ⟨fun hc=>?_,fun hc=>?_⟩|intro)
    refine WL.s rfl (Rd.ldC rfl (hcp.mono (fun _ h=>h.sublist findA))) ?_
    refine WL.p rfl (Pu.iaA rfl rfl (by decide)) ?_
    refine SPS ?_; repeat' (first|refine ⟨fun hc=>?_,fun hc=>?_⟩|intro)
    have hl:=hlv m.r.path
    rw [hpa] at hl
    have hpi:lv f (some i)=RcM.p m:=by unfold lv; dsimp only; rw [hm]
    rcases hl with hl | ⟨j,mj,hl,hj⟩
    · have e:lowQ ((f.rs.map (·.r)).take (i+1))=(lowQ ((f.rs.map (·.r)).take i)).set m.r.path (some i):=by
       unfold lowQ
       simp [lowP_snoc hmr,hq',hpa,hl,Q4.set]
      rw [e,hpa]
      refine WL.p rfl (Pu.eqN (m:=none) (by show some (lv f (lowP _ _))=_; rw [hl]; rfl) rfl) ?_
      refine SPS ?_; repeat' (first|refine ⟨fun hc=>?_,fun hc=>?_⟩|intro)
      refine WL.s rfl (Rd.ldC rfl (hcp.mono (fun _ h=>h.sublist findA))) ?_
      refine SPS ?_; repeat' (first|refine ⟨fun hc=>?_,fun hc=>?_⟩|intro)
      refine WL.p rfl (Pu.iaA rfl rfl (by decide)) ?_
      refine SPS ?_; repeat' (first|refine ⟨fun hc=>?_,fun hc=>?_⟩|intro)
      refine Fin.more (Foc.here _) (fun _ h=>h) ⟨rfl,?_⟩
      simp only [hr.again]
      simp [lowC,Q4.set,hpi,RcM.p]
    · have e:lowQ ((f.rs.map (·.r)).take (i+1))=lowQ ((f.rs.map (·.r)).take i):=by
       unfold lowQ
       simp [lowP_snoc hmr,hq',hpa,hl]
      rw [e]
      refine WL.p rfl (Pu.eqN (m:=some ⟨mj.b,0,none⟩) (by show some (lv f (lowP _ _))=_; rw [hl,hj]; rfl) rfl) ?_
      refine SPS ?_; repeat' (first|refine ⟨fun hc=>?_,fun hc=>?_⟩|intro)
      refine Fin.more (Foc.here _) (fun _ h=>h) ⟨rfl,?_⟩
      simp only [hr.again])
  (HS l D r b2 b3 f.R (.func (.func 187) ([]:List Value).toArray ([]:List Value).toArray) (RE 0)) (by rfl)
 refine Tr.mono (R:=fun _ H=>H=HS l D r b2 b3 f.R (.func (.func 187) ([]:List Value).toArray ([]:List Value).toArray) (RE f.sn)) ?_ ?_
 · rw [hRE] at hcall ⊢
   exact hcall
 · rintro _ _ rfl
   refine ⟨r,_,.refl _,by rw [hr.state]; simp,?_⟩
   rw [hr.pending,hRE]
   dsimp only [Cx.marked]
   rw [List.take_of_length_le (by simp; omega)]
   refine SPS ?_; repeat' (first|refine ⟨fun hc=>?_,fun hc=>?_⟩|intro)
   refine WL.e0A ?_ (Ef.sta rfl rfl (by exact rfl) (by simp [lv_one]) (.there (.there (.there (.here rfl)))))
   refine SPS ?_; repeat' (first|refine ⟨fun hc=>?_,fun hc=>?_⟩|intro)
   exact Fin.retM (D:=D) (by exact rfl) .here resA (H':=f.H) (fun _ h=>h.sublist findA) ⟨rfl,rfl⟩
def PTcells (q:PT):List Value:=[.int .i64 q.acked,.bool q.pseudo,.bool q.fast,.int .i64 q.at_,.bool q.some_]
def tldC (t:Tld):List Value:=[.int .i64 t.freed,.bool t.whole,.int .i64 t.p0.acked,.bool t.p0.pseudo,.bool t.p0.fast,.int .i64 t.p0.at_,.bool t.p0.some_,.int .i64 t.p1.acked,.bool t.p1.pseudo,.bool t.p1.fast,.int .i64 t.p1.at_,.bool t.p1.some_,
 .int .i64 t.p2.acked,.bool t.p2.pseudo,.bool t.p2.fast,.int .i64 t.p2.at_,.bool t.p2.some_,.int .i64 t.p3.acked,.bool t.p3.pseudo,.bool t.p3.fast,.int .i64 t.p3.at_,.bool t.p3.some_]
theorem rec_lies {F:Nat→Option Obj} {f:FM} {i:Nat} {m:RcM} (h:f.rs[i]? = some m):Lies F f.H m.b:=fun w hi=>by
 unfold FM.H at hi
 rw [flat_split h] at hi
 exact ⟨_,_,hi.own (m.b,.cells m.cells.toArray 207 (0,0)) (by simp [RcM.H])⟩
theorem flat_inj:∀ {l:List RcM},((l.flatMap RcM.H).map (·.1)).Nodup→∀ {i j:Nat} {m m':RcM},l[i]? = some m→l[j]? = some m'→m.b=m'.b→i=j
 | [],_,_,_,_,_,h,_,_=>by simp at h
 | a::l,hn,i,j,m,m',h1,h2,hb=>by
   rw [List.flatMap_cons,List.map_append,List.nodup_append] at hn
   obtain ⟨_,hl,hne⟩:=hn
   have mem:∀ {k:Nat} {q:RcM},l[k]? = some q→q.b ∈ (l.flatMap RcM.H).map (·.1):=fun {k q} hq=>
    List.mem_map.2 ⟨(q.b,.cells q.cells.toArray 207 (0,0)),List.mem_flatMap.2 ⟨q,List.mem_of_getElem? hq,by simp [RcM.H]⟩,rfl⟩
   have hd:a.b ∈ (RcM.H a).map (·.1):=by simp [RcM.H]
   cases i with
   | zero=>cases j with
     | zero=>rfl
     | succ j=>
       simp at h1 h2
       subst h1
       exact absurd hb (hne _ hd _ (mem h2))
   | succ i=>cases j with
     | zero=>
       simp at h1 h2
       subst h2
       exact absurd hb.symm (hne _ hd _ (mem h1))
     | succ j=>
       simp at h1 h2
       rw [flat_inj hl h1 h2 hb]
theorem rec_inj {F:Nat→Option Obj} {f:FM} {w:World} (hi:In F f.H w) {i j:Nat} {m m':RcM} (h1:f.rs[i]? = some m) (h2:f.rs[j]? = some m'):decide (m.b=m'.b)=decide (j=i):=by
 have hn:=hi.nd
 unfold FM.H at hn
 rw [List.map_cons,List.nodup_cons,List.map_append,List.nodup_append] at hn
 have hinj:=flat_inj hn.2.2.1 h1 h2
 by_cases h:j=i
 · subst h
   rw [h1] at h2
   cases h2
   simp
 · rw [decide_eq_false h,decide_eq_false (fun hb=>h (hinj hb).symm)]
def isLv (f:FM) (o:Option Nat) (v:Value):Prop:=(o=none∧v=.pointer none)∨∃ j mj,o=some j∧f.rs[j]? = some mj∧v=.pointer (some ⟨mj.b,0,none⟩)
def offP (p:Int):Nat:=if p=0 then 2 else if p=1 then 7 else if p=2 then 12 else 17
set_option maxHeartbeats 8000000 in
theorem take_tr (F:Nat→Option Obj) (f:FM) (hf:f.ok) {i:Nat} {m:RcM} (hm:f.rs[i]? = some m) (hpath:m.r.path=0∨m.r.path=1∨m.r.path=2∨m.r.path=3) (tb:Nat) (t:Tld) (o:Option Nat) (v:Value) (hv:isLv f o v) :
 Tr Tryz.prog 141 [.pointer (some ⟨m.b,0,none⟩),.pointer (some ⟨tb,offP m.r.path,none⟩),v].toArray F ((tb,.cells (tldC t).toArray 134 (0,0))::f.H) (fun v H=>v=tup []∧H=(tb,.cells (tldC (t.upd m.r.path (takeP m.r (decide (o=some i))))).toArray 134 (0,0))::({ f with rs:=f.rs.set i { m with r:=setAck m.r } }:FM).H):=by
 refine Tr.enter Tryz.func141 rfl Tryz.ntmps141 rfl (fun w0=>?_)
 refine W.fact (φ:=∀ j mj,f.rs[j]? = some mj→decide (m.b=mj.b)=decide (j=i)) (fun w h j mj hj=>rec_inj (h.sublist (.cons _ (.refl _))) hm hj) (fun hinj=>?_)
 have hlen:=hf.len
 have hml:=(hf.recs m (List.mem_of_getElem? hm)).len
 have g1:=set_get hm (m':={ m with r:=setAck m.r })
 obtain ⟨f',hf'⟩:∃ f':FM,f'={ f with rs:=f.rs.set i { m with r:=setAck m.r } }:=⟨_,rfl⟩
 have hput:=rec_put hm (off:=0+11) (vs:=[.bool true]) (r':=setAck m.r) rfl
 rw [←hf'] at hput ⊢
 have g2:f'.rs[i]? = some { m with r:=setAck m.r }:=by rw [hf']; exact g1
 have c6:Sl.Can F f'.H m.b (0+0+6) [.slice m.ba m.bn m.bc]:=(rec_can g2).one (i:=6) rfl
 have c10:Sl.Can F f'.H m.b (0+10) [.int .i64 m.r.at_]:=(rec_can g2).one (i:=10) rfl
 have c13:Sl.Can F f'.H m.b (0+13) [.bool m.r.gone]:=(rec_can g2).one (i:=13) rfl
 have c14:Sl.Can F f'.H m.b (0+14) [.bool m.r.again]:=(rec_can g2).one (i:=14) rfl
 have hL1:Lies F f'.H m.b:=rec_lies (m:={ m with r:=setAck m.r }) g2
 rcases hv with ⟨ho,rfl⟩ | ⟨j,mj,ho,hj,rfl⟩
 · rcases hpath with hpa | hpa | hpa | hpa
   all_goals
    rw [hpa]
    unfold tldC
    refine SPS ?_; repeat' (first|refine ⟨fun hc=>?_,fun hc=>?_⟩|intro)
    refine WL.e0A ?_ (Ef.st rfl rfl rfl (.there hput))
    refine SPS ?_; repeat' (first|refine ⟨fun hc=>?_,fun hc=>?_⟩|intro)
    refine WL.s rfl (Rd.ldC rfl (c13.mono (fun _ h=>h.sublist findA))) ?_
    cases hgo:m.r.gone
    · refine SPS ?_; repeat' (first|refine ⟨fun hc=>?_,fun hc=>?_⟩|intro)
      refine WD.s rfl (Rd.ldC rfl (c6.mono (fun _ h=>h.sublist findA))) ?_
      refine SPS ?_; repeat' (first|refine ⟨fun hc=>?_,fun hc=>?_⟩|intro)
      refine WL.s rfl (Rd.ldC rfl (c14.mono (fun _ h=>h.sublist findA))) ?_
      cases hag:m.r.again
      · refine SPS ?_; repeat' (first|refine ⟨fun hc=>?_,fun hc=>?_⟩|intro)
        refine WL.s rfl (Rd.ldC rfl (c10.mono (fun _ h=>h.sublist findA))) ?_
        refine SPS ?_; repeat' (first|refine ⟨fun hc=>?_,fun hc=>?_⟩|intro)
        all_goals
         refine Fin.endW (by exact rfl) resA (fun _ h=>h) ⟨rfl,?_⟩
         simp_all [Tld.upd,takeP]
      · refine SPS ?_; repeat' (first|refine ⟨fun hc=>?_,fun hc=>?_⟩|intro)
        all_goals
         refine Fin.endW (by exact rfl) resA (fun _ h=>h) ⟨rfl,?_⟩
         simp_all [Tld.upd,takeP]
    · refine SPS ?_; repeat' (first|refine ⟨fun hc=>?_,fun hc=>?_⟩|intro)
      refine WL.s rfl (Rd.ldC rfl (c14.mono (fun _ h=>h.sublist findA))) ?_
      cases hag:m.r.again
      · refine SPS ?_; repeat' (first|refine ⟨fun hc=>?_,fun hc=>?_⟩|intro)
        refine WL.s rfl (Rd.ldC rfl (c10.mono (fun _ h=>h.sublist findA))) ?_
        refine SPS ?_; repeat' (first|refine ⟨fun hc=>?_,fun hc=>?_⟩|intro)
        all_goals
         refine Fin.endW (by exact rfl) resA (fun _ h=>h) ⟨rfl,?_⟩
         simp_all [Tld.upd,takeP]
      · refine SPS ?_; repeat' (first|refine ⟨fun hc=>?_,fun hc=>?_⟩|intro)
        all_goals
         refine Fin.endW (by exact rfl) resA (fun _ h=>h) ⟨rfl,?_⟩
         simp_all [Tld.upd,takeP]
 · have hinj':=hinj j mj hj
   clear hinj
   have hL2:Lies F f'.H mj.b:=by
    by_cases hji:i=j
    · subst hji
      rw [hm] at hj
      cases hj
      exact hL1
    · exact rec_lies (i:=j) (by rw [hf']; dsimp only; rw [List.getElem?_set_ne hji]; exact hj)
   rcases hpath with hpa | hpa | hpa | hpa
   all_goals
    rw [hpa]
    unfold tldC
    refine SPS ?_; repeat' (first|refine ⟨fun hc=>?_,fun hc=>?_⟩|intro)
    refine WL.e0A ?_ (Ef.st rfl rfl rfl (.there hput))
    refine SPS ?_; repeat' (first|refine ⟨fun hc=>?_,fun hc=>?_⟩|intro)
    refine WL.s rfl (Rd.ldC rfl (c13.mono (fun _ h=>h.sublist findA))) ?_
    cases hgo:m.r.gone
    · refine SPS ?_; repeat' (first|refine ⟨fun hc=>?_,fun hc=>?_⟩|intro)
      refine WD.s rfl (Rd.ldC rfl (c6.mono (fun _ h=>h.sublist findA))) ?_
      refine SPS ?_; repeat' (first|refine ⟨fun hc=>?_,fun hc=>?_⟩|intro)
      refine WL.s rfl (Rd.ldC rfl (c14.mono (fun _ h=>h.sublist findA))) ?_
      cases hag:m.r.again
      · refine SPS ?_; repeat' (first|refine ⟨fun hc=>?_,fun hc=>?_⟩|intro)
        refine WL.s rfl (Rd.ldC rfl (c10.mono (fun _ h=>h.sublist findA))) ?_
        refine SPS ?_; repeat' (first|refine ⟨fun hc=>?_,fun hc=>?_⟩|intro)
        · refine Fin.endW (by exact rfl) resA (fun _ h=>h) ⟨rfl,?_⟩
          simp_all [Tld.upd,takeP]
        · refine WL.s rfl (Rd.eqPP rfl rfl (hL1.mono (fun _ h=>h.sublist findA)) (hL2.mono (fun _ h=>h.sublist findA))) ?_
          rw [hinj']
          refine SPS ?_; repeat' (first|refine ⟨fun hc=>?_,fun hc=>?_⟩|intro)
          refine Fin.endW (by exact rfl) resA (fun _ h=>h) ⟨rfl,?_⟩
          simp_all [Tld.upd,takeP]
      · refine SPS ?_; repeat' (first|refine ⟨fun hc=>?_,fun hc=>?_⟩|intro)
        · refine Fin.endW (by exact rfl) resA (fun _ h=>h) ⟨rfl,?_⟩
          simp_all [Tld.upd,takeP]
        · refine WL.s rfl (Rd.eqPP rfl rfl (hL1.mono (fun _ h=>h.sublist findA)) (hL2.mono (fun _ h=>h.sublist findA))) ?_
          rw [hinj']
          refine SPS ?_; repeat' (first|refine ⟨fun hc=>?_,fun hc=>?_⟩|intro)
          refine Fin.endW (by exact rfl) resA (fun _ h=>h) ⟨rfl,?_⟩
          simp_all [Tld.upd,takeP]
    · refine SPS ?_; repeat' (first|refine ⟨fun hc=>?_,fun hc=>?_⟩|intro)
      refine WL.s rfl (Rd.ldC rfl (c14.mono (fun _ h=>h.sublist findA))) ?_
      cases hag:m.r.again
      · refine SPS ?_; repeat' (first|refine ⟨fun hc=>?_,fun hc=>?_⟩|intro)
        refine WL.s rfl (Rd.ldC rfl (c10.mono (fun _ h=>h.sublist findA))) ?_
        refine SPS ?_; repeat' (first|refine ⟨fun hc=>?_,fun hc=>?_⟩|intro)
        · refine Fin.endW (by exact rfl) resA (fun _ h=>h) ⟨rfl,?_⟩
          simp_all [Tld.upd,takeP]
        · refine WL.s rfl (Rd.eqPP rfl rfl (hL1.mono (fun _ h=>h.sublist findA)) (hL2.mono (fun _ h=>h.sublist findA))) ?_
          rw [hinj']
          refine SPS ?_; repeat' (first|refine ⟨fun hc=>?_,fun hc=>?_⟩|intro)
          refine Fin.endW (by exact rfl) resA (fun _ h=>h) ⟨rfl,?_⟩
          simp_all [Tld.upd,takeP]
      · refine SPS ?_; repeat' (first|refine ⟨fun hc=>?_,fun hc=>?_⟩|intro)
        · refine Fin.endW (by exact rfl) resA (fun _ h=>h) ⟨rfl,?_⟩
          simp_all [Tld.upd,takeP]
        · refine WL.s rfl (Rd.eqPP rfl rfl (hL1.mono (fun _ h=>h.sublist findA)) (hL2.mono (fun _ h=>h.sublist findA))) ?_
          rw [hinj']
          refine SPS ?_; repeat' (first|refine ⟨fun hc=>?_,fun hc=>?_⟩|intro)
          refine Fin.endW (by exact rfl) resA (fun _ h=>h) ⟨rfl,?_⟩
          simp_all [Tld.upd,takeP]
end Go.Proofs.YtlfpemmdehmbfaaGreat
