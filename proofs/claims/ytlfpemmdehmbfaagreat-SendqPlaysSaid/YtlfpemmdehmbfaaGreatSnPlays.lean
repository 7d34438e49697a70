/- The statement SendqPlays of the package fairleadlaw23, proved: whatever the input, the law answers true and leaves its input as it was. No conditions. -/
import Derived.Test.YtlfpemmdehmbfaaGreatRows
import Derived.Test.YtlfpemmdehmbfaaGreatBuZ
namespace Go.Proofs.YtlfpemmdehmbfaaGreat
open Go Go.Sl Go.ChangeShapes Go.WideShapes Go.ChangeAt Go.RowKit
def cfgSh:Sh:=.struct [.int .i64,.int .i64,.int .i64,.int .i64,.int .i64,.int .i64,.int .i64,.int .i64,.int .i64,.int .i64,.int .i64,.int .i64,.int .i64,.int .i64]
theorem cfg_dec {w:World} (x:List Value) (h:cfgSh.rep w x):∃ c:Cfg,x=c.cells:=by
 simp only [cfgSh,Sh.rep,Sh.repAll] at h
 obtain ⟨_,_,rfl,_,⟨n0,rfl,a0,b0⟩,_,_,rfl,_,⟨n1,rfl,a1,b1⟩,_,_,rfl,_,⟨n2,rfl,a2,b2⟩,_,_,rfl,_,⟨n3,rfl,a3,b3⟩,_,_,rfl,_,⟨n4,rfl,a4,b4⟩,_,_,rfl,_,⟨n5,rfl,a5,b5⟩,_,_,rfl,_,⟨n6,rfl,a6,b6⟩,_,_,rfl,_,⟨n7,rfl,a7,b7⟩,_,_,rfl,_,⟨n8,rfl,a8,b8⟩,_,_,rfl,_,⟨n9,rfl,a9,b9⟩,_,_,rfl,_,⟨n10,rfl,a10,b10⟩,_,_,rfl,_,⟨n11,rfl,a11,b11⟩,_,_,rfl,_,⟨n12,rfl,a12,b12⟩,_,_,rfl,_,⟨n13,rfl,a13,b13⟩,rfl⟩:=h
 exact ⟨⟨n0,n1,n2,n3,n4,n5,n6,n7,n8,n9,n10,n11,n12,n13⟩,rfl⟩
def playsSh:List Sh:=[cfgSh,.int .u32,.int .u32,.int .i64,.slice opSh]
theorem sendqPlays_open (W:World) (al:List Value) (h:Reps W playsSh al):Tr Tryz.prog 3 al.toArray (heapF W) [] (fun v H=>v=.bool true∧H=[]):=by
 obtain ⟨v0,_,_,rfl,e0,h0,_,v1,_,_,rfl,e1,h1,_,v2,_,_,rfl,e2,h2,_,v3,_,_,rfl,e3,h3,_,v4,_,_,rfl,e4,h4,_,rfl⟩:=h
 obtain ⟨c,rfl⟩:=cfg_dec _ h0
 have e:v0=.agg c.cells.toArray:=by simpa [cfgSh,Sh.val] using e0
 obtain ⟨first,rfl,f1,f2⟩:=shI e1 h1
 obtain ⟨rwnd,rfl,r1,r2⟩:=shI e2 h2
 obtain ⟨now,rfl,n1,n2⟩:=shI e3 h3
 obtain ⟨ka,kn,kc,l,rfl,hl,hop⟩:=ops_of e4 h4
 rw [e]
 exact plays_tr _ c first rwnd now (rgU32 r1 r2) l ka kn kc hl hop
theorem Tryz.own':ownKnob Tryz.prog.godebug=none:=by kernel_rfl
theorem Tryz.laidOut':laidOutB Tryz.prog=true:=by kernel_rfl
theorem sendqPlays_fits:fitsL Tryz.prog playsSh Tryz.f3.params.toList=true:=by rw [Tryz.params3]; kernel_rfl
theorem sendqPlays_read:∀ t ∈ Tryz.f3.params.toList,Tryz.prog.readableRec t=true∧t < Tryz.prog.types.size:=by
 have h:(Tryz.f3.params.toList.all fun t=>Tryz.prog.readableRec t && decide (t < Tryz.prog.types.size))=true:=by rw [Tryz.params3]; kernel_rfl
 intro t ht
 have:=List.all_eq_true.1 h t ht
 simpa using this
set_option maxRecDepth 100000 in
theorem sendqPlays_lifted (os:Os) (started:os.Started) (H:Type) (enc:TypeId × Value→H) :
 ReturnsInHanded {} Tryz.checked os 3 .any (Rows.sendqPlaysSpec.pre6 enc Tryz.prog Tryz.f3 Rows.sendqPlaysRow.domain false) (Rows.sendqPlaysSpec.post enc Tryz.prog Tryz.f3 false true false false):=by
 refine returnsInHanded_of_change (C:=Tryz.checked) Tryz.own' started (by kernel_rfl) Tryz.func3
  (ChangeSpec.witness6 (enc:=enc) (C:=Tryz.checked) false ⟨#[],#[.agg #[.int .i64 0,.int .i64 0,.int .i64 0,.int .i64 0,.int .i64 0,.int .i64 0,.int .i64 0,.int .i64 0,.int .i64 0,.int .i64 0,.int .i64 0,.int .i64 0,.int .i64 0,.int .i64 0],.int .u32 0,.int .u32 0,.int .i64 0,.slice none 0 0],[]⟩ 8 (by kernel_rfl) (by kernel_rfl) (by kernel_rfl) (by kernel_rfl)) ?_
 intro W base args ds gs before hval0 hW hcnd _
 have hW':=hW
 obtain ⟨p,q,hA0,hV,hpq,hfz,hnd⟩:=hW
 have hA:DataW.TrodAll enc Tryz.prog W 0 (fun _=>true) true Tryz.f3.params.toList args.toList ds p:=hA0
 have hreps:=Reps.of playsSh _ _ _ _ sendqPlays_fits (fun j t v h1 h2=>hval0 j t v (by simpa using h1) (by simpa using h2)) hA
 have hgs:gs=[]:=by
  cases gs with
  | nil=>rfl
  | cons _ _=>cases hV
 subst hgs
 obtain ⟨al,rfl⟩:∃ al:List Value,args=al.toArray:=⟨args.toList,by simp⟩
 refine ((sendqPlays_open W al (by simpa using hreps)) W (heapF_in W)).mono fun e W' ⟨v,H',he,hR,hi,hs⟩=>?_
 obtain ⟨rfl,rfl⟩:=hR
 subst he
 have hlen:=TrodAll_len hA
 rw [Tryz.params3] at hlen
 obtain ⟨d0,d1,d2,d3,d4,rfl⟩:=len5 hlen
 exact ⟨_,rfl,post_true (tb:=4) Tryz.laidOut' sendqPlays_read rfl (by kernel_rfl) rfl hW' rfl rfl rfl (below_of hi hs)⟩
theorem sendqPlays_holds:Rows.SendqPlaysSaid:=
 OpenClaim.holds_of_wide 3 Tryz.f3 rfl rfl rfl rfl rfl rfl rfl ⟨rfl,rfl,rfl,rfl,rfl⟩ rfl rfl rfl rfl rfl (by kernel_rfl) Tryz.func3 (by kernel_rfl)
  (of_decide_eq_true (by kernel_rfl)) (by unfold Func.isWrapper; first | (rw [if_pos (by decide +kernel)]; kernel_rfl) | (rw [if_neg (by decide +kernel)]; exact ⟨rfl,rfl⟩))
  (fun os started H enc _=>sendqPlays_lifted os started H enc)
end Go.Proofs.YtlfpemmdehmbfaaGreat
