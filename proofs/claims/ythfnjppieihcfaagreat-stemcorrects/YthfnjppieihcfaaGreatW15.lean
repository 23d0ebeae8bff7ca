/- StemCorrects: for every tube, history, ices, reading and number the law returns true and what it read reads as it did. Conditions: none beyond the given statement's own. -/
import Derived.Test.YthfnjppieihcfaaGreatW14
import Derived.Test.YthfnjppieihcfaaGreatRows
set_option linter.unusedSimpArgs false
set_option linter.unusedVariables false
set_option maxRecDepth 100000
namespace Go.Proofs.YthfnjppieihcfaaGreat
open Go.RowKit Go.Proofs Go.Mw Men
open Go.ChangeShapes Go.WideShapes Go.ChangeAt
theorem own10:ownKnob Tryz.prog.godebug=none:=by kernel_rfl
theorem laidOut10:laidOutB Tryz.prog=true:=by kernel_rfl
theorem types10 : ∀ t∈Tryz.f10.params.toList,Tryz.prog.readableRec t=true∧t<Tryz.prog.types.size:=by
  have h:(Tryz.f10.params.toList.all fun t=>Tryz.prog.readableRec t && decide (t<Tryz.prog.types.size))=true:=by kernel_rfl
  intro t ht
  have:=List.all_eq_true.1 h t ht
  simpa using this
/-- WHAT THE WALK GIVES, FOR EVERY ARGUMENT -/
theorem k10 (H:Type) (enc:TypeId×Value→H) (W:World) (base:Nat) (args:Array Value) (ds gs:List (DataW H)) (before:List MemPlace)
    (hval : ∀ (j:Nat) t v,Tryz.f10.params[j]? = some t→args[j]? = some v→Value.okWide Tryz.prog W .any base t v)
    (hW:DataW.Whole enc Tryz.prog Tryz.f10.params.toList Rows.stemCorrectsSpec.vars false W args.toList ds gs before) :
    Calls Tryz.prog 10 args W fun e W'=>∃ v,e = .returned v∧Rows.stemCorrectsSpec.post enc Tryz.prog Tryz.f10 false true false false W args v W':=by
  have hW':=hW
  obtain ⟨p,q,hA0,hV,rfl,hfz,hnd⟩:=hW
  have hA:DataW.TrodAll enc Tryz.prog W 0 (fun _=>true) true Tryz.f10.params.toList args.toList ds p:=hA0
  rw [Tryz.params10] at hA hval
  obtain ⟨v0,vs0,d0,ds0,p0,q0,hargs,rfl,rfl,h0,r0⟩:=trodAll_cons hA
  obtain ⟨v1,vs1,d1,ds1,p1,q1,rfl,rfl,rfl,h1,r1⟩:=trodAll_cons r0
  obtain ⟨v2,vs2,d2,ds2,p2,q2,rfl,rfl,rfl,h2,r2⟩:=trodAll_cons r1
  obtain ⟨v3,vs3,d3,ds3,p3,q3,rfl,rfl,rfl,h3,r3⟩:=trodAll_cons r2
  obtain ⟨v4,vs4,d4,ds4,p4,q4,rfl,rfl,rfl,h4,r4⟩:=trodAll_cons r3
  obtain ⟨rfl,rfl,rfl⟩:=trodAll_nil r4
  obtain rfl:args = #[v0,v1,v2,v3,v4]:=by cases args;simp_all
  obtain ⟨rfl,rfl⟩:=trodVars_none hV
  obtain ⟨c0,rfl,_⟩:=okWide_struct Tryz.underlying29 (hval 0 29 v0 rfl rfl)
  obtain ⟨s1,l1,cp1,rfl⟩:=okWide_slice Tryz.underlying30 (hval 1 30 v1 rfl rfl)
  obtain ⟨s2,l2,cp2,rfl⟩:=okWide_slice Tryz.underlying31 (hval 2 31 v2 rfl rfl)
  obtain ⟨c3,rfl,_⟩:=okWide_struct Tryz.underlying33 (hval 3 33 v3 rfl rfl)
  obtain ⟨m,rfl,_,_,_⟩:=open_int Tryz.underlying3 (hval 4 3 v4 rfl rfl) h4
  obtain ⟨t,ab,ad,cab,cad,e0,hab,had⟩:=n_tube (rd_trod h0)
  obtain ⟨h,ah,cah,e1,hah⟩:=n_hist (rd_trod h1)
  obtain ⟨ices,ai,cai,e2,hai⟩:=n_ices (rd_trod h2)
  obtain ⟨x,e3⟩:=n_rd (rd_trod h3)
  obtain rfl:c0=(tbC t ab cab ad cad).toArray:=Array.ext' e0
  obtain rfl:c3=(rdC x).toArray:=Array.ext' e3
  cases e1
  cases e2
  refine Calls.mono (c10 (most:=m) W hab had hah hai) fun e W' ⟨v,he,hk,hv⟩=>⟨v,he,?_⟩
  subst hv
  exact law_post laidOut10 Tryz.underlying4 rfl types10 rfl hW' rfl hk.below
theorem lifted10 (os:Os) (started:os.Started) (H:Type) (enc:TypeId×Value→H) :
    ReturnsInHanded {} Tryz.checked os 10 .any (Rows.stemCorrectsSpec.pre6 enc Tryz.prog Tryz.f10 Rows.stemCorrectsRow.domain false) (Rows.stemCorrectsSpec.post enc Tryz.prog Tryz.f10 false true false false):=by
  refine returnsInHanded_of_change (C:=Tryz.checked) own10 started (by kernel_rfl) Tryz.func10
    (ChangeSpec.witness6 (enc:=enc) (C:=Tryz.checked) false ⟨#[],#[.agg (tbC ⟨0,[],[],0,0,0,0,0,0,0,0,0⟩ none 0 none 0).toArray,.slice none 0 0,.slice none 0 0,.agg (rdC ⟨0,0,0,0,0,0,0,0,0,false⟩).toArray,.int .i64 0],[]⟩ 8 (by kernel_rfl) (by kernel_rfl) (by kernel_rfl) (by kernel_rfl)) ?_
  intro W base args ds gs before hval hW _ _
  exact k10 H enc W base args ds gs before hval hW
/-- StemCorrects: WHATEVER THE INPUT: true; the input reads as it did. -/
theorem stemCorrects_holds:Rows.StemCorrectsSaid :=
  OpenClaim.holds_of_wide 10 Tryz.f10 rfl rfl rfl rfl rfl rfl rfl ⟨rfl,rfl,rfl,rfl,rfl⟩ rfl rfl rfl rfl rfl (by kernel_rfl) Tryz.func10 (by kernel_rfl)
    (of_decide_eq_true (by kernel_rfl)) (by unfold Func.isWrapper;first | (rw [if_pos (by decide +kernel)];kernel_rfl) | (rw [if_neg (by decide +kernel)];exact ⟨rfl,rfl⟩))
    (fun os started H enc _=>lifted10 os started H enc)
end Go.Proofs.YthfnjppieihcfaaGreat
