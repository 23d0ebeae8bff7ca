/- Part of the proof: what the last text of this claim imports. -/
import Derived.Test.YthfnjppieihcfaaGreatW13
import Derived.WalkKit
import Derived.ProofKit
import Derived.OpenShut
import Derived.JoinedCond
import Derived.SizedLaws
import Derived.Deep.Slices
import Derived.Lib.SmallJoins
import Derived.ChangeSame
import Derived.Carry
set_option linter.unusedSimpArgs false
set_option linter.unusedVariables false
set_option maxRecDepth 100000
namespace Go.Mw
open Go.ChangeShapes Go.WideShapes Go.ChangeAt Go.RowKit
variable {H : Type} {enc : TypeId × Value → H} {P : Program} {w : World} {base : Nat} {spare : Nat → Bool} {held : Bool}
/-- 'R t cs': the cells 'cs' read as a value of type 't' -/
def Rd (enc:TypeId×Value→H) (P:Program) (w:World) (t:TypeId) (cs:List Value):Prop:=∃ n x,DataW.trod enc P w 0 (fun _=>true) true n t cs=some x
theorem rd_int {t:TypeId} {k:IntKind} {cs:List Value} (h:Rd enc P w t cs) (ht:P.underlying t=some (.int k)) : ∃ n,cs=[.int k n]∧(Lit.int k n).wf=true:=by
  obtain ⟨n,x,h⟩:=h
  obtain ⟨n,h1,_,h2⟩:=DataW.trod_int ht h
  exact ⟨n,h1,h2⟩
theorem rd_bool {t:TypeId} {cs:List Value} (h:Rd enc P w t cs) (ht:P.underlying t=some .bool) : ∃ b,cs=[.bool b]:=by
  obtain ⟨n,x,h⟩:=h
  obtain ⟨b,h1,_⟩:=DataW.trod_bool ht h
  exact ⟨b,h1⟩
theorem rd_struct {t:TypeId} {fs:Array Field} {cs:List Value} (h:Rd enc P w t cs) (ht:P.underlying t=some (.struct fs)) :
    cs.length=P.cellsOf t∧∀ (j:Nat) f,fs[j]? = some f→Rd enc P w f.type ((cs.drop f.offset).take (P.cellsOf f.type)):=by
  obtain ⟨n,x,h⟩:=h
  obtain ⟨xs,m,_,_,hl,hlen,hf⟩:=DataW.trod_struct ht h
  refine ⟨hl,fun j f hj=>?_⟩
  have hj':j<fs.size:=(Array.getElem?_eq_some_iff.1 hj).1
  exact ⟨m,xs[j]'(by omega),by rw [hf j f hj];simp [show j<xs.length by omega]⟩
theorem take_step {cs A:List Value} {n k:Nat} (h:(cs.drop n).take k=A):cs.drop n=A++cs.drop (n+k):=by
  rw [← h,← List.drop_drop,List.take_append_drop]
theorem vZ {t:TypeId} {fs:Array Field} {cs:List Value} (h:Rd enc P w t cs) (ht:P.underlying t=some (.struct fs)) (j:Nat) {f:Field} {t':TypeId} {off k:Nat} (hk:P.cellsOf t'=k) (hj:fs[j]? = some f) (h1:f.type=t') (h2:f.offset=off) :
    ∃ A,Rd enc P w t' A∧cs.drop off=A++cs.drop (off+k):=by
  have:=(rd_struct h ht).2 j f hj
  rw [h1,h2,hk] at this
  exact ⟨_,this,take_step rfl⟩
theorem rd_end {t:TypeId} {fs:Array Field} {cs:List Value} (h:Rd enc P w t cs) (ht:P.underlying t=some (.struct fs)) {k:Nat} (hk:P.cellsOf t=k):cs.drop k=[]:=by
  have:=(rd_struct h ht).1
  rw [hk] at this
  exact List.drop_eq_nil_of_le (Nat.le_of_eq this)
theorem list_of {α:Type} {P:Nat→α→Prop} : ∀ n:Nat,(∀ j,j<n→∃ x,P j x)→∃ xs:List α,xs.length=n∧∀ (j:Nat) x,xs[j]? = some x→P j x
  | 0,_=>⟨[],rfl,fun j x h=>by simp at h⟩
  | n+1,h=>by
    obtain ⟨xs,h1,h2⟩:=list_of n (fun j hj=>h j (by omega))
    obtain ⟨y,hy⟩:=h n (by omega)
    refine ⟨xs++[y],by simp [h1],fun j x hx=>?_⟩
    rcases Nat.lt_trichotomy j xs.length with hj | hj | hj
    · rw [List.getElem?_append_left hj] at hx;exact h2 j x hx
    · subst hj;simp at hx;subst hx;rw [h1];exact hy
    · rw [List.getElem?_eq_none (by simp;omega)] at hx;cases hx
theorem cells_of {b off k:Nat} {vs:List Value} (h:w.cells? 0 ⟨b,off,none⟩ k=some vs) (hk:0<k):vs.length=k∧Cells w b off vs:=by
  obtain ⟨_,hl,hg⟩:=World.cells?_some h
  have hg' : ∀ j,j<k→w.cell? ⟨b,off+j,none⟩=vs[j]?:=by
    intro j hj
    rw [← hg j hj]
    unfold Addr.add
    split <;>simp_all
  refine ⟨hl,?_⟩
  have h0:=hg' 0 hk
  have h1:vs[0]? = some (vs[0]'(by omega)):=by simp [hl,hk]
  rw [h1] at h0
  have hc : ∀ j,w.cell? ⟨b,j,none⟩=match w.heap[b]? with | some (.cells cs _ _)=>cs[j]? | _=>none:=by
    intro j;unfold World.cell?;simp only;cases w.heap[b]? with
    | none=>simp
    | some o=>cases o <;>simp
  rw [hc] at h0
  cases hb:w.heap[b]? with
  | none=>rw [hb] at h0;cases h0
  | some o =>
    cases o with
    | cells cs t fz =>
      refine ⟨cs,t,fz,hb,?_⟩
      apply List.ext_getElem?
      intro j
      by_cases hj:j<k
      · have:=hg' j hj
        rw [hc,hb] at this
        rw [List.getElem?_take_of_lt (by omega),List.getElem?_drop,← this]
        simp
      · rw [List.getElem?_eq_none (by simp;omega),List.getElem?_eq_none (by omega)]
    | _=>rw [hb] at h0;cases h0
theorem sl_of {k:Nat} {xs:List (List Value)} {a:Addr} (hk:0<k) (h : ∀ (j:Nat) x,xs[j]? = some x→w.cells? 0 (a.add (j*k)) k=some x):Sl w k xs (some a):=by
  intro j x hx
  have h0:a.spot=none:=by
    have hl:0<xs.length:=Nat.lt_of_le_of_lt (Nat.zero_le _) (List.getElem?_eq_some_iff.1 hx).1
    have hx0:xs[0]? = some (xs[0]'hl):=by simp [hl]
    have h1:=h 0 _ hx0
    obtain ⟨_,h2,h3⟩:=World.cells?_some h1
    have h4:=h3 0 hk
    have h5:(xs[0]'hl)[0]? = some ((xs[0]'hl)[0]'(by omega)):=by simp [h2,hk]
    rw [h5,show (a.add (0*k)).add 0=a by simp [Addr.add]] at h4
    exact World.cell?_spot h4
  have ha:a=⟨a.block,a.off,none⟩:=by cases a;simp at h0;simp [h0]
  have hj:=h j x hx
  have e:a.add (j*k)=⟨a.block,a.off+j*k,none⟩:=by
    cases a with
    | mk b o s=>cases h0;unfold Addr.add;by_cases hz:j*k=0 <;>simp [hz]
  rw [e] at hj
  obtain ⟨h1,h2⟩:=cells_of hj hk
  exact ⟨h1,by rw [show blk (some a)=a.block from rfl,show yP (some a)=a.off from rfl,← ha],h2⟩
theorem rd_slice {t e:TypeId} {k:Nat} {cs:List Value} {α:Type} {f:α→List Value} {Q:α→Prop} (h:Rd enc P w t cs) (ht:P.underlying t=some (.slice e)) (hk:P.cellsOf e=k) (hk0:0<k)
    (hel : ∀ vs,Rd enc P w e vs→∃ x,vs=f x∧Q x) : ∃ (a:Option Addr) (xs:List α) (cap:Nat),cs=[.slice a xs.length cap]∧Sl w k (xs.map f) a∧xs.length≤cap∧cap≤maxLen∧∀ x∈xs,Q x:=by
  obtain ⟨n,y,h⟩:=h
  rcases Deep.open_slice ht h with ⟨rfl,_⟩ | ⟨a,len,cap,m,n',D,Pl,rfl,_,hl,hm,hmm,_,hx⟩
  · exact ⟨none,[],0,rfl,fun j x hx=>by simp at hx,by simp,by simp,by simp⟩
  · obtain ⟨xs,h1,h2⟩:=list_of (P:=fun j (x:α)=>w.cells? 0 (a.add (j*k)) k=some (f x)∧Q x) len (fun j hj=>by
      obtain ⟨vs,h3,h4⟩:=hx j (by rw [hmm];simp;omega)
      rw [hk] at h3
      obtain ⟨x,rfl,hq⟩:=hel vs ⟨_,_,h4⟩
      exact ⟨x,h3,hq⟩)
    refine ⟨some a,xs,cap,by rw [h1],sl_of hk0 (fun j x hx=>?_),by omega,hm,fun x hx=>?_⟩
    · rw [List.getElem?_map] at hx
      cases he:xs[j]? with
      | none=>rw [he] at hx;cases hx
      | some z=>rw [he] at hx;cases hx;exact (h2 j z he).1
    · obtain ⟨j,hj⟩:=List.mem_iff_getElem?.1 hx
      exact (h2 j x hj).2
theorem trodAll_keep (hl:laidOutB P=true) {W W':World} (hb:Below W.heap.size W W') : ∀ {ts:List TypeId} {vs:List Value} {ds:List (DataW H)} {ps:List MemPlace},(∀ t∈ts,P.readableRec t=true∧t<P.types.size) →
    DataW.TrodAll enc P W 0 (fun _=>true) true ts vs ds ps→(∀ x∈ps,x.block<W.heap.size)→DataW.TrodAll enc P W' 0 (fun b=>decide (b<W.heap.size)) true ts vs ds ps
  | [],vs,ds,ps,_,h,_=>by obtain ⟨rfl,rfl,rfl⟩:=trodAll_nil h;exact trodAll_mk0
  | t :: ts,vs,ds,ps,ht,h,hlt=>by
    obtain ⟨v,vs',d,ds',p,q,rfl,rfl,rfl,h1,h2⟩:=trodAll_cons h
    exact trodAll_cons_mk (Below.trod hl (ht t (by simp)).1 (ht t (by simp)).2 h1 hb (fun x hx=>hlt x (by simp [hx])))
      (trodAll_keep hl hb (fun u hu=>ht u (by simp [hu])) h2 (fun x hx=>hlt x (by simp [hx])))
/-- A LAW: it returns true, and what it read reads as it did -/
theorem law_post {f:Func} {s:ChangeSpec} {W W':World} {args:Array Value} {ds gs:List (DataW H)} {before:List MemPlace} {tb:TypeId} (hl:laidOutB P=true) (htb:P.underlying tb=some .bool) (hres:f.resultTypes = #[tb])
    (hts : ∀ t∈f.params.toList,P.readableRec t=true∧t<P.types.size) (hvars:s.vars=[]) (hW:DataW.Whole enc P f.params.toList s.vars false W args.toList ds gs before)
    (hs:s.fn H (ds++gs)={ results:=[.lit (.bool true)],args:=ds }) (hB:Below W.heap.size W W'):s.post enc P f false true false false W args (.bool true) W':=by
  have hW':=hW
  obtain ⟨p,q,hA,hV,rfl,hfz,hnd⟩:=hW
  rw [hvars] at hV
  obtain ⟨rfl,rfl⟩:=trodVars_none hV
  refine ⟨_,_,_,[],p,[],hW',?_,?_,?_,hB.frame _,fun h=>by cases h⟩
  · rw [hs,hres];exact trodAll_cons_mk (shut_bool htb _) trodAll_mk0
  · rw [hs];exact trodAll_keep hl hB hts hA (fun x hx=>hW'.lt x (by simp [hx]))
  · rw [hs,hvars];rfl
theorem rd_trod {t:TypeId} {v:Value} {d:DataW H} {ps:List MemPlace} (h:DataW.Trod enc P w 0 (fun _=>true) true t v d ps):Rd enc P w t v.cells.toList:=by
  obtain ⟨n,h⟩:=h;exact ⟨n,_,h⟩
end Go.Mw
namespace Go.Proofs.YthfnjppieihcfaaGreat
open Go.RowKit Go.Proofs Go.Mw Men
open Go.ChangeShapes Go.WideShapes Go.ChangeAt
variable {H : Type} {enc : TypeId × Value → H} {w : World}
theorem cw3:Tryz.prog.cellsOf 3=1:=by kernel_rfl
theorem cw4:Tryz.prog.cellsOf 4=1:=by kernel_rfl
theorem cw25:Tryz.prog.cellsOf 25=2:=by kernel_rfl
theorem cw159:Tryz.prog.cellsOf 159=3:=by kernel_rfl
theorem cw163:Tryz.prog.cellsOf 163=2:=by kernel_rfl
theorem cw91:Tryz.prog.cellsOf 91=3:=by kernel_rfl
theorem cw33:Tryz.prog.cellsOf 33=10:=by kernel_rfl
theorem cw27:Tryz.prog.cellsOf 27=5:=by kernel_rfl
theorem cw29:Tryz.prog.cellsOf 29=12:=by kernel_rfl
theorem cw22:Tryz.prog.cellsOf 22=1:=by kernel_rfl
theorem cw23:Tryz.prog.cellsOf 23=1:=by kernel_rfl
theorem n_rg {cs:List Value} (h:Rd enc Tryz.prog w 25 cs) : ∃ r:Rg,cs=rgV r:=by
  obtain ⟨A0,h0,e0⟩:=vZ h Tryz.underlying25 0 (t':=3) (off:=0) cw3 rfl rfl rfl
  obtain ⟨a,rfl,_⟩:=rd_int h0 Tryz.underlying3
  obtain ⟨A1,h1,e1⟩:=vZ h Tryz.underlying25 1 (t':=3) (off:=1) cw3 rfl rfl rfl
  obtain ⟨b,rfl,_⟩:=rd_int h1 Tryz.underlying3
  have e:=rd_end h Tryz.underlying25 cw25
  have hc:cs=cs.drop 0:=rfl
  rw [hc,e0,e1,e]
  exact ⟨⟨a,b⟩,rfl⟩
theorem n_band {cs:List Value} (h:Rd enc Tryz.prog w 159 cs) : ∃ r:Band,cs=yH r:=by
  obtain ⟨A0,h0,e0⟩:=vZ h Tryz.underlying159 0 (t':=3) (off:=0) cw3 rfl rfl rfl
  obtain ⟨a,rfl,_⟩:=rd_int h0 Tryz.underlying3
  obtain ⟨A1,h1,e1⟩:=vZ h Tryz.underlying159 1 (t':=25) (off:=1) cw25 rfl rfl rfl
  obtain ⟨b,rfl⟩:=n_rg h1
  have e:=rd_end h Tryz.underlying159 cw159
  have hc:cs=cs.drop 0:=rfl
  rw [hc,e0,e1,e]
  exact ⟨⟨a,b⟩,rfl⟩
theorem n_depth {cs:List Value} (h:Rd enc Tryz.prog w 163 cs) : ∃ r:Depth,cs=zZ r:=by
  obtain ⟨A0,h0,e0⟩:=vZ h Tryz.underlying163 0 (t':=3) (off:=0) cw3 rfl rfl rfl
  obtain ⟨a,rfl,_⟩:=rd_int h0 Tryz.underlying3
  obtain ⟨A1,h1,e1⟩:=vZ h Tryz.underlying163 1 (t':=3) (off:=1) cw3 rfl rfl rfl
  obtain ⟨b,rfl,_⟩:=rd_int h1 Tryz.underlying3
  have e:=rd_end h Tryz.underlying163 cw163
  have hc:cs=cs.drop 0:=rfl
  rw [hc,e0,e1,e]
  exact ⟨⟨a,b⟩,rfl⟩
theorem n_ice {cs:List Value} (h:Rd enc Tryz.prog w 91 cs) : ∃ r:Ice,cs=iceV r:=by
  obtain ⟨A0,h0,e0⟩:=vZ h Tryz.underlying91 0 (t':=3) (off:=0) cw3 rfl rfl rfl
  obtain ⟨a,rfl,_⟩:=rd_int h0 Tryz.underlying3
  obtain ⟨A1,h1,e1⟩:=vZ h Tryz.underlying91 1 (t':=3) (off:=1) cw3 rfl rfl rfl
  obtain ⟨b,rfl,_⟩:=rd_int h1 Tryz.underlying3
  obtain ⟨A2,h2,e2⟩:=vZ h Tryz.underlying91 2 (t':=3) (off:=2) cw3 rfl rfl rfl
  obtain ⟨c,rfl,_⟩:=rd_int h2 Tryz.underlying3
  have e:=rd_end h Tryz.underlying91 cw91
  have hc:cs=cs.drop 0:=rfl
  rw [hc,e0,e1,e2,e]
  exact ⟨⟨a,b,c⟩,rfl⟩
theorem n_rd {cs:List Value} (h:Rd enc Tryz.prog w 33 cs) : ∃ x:Rdg,cs=rdC x:=by
  obtain ⟨A0,h0,e0⟩:=vZ h Tryz.underlying33 0 (t':=3) (off:=0) cw3 rfl rfl rfl
  obtain ⟨a,rfl,_⟩:=rd_int h0 Tryz.underlying3
  obtain ⟨A1,h1,e1⟩:=vZ h Tryz.underlying33 1 (t':=3) (off:=1) cw3 rfl rfl rfl
  obtain ⟨b,rfl,_⟩:=rd_int h1 Tryz.underlying3
  obtain ⟨A2,h2,e2⟩:=vZ h Tryz.underlying33 2 (t':=3) (off:=2) cw3 rfl rfl rfl
  obtain ⟨c,rfl,_⟩:=rd_int h2 Tryz.underlying3
  obtain ⟨A3,h3,e3⟩:=vZ h Tryz.underlying33 3 (t':=3) (off:=3) cw3 rfl rfl rfl
  obtain ⟨d,rfl,_⟩:=rd_int h3 Tryz.underlying3
  obtain ⟨A4,h4,e4⟩:=vZ h Tryz.underlying33 4 (t':=25) (off:=4) cw25 rfl rfl rfl
  obtain ⟨r,rfl⟩:=n_rg h4
  obtain ⟨A5,h5,e5⟩:=vZ h Tryz.underlying33 5 (t':=25) (off:=6) cw25 rfl rfl rfl
  obtain ⟨s,rfl⟩:=n_rg h5
  obtain ⟨A6,h6,e6⟩:=vZ h Tryz.underlying33 6 (t':=3) (off:=8) cw3 rfl rfl rfl
  obtain ⟨f,rfl,_⟩:=rd_int h6 Tryz.underlying3
  obtain ⟨A7,h7,e7⟩:=vZ h Tryz.underlying33 7 (t':=4) (off:=9) cw4 rfl rfl rfl
  obtain ⟨g,rfl⟩:=rd_bool h7 Tryz.underlying4
  have e:=rd_end h Tryz.underlying33 cw33
  have hc:cs=cs.drop 0:=rfl
  rw [hc,e0,e1,e2,e3,e4,e5,e6,e7,e]
  exact ⟨⟨a,b,c,d,r.lo,r.hi,s.lo,s.hi,f,g⟩,rfl⟩
theorem n_glass {cs:List Value} (h:Rd enc Tryz.prog w 27 cs) : ∃ (a:Int) (bs:List Band) (dl:List Depth) (r:Rg) (ab ad:Option Addr) (cab cad:Nat),cs=[i a,.slice ab bs.length cab,.slice ad dl.length cad,i r.lo,i r.hi]∧Sl w 3 (bs.map yH) ab∧Sl w 2 (dl.map zZ) ad:=by
  obtain ⟨A0,h0,e0⟩:=vZ h Tryz.underlying27 0 (t':=3) (off:=0) cw3 rfl rfl rfl
  obtain ⟨a,rfl,_⟩:=rd_int h0 Tryz.underlying3
  obtain ⟨A1,h1,e1⟩:=vZ h Tryz.underlying27 1 (t':=22) (off:=1) cw22 rfl rfl rfl
  obtain ⟨b,bl,bc,rfl,bss,_,_,_⟩:=rd_slice (f:=yH) (Q:=fun _=>True) h1 Tryz.underlying22 cw159 (by decide) (fun vs hv=>(let ⟨r,e⟩:=n_band hv;⟨r,e,trivial⟩))
  obtain ⟨A2,h2,e2⟩:=vZ h Tryz.underlying27 2 (t':=23) (off:=2) cw23 rfl rfl rfl
  obtain ⟨c,cl,cc,rfl,css,_,_,_⟩:=rd_slice (f:=zZ) (Q:=fun _=>True) h2 Tryz.underlying23 cw163 (by decide) (fun vs hv=>(let ⟨r,e⟩:=n_depth hv;⟨r,e,trivial⟩))
  obtain ⟨A3,h3,e3⟩:=vZ h Tryz.underlying27 3 (t':=25) (off:=3) cw25 rfl rfl rfl
  obtain ⟨r,rfl⟩:=n_rg h3
  have e:=rd_end h Tryz.underlying27 cw27
  have hc:cs=cs.drop 0:=rfl
  rw [hc,e0,e1,e2,e3,e]
  exact ⟨a,bl,cl,r,b,c,bc,cc,rfl,bss,css⟩
theorem n_tube {cs:List Value} (h:Rd enc Tryz.prog w 29 cs) : ∃ (t:Tb) (ab ad:Option Addr) (cab cad:Nat),cs=tbC t ab cab ad cad∧Sl w 3 (t.bs.map yH) ab∧Sl w 2 (t.dl.map zZ) ad:=by
  obtain ⟨A0,h0,e0⟩:=vZ h Tryz.underlying29 0 (t':=27) (off:=0) cw27 rfl rfl rfl
  obtain ⟨a,bs,dl,bk,ab,ad,cab,cad,rfl,hab,had⟩:=n_glass h0
  obtain ⟨A1,h1,e1⟩:=vZ h Tryz.underlying29 1 (t':=25) (off:=5) cw25 rfl rfl rfl
  obtain ⟨p,rfl⟩:=n_rg h1
  obtain ⟨A2,h2,e2⟩:=vZ h Tryz.underlying29 2 (t':=25) (off:=7) cw25 rfl rfl rfl
  obtain ⟨q,rfl⟩:=n_rg h2
  obtain ⟨A3,h3,e3⟩:=vZ h Tryz.underlying29 3 (t':=25) (off:=9) cw25 rfl rfl rfl
  obtain ⟨r,rfl⟩:=n_rg h3
  obtain ⟨A4,h4,e4⟩:=vZ h Tryz.underlying29 4 (t':=3) (off:=11) cw3 rfl rfl rfl
  obtain ⟨z,rfl,_⟩:=rd_int h4 Tryz.underlying3
  have e:=rd_end h Tryz.underlying29 cw29
  have hc:cs=cs.drop 0:=rfl
  rw [hc,e0,e1,e2,e3,e4,e]
  exact ⟨⟨a,bs,dl,bk.lo,bk.hi,p.lo,p.hi,q.lo,q.hi,r.lo,r.hi,z⟩,ab,ad,cab,cad,rfl,hab,had⟩
theorem n_hist {cs:List Value} (h:Rd enc Tryz.prog w 30 cs) : ∃ (h:List Rg) (a:Option Addr) (c:Nat),cs=[.slice a h.length c]∧Sl w 2 (h.map rgV) a:=by
  obtain ⟨b,bl,bc,rfl,hs,_,_,_⟩:=rd_slice (f:=rgV) (Q:=fun _=>True) h Tryz.underlying30 cw25 (by decide) (fun vs hv=>(let ⟨r,e⟩:=n_rg hv;⟨r,e,trivial⟩))
  exact ⟨bl,b,bc,rfl,hs⟩
theorem n_ices {cs:List Value} (h:Rd enc Tryz.prog w 31 cs) : ∃ (h:List Ice) (a:Option Addr) (c:Nat),cs=[.slice a h.length c]∧Sl w 3 (h.map iceV) a:=by
  obtain ⟨b,bl,bc,rfl,hs,_,_,_⟩:=rd_slice (f:=iceV) (Q:=fun _=>True) h Tryz.underlying31 cw91 (by decide) (fun vs hv=>(let ⟨r,e⟩:=n_ice hv;⟨r,e,trivial⟩))
  exact ⟨bl,b,bc,rfl,hs⟩
end Go.Proofs.YthfnjppieihcfaaGreat
