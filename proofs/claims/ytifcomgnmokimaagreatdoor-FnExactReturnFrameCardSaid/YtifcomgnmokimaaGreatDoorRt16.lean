/- Part 16 of the proof: the texts IvG. -/
import Derived.Test.YtifcomgnmokimaaGreatDoorRt3
import Derived.Test.YtifcomgnmokimaaGreatDoorRt12
set_option linter.all false
set_option maxHeartbeats 4000000
set_option maxRecDepth 20000
namespace Go.Proofs.YtifcomgnmokimaaGreatDoor
open Go Go.RowKit
section
variable {G:World->Prop}
theorem kb (hst:ay G) (lo:Nat) (l:List aa) (hsm:l.length<=1048576/\∀y∈l,aa.small 1048576 y):Ct Tryz.prog G 159 [.sl lo 3 (l.map (aa.tw lo))] (fun _=>.bool (cn l)):=by
 refine av Tryz.func159 rfl Tryz.ntmps159 rfl rfl fun w0 _ hG=>?_
 have hlen:=aa.len lo l
 have hbl:=aa.len w0.heap.size bY
 rw[gB] at hbl
 have hl1:=hsm.1
 by_cases hl:16<=l.length/\l.length<=24
 ·repeat' (first|refine W_ ?_|(refine ak ?_;intro ss bb)|refine er ?_|refine ac ?_|((with_reducible apply kI);rfl;kernel_rfl;exact hG;exact hst;exact aar hst [.str ⟨#[]⟩,.bool false,.nils,.nils,.nils];(apply bU.cons;rfl;exact cy.mpSame Zi);exact bU.nil))
  apply ap (X:=Nat) [0,4] (fun i=>[(5,.int .i64 (i:Int))]) (fun _=>[]) (fun i=>i<=l.length/\∀j,j<i->∀h:j<l.length,fk l j l[j]) (fun i=>l.length - i) 0 ⟨Ze _,by simp⟩
  exact kp_;exact nw_
  ·exact .nil _
  rintro i ⟨hi,hk⟩
  try dsimp only
  by_cases hlt:i<l.length
  ·have hra:(l.map (aa.tw lo))[i]?=some (l[i].tw lo):=aK hlt
   have hbi:=hsm.2 _ (Zb hlt)
   have hbad:=lb hlt
   have hks:fk l i l[i]->∀j,j<i+1->∀h:j<l.length,fk l j l[j]:=fun ho=>cH hk fun _=>ho
   generalize l[i]=x at hra hbi hbad hks
   rw[show x.tw lo=[.str x.name,.int .i64 x.parent,.sl lo 1 (ca x.fields)] from rfl] at hra
   by_cases hlow:i<16
   ·obtain⟨bi,hb,_,_,h3,_⟩:=j1 hlow
    have hrb:(bY.map (aa.tw w0.heap.size))[i]?=some [.str bi.name,.int .i64 bi.parent,.sl w0.heap.size 1 (ca bi.fields)]:=by rw[Zj,hb];rfl
    rw[pL hlow hb] at hbad hks
    have hbf:bi.fields.length<=1048576:=by rw[<- h3];unfold jg;split <;> simp
    have heq:=j2 (G:=G) lo w0.heap.size x.fields bi.fields hbi.2.1 hbf
    clear h3
    by_cases ho:x.name=bi.name/\x.parent=bi.parent/\x.fields=bi.fields
    ·have n1:¬ x.name≠bi.name:=fun h=>h ho.1
     have n2:¬ x.parent≠bi.parent:=fun h=>h ho.2.1
     rw[decide_eq_true ho.2.2] at heq
     repeat' (first|refine V_ ?_|(refine ak ?_;intro ss bb)|refine ac ?_|refine ai hG hst (heq) ?_)
     exact ah (i+1) ⟨by omega,hks ho⟩ (by omega) (.of _ nw_ od_ (bS.nil _))
    ·rw[hbad ho]
     clear hks hbad
     by_cases hfe:x.fields=bi.fields
     ·rw[decide_eq_true hfe] at heq
      repeat' (first|refine V_ ?_|(refine ak ?_;intro ss bb)|refine ac ?_|refine ai hG hst (heq) ?_|refine g_ (fun hg=>?_) (fun hg=>?_))
      all_goals first
        | (exfalso;exact ho ⟨Decidable.of_not_not (by assumption),Decidable.of_not_not (by assumption),hfe⟩)
        | (exact r1_)
     ·rw[decide_eq_false hfe] at heq
      repeat' (first|refine V_ ?_|(refine ak ?_;intro ss bb)|refine ac ?_|refine ai hG hst (heq) ?_|refine g_ (fun hg=>?_) (fun hg=>?_))
      all_goals
        exact r1_
   ·rw[ng hlow] at hbad hks
    obtain⟨nm,par,fs⟩:=x
    dsimp only at hra hbi hbad hks
    have hx1:nm.size<=1048576:=hbi.1
    have hx2:fs.length<=1048576:=hbi.2.1
    have hx3:∀y∈fs,ByteArray.size y<=1048576:=hbi.2.2
    have hfl:=cg fs
    clear hbl
    repeat' (first|refine H_ 12 ?_|(refine ak ?_;intro ss bb)|refine ac ?_)
    refine⟨d8 ?_⟩
    generalize ss=s3;generalize bb=b3
    apply gq (X:=Unit) [0,4,5,6] (fun _=>[(88,.bool (!decide (dT l i ⟨nm,par,fs⟩)))]) (fun _=>[(s3,b3,.box [.str nm,.int .i64 par,.sl lo 1 (ca fs)])]) (fun _=>True)
    case hk=>(repeat (first|exact j9.nil|(apply j9.cons;rfl)))
    ·repeat' (first|refine W_ ?_|refine ae hG hst (i5 hst _ hx1) ?_|refine ae hG hst (bC _ _ _) ?_|refine g_ (fun hg=>?_) (fun hg=>?_))
     all_goals
       refine eR () trivial (.of _ (cW.envCons (km rfl ?_) cW.envNil) od_ pk_)
       clear hbad hks hk hra hbi
       simp only[Z9,Y3,inR,decide_eq_true_eq,decide_eq_false_iff_not] at *
       by_cases h8:(8:Int)<(fs.length:Int)
       all_goals (try simp only[h8,decide_true,decide_false])
       all_goals first
         | (have:dT l i ⟨nm,par,fs⟩:=⟨by assumption,by dsimp only;omega,by dsimp only;omega,by dsimp only;omega⟩
            simp only[decide_eq_true this,YA]
            done)
         | (have : ¬ dT l i ⟨nm, par, fs⟩ := fun h => by
              obtain⟨h1,h2,h3,h4⟩:=h
              dsimp only at h1 h2 h3 h4
              first
                | omega
                | (simp only[h1] at *;done)
                | (simp_all;done)
            simp only[decide_eq_false this,Yq]
            done)
    intro _ _
    by_cases hh:dT l i ⟨nm,par,fs⟩
    ·rw[decide_eq_true hh,YA]
     have hh2:=hh.2
     obtain⟨⟨hp0,hp1⟩,_,hf8⟩:=hh2
     dsimp only at hp0 hp1 hf8
     obtain⟨p,rfl⟩:∃p:Nat,par=p:=⟨par.toNat,by omega⟩
     have hpl:p<l.length:=by omega
     have hrp:(l.map (aa.tw lo))[p]?=some (l[p].tw lo):=aK hpl
     have hbp:=hsm.2 _ (Zb hpl)
     have hpf:=jH (x:=⟨nm,(p:Int),fs⟩) rfl (Za hpl)
     generalize l[p]=y at hrp hbp hpf
     obtain⟨pn,pp,pf⟩:=y
     replace hrp:(l.map (aa.tw lo))[p]?=some [.str pn,.int .i64 pp,.sl lo 1 (ca pf)]:=hrp
     have hx4:pf.length<=1048576:=hbp.2.1
     have hpl2:=cg pf
     repeat' refine W_ ?_
     apply ap (X:=Nat) [0,4,5,6] (fun k=>[(7,.int .i64 (k:Int))]) (fun _=>[(s3,b3,.box [.str nm,.int .i64 (p:Int),.sl lo 1 (ca fs)])]) (fun k=>k<=i/\∀y∈l.take k,y.name≠nm) (fun k=>i - k) 0 ⟨Ze _,by simp⟩
     exact kp_;exact nw_
     ·exact .refl _
     rintro k ⟨hki,hkn⟩
     try dsimp only
     by_cases hlk:k<i
     ·have hlk2:k<l.length:=by omega
      have hrk:(l.map (aa.tw lo))[k]?=some (l[k].tw lo):=aK hlk2
      have hta:=aY (p:=fun y:aa=>y.name≠nm) hlk2 hkn
      have hmem:l[k]∈l.take i:=List.mem_take_iff_getElem.2 ⟨k,by omega,rfl⟩
      generalize l[k]=z at hrk hta hmem
      obtain⟨zn,zp,zf⟩:=z
      replace hrk:(l.map (aa.tw lo))[k]?=some [.str zn,.int .i64 zp,.sl lo 1 (ca zf)]:=hrk
      by_cases hzn:zn=nm
      ·rw[hbad fun h=>h.2.1 _ hmem hzn]
       repeat' refine V_ ?_
       exact r1_
      ·repeat' refine V_ ?_
       exact ah (k+1) ⟨by omega,hta hzn⟩ (by omega) (.of _ nw_ od_ pk_)
     ·obtain rfl:k=i:=by omega
      clear hlk
      by_cases hhe:pf.length<=fs.length/\fs.take pf.length=pf
      ·have heq:=j2 (G:=G) lo lo (fs.take pf.length) pf (by simp;omega) hx4
       rw[decide_eq_true hhe.2] at heq
       have hsl:(ca fs).take pf.length=ca (fs.take pf.length):=by simp[ca,Xa]
       have hle:=hhe.1
       repeat' (first|refine V_ ?_|refine lQ ?_|refine ai hG hst (heq) ?_)
       apply ap (X:=Nat) [0,4,5,6] (fun k=>[(9,.int .i64 (k:Int))]) (fun _=>[(s3,b3,.box [.str nm,.int .i64 (p:Int),.sl lo 1 (ca fs)])]) (fun k=>k<=fs.length/\∀j,j<k->∀h:j<fs.length,fieldAt fs j fs[j]=true) (fun k=>fs.length - k) 0 ⟨Ze _,by omega⟩
       exact kp_;exact nw_
       ·exact .refl _
       rintro q ⟨hq,hqa⟩
       try dsimp only
       by_cases hqf:q<fs.length
       ·have hfr:=e9 hqf
        have hqs:=hx3 _ (Zb hqf)
        have hqb:=nu hqf
        have hqn:fieldAt fs q fs[q]=true->∀j,j<q+1->∀h:j<fs.length,fieldAt fs j fs[j]=true:=fun h=>cH hqa fun _=>h
        generalize fs[q]=f at hfr hqs hqb hqn
        have hname:=i5 (G:=G) hst f hqs
        have hhas:=yM (G:=G) lo (fs.take q) f (by simp;omega)
        have hsq:(ca fs).take q=ca (fs.take q):=by simp[ca,Xa]
        have hqle:q<=fs.length:=hq
        by_cases hqo:fieldAt fs q f=true
        ·have hqo2:=hqo
         unfold fieldAt at hqo2
         rw[Zq,Z9] at hqo2
         rw[hqo2.1] at hname
         rw[hqo2.2] at hhas
         repeat' (first|refine V_ ?_|refine lQ ?_|refine ai hG hst (hname) ?_|refine ai hG hst (hhas) ?_)
         exact ah (q+1) ⟨by omega,hqn hqo⟩ (by omega) (.of _ nw_ od_ pk_)
        ·rw[hbad fun h=>hqb (Bool.eq_false_iff.2 hqo) h.2.2.2]
         by_cases hqs1:cV f.data.toList=true
         ·have hqs2:kK (fs.take q) f=true:=by
            unfold fieldAt at hqo
            rw[hqs1,Zn] at hqo
            simpa using hqo
          rw[hqs1] at hname
          rw[hqs2] at hhas
          repeat' (first|refine V_ ?_|refine lQ ?_|refine ai hG hst (hname) ?_|refine ai hG hst (hhas) ?_)
          exact r1_
         ·rw[Bool.eq_false_iff.2 hqs1] at hname
          repeat' (first|refine V_ ?_|refine ai hG hst (hname) ?_)
          exact r1_
       ·obtain rfl:q=fs.length:=by omega
        repeat' refine W_ ?_
        exact ah (k+1) ⟨by omega,hks ⟨hh,hkn,⟨by rw[hpf];exact hhe.1,by rw[hpf];exact hhe.2⟩,fun j hj=>hqa j hj hj⟩⟩ (by omega) (.of _ nw_ od_ (bS.nil _))
      ·rw[hbad fun h=>hhe (by have:=h.2.2.1;unfold acF at this;rw[hpf] at this;exact this)]
       by_cases hle:pf.length<=fs.length
       ·have heq:=j2 (G:=G) lo lo (fs.take pf.length) pf (by simp;omega) hx4
        rw[decide_eq_false fun h=>hhe ⟨hle,h⟩] at heq
        have hsl:(ca fs).take pf.length=ca (fs.take pf.length):=by simp[ca,Xa]
        repeat' (first|refine V_ ?_|refine lQ ?_|refine ai hG hst (heq) ?_)
        exact r1_
       ·repeat' refine V_ ?_
        exact r1_
    ·rw[decide_eq_false hh,Yq,hbad fun h=>hh h.1]
     repeat' refine W_ ?_
     exact r1_
  ·rw[ke hl fun j hj=>hk j (by omega)]
   repeat' refine W_ ?_
   exact r1_
 ·rw[lL hl]
  repeat' (first|refine W_ ?_|refine g_ (fun hg=>?_) (fun hg=>?_))
  all_goals first
    | (exfalso;omega)
    | (exact r1_)
end
end Go.Proofs.YtifcomgnmokimaaGreatDoor
